/-
  Walks over the reference of layer 5: value, Parse.
-/
import Derived.Test.YtjldbbcdhdfliaaGreatDoorRr9
namespace Go.Proofs.YtjldbbcdhdfliaaGreatDoor
open Go.RowKit

theorem rvalue_any (s : ByteArray) (hs : s.size ≤ maxLen) : ∀ f, RValC s f
  | 0 => by
    intro sa i p w ha hi hp hpf
    refine (rvalue_end s i p sa w hs (.inr (by omega)) hi).mono ?_
    rintro e w' ⟨rfl, hb⟩
    exact ⟨_, _, _, _, _, _, rfl, hb⟩
  | f + 1 => by
    intro sa i p w ha hi hp hpf
    rw [pVal_ref s f sa i p ha]
    unfold rVal
    by_cases h1 : s.size ≤ i ∨ 256 ≤ p
    · rw [if_pos h1]
      refine (rvalue_end s i p sa w hs h1 hi).mono ?_
      rintro e w' ⟨rfl, hb⟩
      exact ⟨_, _, _, _, _, _, rfl, hb⟩
    · rw [if_neg h1]
      by_cases h2 : sa = 0 ∧ dig s i = true
      · rw [if_pos h2]
        obtain ⟨rfl, hd⟩ := h2
        have h := rvalue_num s i p w hs (by omega) (by omega) hd
        have e : intRes 1 p (num s 9223372036854775807 i) = (match num s 9223372036854775807 i with
            | .error j => .error j
            | .ok (n, j) => .ok (.mk 2 n [], j, p + 1)) := by
          rcases num s 9223372036854775807 i with j | ⟨n, j⟩
          · rfl
          · show Except.ok (VT.mk 2 (1 * (n : Int)) [], j, p + 1) = _
            rw [Int.one_mul]
        rw [e] at h
        exact h
      · rw [if_neg h2]
        by_cases h3 : sa = 0 ∧ isB s i 45 = true
        · rw [if_pos h3]
          obtain ⟨rfl, hm⟩ := h3
          have hd : dig s i = false := by
            cases hd : dig s i
            · rfl
            · exact absurd ⟨rfl, hd⟩ h2
          have h := rvalue_neg s i p w hs (by omega) (by omega) hd hm
          have e : intRes (-1) p (rnum s 9223372036854775808 1 (i + 1) false) = (match rnum s 9223372036854775808 1 (i + 1) false with
              | .error j => .error j
              | .ok (n, j) => .ok (.mk 2 (-n) [], j, p + 1)) := by
            rcases rnum s 9223372036854775808 1 (i + 1) false with j | ⟨n, j⟩
            · rfl
            · show Except.ok (VT.mk 2 (-1 * (n : Int)) [], j, p + 1) = _
              rw [Int.neg_mul, Int.one_mul]
          rw [e] at h
          exact h
        · rw [if_neg h3]
          exact rvalue_word s f (rvalue_any s hs f) i p sa w hs (by omega) (by omega) (by omega) ha fun h0 => ⟨by
            cases hd : dig s i
            · rfl
            · exact absurd ⟨h0, hd⟩ h2, by
            cases hd : isB s i 45
            · rfl
            · exact absurd ⟨h0, hd⟩ h3⟩

theorem RVEnds.out {s : ByteArray} {w w' : World} {r : Except Nat (VT × Nat × Nat)} {e : Ending} (h : RVEnds s w r e w') : ∃ (j : Nat) (p : Int) (bd : Bool) (k n : Int) (a : Option Addr) (len cap : Nat), e = .returned (.tuple #[.agg #[.string s, .int .i64 (j : Int), .int .i64 p, .bool bd], .agg #[.int .i64 k, .int .i64 n, .slice a len cap]]) ∧ Below w.heap.size w w' ∧
    ((r = .error j ∧ bd = true) ∨ (bd = false ∧ ∃ t p2, r = .ok (t, j, p2) ∧ IsV (fun g => w.heap.size ≤ g ∧ g < w'.heap.size) w' t (.agg #[.int .i64 k, .int .i64 n, .slice a len cap]))) := by
  rcases r with j | ⟨t, j, p2⟩
  · obtain ⟨p', k, n, a, len, cap, rfl, hb⟩ := h
    exact ⟨j, p', true, k, n, a, len, cap, rfl, hb, .inl ⟨rfl, rfl⟩⟩
  · obtain ⟨v, rfl, hv, hb⟩ := h
    have hv2 := hv
    obtain ⟨kk, nn, ll⟩ := t
    rw [IsV] at hv2
    obtain ⟨a3, c3, rfl, -⟩ := hv2
    exact ⟨j, p2, false, kk, nn, a3, ll.length, c3, rfl, hb, .inr ⟨rfl, _, p2, rfl, hv⟩⟩

set_option maxRecDepth 100000 in
set_option maxHeartbeats 2000000 in
theorem rParse_any (s : ByteArray) (hs : s.size ≤ maxLen) (w : World) : Calls Tryz.prog 40 #[.string s] w (ParseEnds w (parse s)) := by
  have hs2 := hs
  unfold maxLen at hs2
  have hq := Bx.new w 27 (.int .i64 0) (.int .i64 0) (.slice none 0 0)
  have hbq := below_alloc w (.cells #[.int .i64 0, .int .i64 0, .slice none 0 0] 27)
  go_enter Tryz.func40, Tryz.ntmps40
  go_wp2_with fail
  generalize w.alloc (.cells #[.int .i64 0, .int .i64 0, .slice none 0 0] 27) = wq at *
  refine (rvalue_any s hs 256 0 0 0 _ (.inl rfl) (by omega) (by omega) (by omega)).mono ?_
  intro e w3 h3
  obtain ⟨j, p, bd, k, n, a, len, cap, rfl, hb3, hres⟩ := h3.out
  have HRES := Lib.hid hres
  clear h3 hres
  have hq3 := hq.belowAll hb3
  have hb4 := hbq.trans (hb3.mono hbq.size)
  have hqs := hbq.size
  have hql := hq.lt
  clear hq
  go_upto_region 2 with fail
  have hy := (B4.new w3 138 (.string s) (.int .i64 (j : Int)) (.int .i64 p) (.bool bd)).alloc (.cells #[.int .i64 k, .int .i64 n, .slice a len cap] 27)
  have hz := Bx.new (w3.alloc (.cells #[.string s, .int .i64 (j : Int), .int .i64 p, .bool bd] 138)) 27 (.int .i64 k) (.int .i64 n) (.slice a len cap)
  have hsz10 : (w3.alloc (.cells #[.string s, .int .i64 (j : Int), .int .i64 p, .bool bd] 138)).heap.size = w3.heap.size + 1 := by simp
  rw [hsz10] at hz
  have hb10 : Below w3.heap.size w3 ((w3.alloc (.cells #[.string s, .int .i64 (j : Int), .int .i64 p, .bool bd] 138)).alloc (.cells #[.int .i64 k, .int .i64 n, .slice a len cap] 27)) := two_alloc _ _ _
  have hq5 := hq3.belowAll hb10
  have hb5 := hb4.trans (hb10.mono hb4.size)
  have hs3 := hb3.size
  clear hsz10 hq3 hb4
  generalize (w3.alloc (.cells #[.string s, .int .i64 (j : Int), .int .i64 p, .bool bd] 138)).alloc (.cells #[.int .i64 k, .int .i64 n, .slice a len cap] 27) = w5 at *
  have y0 := hy.c0
  have y1 := hy.c1
  have y2 := hy.c2
  have y3 := hy.c3
  have q0 := hq5.c0
  have q1 := hq5.c1
  have q2 := hq5.c2
  have qf := hq5.fz
  have z0 := hz.c0
  have z1 := hz.c1
  have z2 := hz.c2
  have hn1 : ¬ w3.heap.size = w.heap.size := by omega
  have hn2 : ¬ w.heap.size = w3.heap.size := by omega
  have hp0 : ∀ r, pVal s 256 (asM 0) 0 0 = r → parse s = match r with
      | .error j => .error j
      | .ok (t, i, _) => if i < s.size then .error i else .ok t := by
    intro r hr
    unfold parse
    rw [← asM0, hr]
    rcases r with j | ⟨t, i, p⟩ <;> rfl
  have HP0 := Lib.hid hp0
  clear hp0
  by_cases hbad : bd = true ∨ j < s.size
  · have hres2 : Hid (parse s = .error j) := by
      show _ = _
      rcases HRES.out with ⟨h1, _⟩ | ⟨h0, t, p2, h1, _⟩
      · rw [HP0.out _ h1]
      · rw [HP0.out _ h1]
        dsimp only
        rw [if_pos (by rcases hbad with h | h; · rw [h0] at h; cases h
                       · exact h)]
    rcases hbad with rfl | hlt
    · go_wp2_with fail
      go_region
      all_goals
        go_wp2_with fail
        have hq9 := (hq5.put (.int .i64 0) (.int .i64 0) (.slice none 0 0)).drew
        refine bodyPost_ret (v := .tuple #[.agg #[.int .i64 0, .int .i64 0, .slice none 0 0], .int .i64 j, .int .i64 50]) (by simp [results, Tryz.results40, go_sem, hq9.c0, hq9.c1, hq9.c2]) rfl ?_
        rw [hres2.out]
        exact ⟨rfl, (below_put3 hb5 (Nat.le_refl _) _ _ _).drew⟩
    · have hd : decide (j < s.size) = true := by simpa using hlt
      cases bd
      all_goals
        go_wp2_with fail
        go_region
        all_goals
          go_wp2_with fail
          have hq9 := (hq5.put (.int .i64 0) (.int .i64 0) (.slice none 0 0)).drew
          refine bodyPost_ret (v := .tuple #[.agg #[.int .i64 0, .int .i64 0, .slice none 0 0], .int .i64 j, .int .i64 50]) (by simp [results, Tryz.results40, go_sem, hq9.c0, hq9.c1, hq9.c2]) rfl ?_
          rw [hres2.out]
          exact ⟨rfl, (below_put3 hb5 (Nat.le_refl _) _ _ _).drew⟩
  · obtain rfl : bd = false := by cases bd; rfl; exact absurd (.inl rfl) hbad
    have hlt : ¬ j < s.size := fun h => hbad (.inr h)
    have hd : decide (j < s.size) = false := by simpa using hlt
    go_wp2_with fail
    have hq9 := (hq5.put (.int .i64 k) (.int .i64 n) (.slice a len cap))
    refine bodyPost_ret (v := .tuple #[.agg #[.int .i64 k, .int .i64 n, .slice a len cap], .int .i64 0, .int .i64 0]) (by simp [results, Tryz.results40, go_sem, hq9.c0, hq9.c1, hq9.c2]) rfl ?_
    rcases HRES.out with ⟨_, h1⟩ | ⟨h0, t, p2, h1, hv⟩
    · cases h1
    · have e : parse s = .ok t := by rw [HP0.out _ h1]; dsimp only; rw [if_neg hlt]
      rw [e]
      refine ⟨_, rfl, (hv.keep ?_).more ?_, below_put3 hb5 (Nat.le_refl _) _ _ _⟩
      · intro g ⟨hga, hgb⟩ o
        refine World.cell?_of_block (w := w3) ?_
        have hg : g ≠ w.heap.size := by omega
        show (put3 w5 w.heap.size _ _ _).heap[g]? = _
        rw [Below.heap_setCell _ _ _ _ hg, Below.heap_setCell _ _ _ _ hg, Below.heap_setCell _ _ _ _ hg]
        exact hb10.block g hgb
      · intro g ⟨hga, hgb⟩
        have := hb10.size
        refine ⟨by omega, ?_⟩
        simp [World.setCell]
        omega
end Go.Proofs.YtjldbbcdhdfliaaGreatDoor
