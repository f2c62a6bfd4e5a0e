/-
  Walks over package valtext's reader: integer.
-/
import Derived.Test.YtkahboomahhdoaaDoorRd2
namespace Go.Proofs.YtkahboomahhdoaaDoor
open Go.RowKit

theorem numGo_ok (s : ByteArray) (most : Nat) (h9 : 9 ≤ most) : ∀ (f j m n j' : Nat), numGo s most f j m = .ok (n, j') → m ≤ most → j ≤ s.size → n ≤ most ∧ j ≤ j' ∧ j' ≤ s.size
  | 0, j, m, n, j', h, hm, hj => by
    rw [numGo] at h
    injection h with h
    injection h with h1 h2
    omega
  | f + 1, j, m, n, j', h, hm, hj => by
    rw [numGo] at h
    split at h
    · rename_i hd
      have hlt := dig_lt hd
      have hbt := dig_bt hd
      dsimp only at h
      split at h
      · cases h
      · split at h
        · injection h with h
          injection h with h1 h2
          omega
        · have := numGo_ok s most h9 f (j + 1) _ n j' h (by omega) (by omega)
          omega
    · injection h with h
      injection h with h1 h2
      omega
theorem num_ok {s : ByteArray} {most i n j : Nat} (h : num s most i = .ok (n, j)) (hi : i ≤ s.size) (h9 : 9 ≤ most) : n ≤ most ∧ i ≤ j ∧ j ≤ s.size := by
  unfold num at h
  split at h
  · exact numGo_ok s most h9 _ _ _ _ _ h (by omega) hi
  · cases h

theorem IsV_int {ok : Nat → Prop} {w : World} {n : Int} (h : Rng n) : IsV ok w (.mk 2 n []) (.agg #[.int .i64 2, .int .i64 n, .slice none 0 0]) := by
  rw [IsV]
  exact ⟨none, 0, rfl, by unfold Rng; omega, h, Nat.le_refl _, Nat.zero_le _, by rw [IsR]; trivial⟩

theorem wrap_neg (n : Nat) (h : n ≤ 9223372036854775808) : wrap64 (-(wrap64 (n : Int))) = -(n : Int) := by
  unfold wrap64
  omega

set_option maxHeartbeats 1000000 in
theorem integer_any (b : Nat) (s : ByteArray) (i p : Nat) (w : World) (h : Rd w b s i p) (hs : s.size ≤ maxLen) (hi : i ≤ s.size) :
    Calls Tryd.prog 55 #[.pointer (some ⟨b, 0, none⟩)] w (ValEnds b s w (integer s i p)) := by
  have hs2 := hs
  unfold maxLen at hs2
  have hlt := h.lt
  cases hm : isB s i 45
  · have HM := Lib.hid hm
    clear hm
    rcases hn : num s 9223372036854775807 i with j | ⟨n, j⟩
    · have HN := Lib.hid hn
      clear hn
      go_enter Tryd.func55, Tryd.ntmps55
      go_wp2_with fail
      refine (next_any b s i p 45 _ (h.alloc _) hs (by omega) hi).mono ?_
      rintro e w1 ⟨rfl, n1, rfl⟩
      rw [HM.out]
      go_wp2_with fail
      refine (number_any b s i p 9223372036854775807 _ ((h.alloc _).drewN n1) hs hi (by omega) (by omega)).mono ?_
      rw [HN.out]
      rintro e w1 ⟨rfl, hg⟩
      refine ⟨rfl, ?_⟩
      unfold integer
      rw [HM.out, HN.out]
      exact ⟨rfl, (((Gr.refl b w).alloc _).drewN n1).trans hg⟩
    · have hk := num_ok hn hi (by omega)
      have HN := Lib.hid hn
      clear hn
      go_enter Tryd.func55, Tryd.ntmps55
      go_wp2_with fail
      refine (next_any b s i p 45 _ (h.alloc _) hs (by omega) hi).mono ?_
      rintro e w1 ⟨rfl, n1, rfl⟩
      rw [HM.out]
      go_wp2_with fail
      refine (number_any b s i p 9223372036854775807 _ ((h.alloc _).drewN n1) hs hi (by omega) (by omega)).mono ?_
      rw [HN.out]
      rintro e w1 ⟨rfl, hr1, hg1⟩
      go_wp2_with fail
      refine (vInt_any _ _).mono ?_
      rintro e w2 ⟨rfl, hb2⟩
      have hx := ((((Bx.new w 26 (.int .i64 0) (.int .i64 0) (.slice none 0 0)).drewN n1).gr hg1 (by omega)).belowAll hb2)
      have q0 := hx.c0
      have q1 := hx.c1
      have q2 := hx.c2
      have f0 := hx.fz
      go_wp2_with fail
      refine bodyPost_ret (v := .agg #[.int .i64 2, .int .i64 n, .slice none 0 0]) (by simp [results, Tryd.results55, go_sem, q0, q1, q2]) rfl ?_
      unfold integer
      rw [HM.out, HN.out]
      refine ⟨_, rfl, IsV_int (by unfold Rng; omega), ?_, ?_⟩
      · exact (((hr1.below hb2).far (q := ⟨w.heap.size, 0, none⟩) (by simp; omega) _).far (q := ⟨w.heap.size, 1, none⟩) (by simp; omega) _).far (q := ⟨w.heap.size, 2, none⟩) (by simp; omega) _
      · exact (((((((Gr.refl b w).alloc _).drewN n1).trans hg1).below hb2).setNew (q := ⟨w.heap.size, 0, none⟩) (Nat.le_refl _) _).setNew (q := ⟨w.heap.size, 1, none⟩) (Nat.le_refl _) _).setNew (q := ⟨w.heap.size, 2, none⟩) (Nat.le_refl _) _
  · have HM := Lib.hid hm
    have hlt1 := isB_lt (by omega) hm
    clear hm
    cases hz : isB s (i + 1) 48
    · have HZ := Lib.hid hz
      clear hz
      rcases hn : num s 9223372036854775808 (i + 1) with j | ⟨n, j⟩
      · have HN := Lib.hid hn
        clear hn
        go_enter Tryd.func55, Tryd.ntmps55
        go_wp2_with fail
        refine (next_any b s i p 45 _ (h.alloc _) hs (by omega) hi).mono ?_
        rintro e w1 ⟨rfl, n1, rfl⟩
        rw [HM.out]
        have hr1 := (h.alloc (.cells #[.int .i64 0, .int .i64 0, .slice none 0 0] 26)).drewN n1
        have hg1 := ((Gr.refl b w).alloc (.cells #[.int .i64 0, .int .i64 0, .slice none 0 0] 26)).drewN n1
        have hx1 := (Bx.new w 26 (.int .i64 0) (.int .i64 0) (.slice none 0 0)).drewN n1
        generalize (w.alloc (.cells #[.int .i64 0, .int .i64 0, .slice none 0 0] 26)).drewN n1 = w1 at *
        have d1 := hr1.c1
        have f1 := hr1.fz 1
        go_wp2_with fail
        have hr2 : Rd (w1.setCell ⟨b, 1, none⟩ (.int .i64 ((i : Int) + 1))) b s (i + 1) p := hr1.set1 (i + 1)
        have hg2 := hg1.set 1 (.int .i64 ((i : Int) + 1))
        have hx2 := hx1.far (q := ⟨b, 1, none⟩) (by simp; omega) (.int .i64 ((i : Int) + 1))
        clear d1 f1 hr1 hg1 hx1
        generalize w1.setCell ⟨b, 1, none⟩ (.int .i64 ((i : Int) + 1)) = w2 at *
        refine (next_any b s (i + 1) p 48 _ hr2 hs (by omega) (by omega)).mono ?_
        rintro e w3 ⟨rfl, n3, rfl⟩
        rw [HZ.out]
        go_wp2_with fail
        refine (number_any b s (i + 1) p 9223372036854775808 _ (hr2.drewN n3) hs (by omega) (by omega) (by omega)).mono ?_
        rw [HN.out]
        rintro e w4 ⟨rfl, hg4⟩
        refine ⟨rfl, ?_⟩
        unfold integer
        rw [HM.out, HN.out, HZ.out]
        exact ⟨rfl, (hg2.drewN n3).trans hg4⟩
      · have hk := num_ok hn (by omega) (by omega)
        have HN := Lib.hid hn
        clear hn
        go_enter Tryd.func55, Tryd.ntmps55
        go_wp2_with fail
        refine (next_any b s i p 45 _ (h.alloc _) hs (by omega) hi).mono ?_
        rintro e w1 ⟨rfl, n1, rfl⟩
        rw [HM.out]
        have hr1 := (h.alloc (.cells #[.int .i64 0, .int .i64 0, .slice none 0 0] 26)).drewN n1
        have hg1 := ((Gr.refl b w).alloc (.cells #[.int .i64 0, .int .i64 0, .slice none 0 0] 26)).drewN n1
        have hx1 := (Bx.new w 26 (.int .i64 0) (.int .i64 0) (.slice none 0 0)).drewN n1
        generalize (w.alloc (.cells #[.int .i64 0, .int .i64 0, .slice none 0 0] 26)).drewN n1 = w1 at *
        have d1 := hr1.c1
        have f1 := hr1.fz 1
        go_wp2_with fail
        have hr2 : Rd (w1.setCell ⟨b, 1, none⟩ (.int .i64 ((i : Int) + 1))) b s (i + 1) p := hr1.set1 (i + 1)
        have hg2 := hg1.set 1 (.int .i64 ((i : Int) + 1))
        have hx2 := hx1.far (q := ⟨b, 1, none⟩) (by simp; omega) (.int .i64 ((i : Int) + 1))
        clear d1 f1 hr1 hg1 hx1
        generalize w1.setCell ⟨b, 1, none⟩ (.int .i64 ((i : Int) + 1)) = w2 at *
        refine (next_any b s (i + 1) p 48 _ hr2 hs (by omega) (by omega)).mono ?_
        rintro e w3 ⟨rfl, n3, rfl⟩
        rw [HZ.out]
        go_wp2_with fail
        refine (number_any b s (i + 1) p 9223372036854775808 _ (hr2.drewN n3) hs (by omega) (by omega) (by omega)).mono ?_
        rw [HN.out]
        rintro e w4 ⟨rfl, hr4, hg4⟩
        go_wp2_with fail
        rw [show wrap64 (-(wrap64 (n : Int))) = -(n : Int) from wrap_neg n hk.1]
        refine (vInt_any _ _).mono ?_
        rintro e w5 ⟨rfl, hb5⟩
        have hx := (((hx2.drewN n3).gr hg4 (by omega)).belowAll hb5)
        have q0 := hx.c0
        have q1 := hx.c1
        have q2 := hx.c2
        have f0 := hx.fz
        go_wp2_with fail
        refine bodyPost_ret (v := .agg #[.int .i64 2, .int .i64 (-(n : Int)), .slice none 0 0]) (by simp [results, Tryd.results55, go_sem, q0, q1, q2]) rfl ?_
        unfold integer
        rw [HM.out, HN.out, HZ.out]
        refine ⟨_, rfl, IsV_int (by unfold Rng; omega), ?_, ?_⟩
        · exact (((hr4.below hb5).far (q := ⟨w.heap.size, 0, none⟩) (by simp; omega) _).far (q := ⟨w.heap.size, 1, none⟩) (by simp; omega) _).far (q := ⟨w.heap.size, 2, none⟩) (by simp; omega) _
        · exact (((((hg2.drewN n3).trans hg4).below hb5).setNew (q := ⟨w.heap.size, 0, none⟩) (Nat.le_refl _) _).setNew (q := ⟨w.heap.size, 1, none⟩) (Nat.le_refl _) _).setNew (q := ⟨w.heap.size, 2, none⟩) (Nat.le_refl _) _
    · have HZ := Lib.hid hz
      clear hz
      go_enter Tryd.func55, Tryd.ntmps55
      go_wp2_with fail
      refine (next_any b s i p 45 _ (h.alloc _) hs (by omega) hi).mono ?_
      rintro e w1 ⟨rfl, n1, rfl⟩
      rw [HM.out]
      have hr1 := (h.alloc (.cells #[.int .i64 0, .int .i64 0, .slice none 0 0] 26)).drewN n1
      have hg1 := ((Gr.refl b w).alloc (.cells #[.int .i64 0, .int .i64 0, .slice none 0 0] 26)).drewN n1
      have hx1 := (Bx.new w 26 (.int .i64 0) (.int .i64 0) (.slice none 0 0)).drewN n1
      generalize (w.alloc (.cells #[.int .i64 0, .int .i64 0, .slice none 0 0] 26)).drewN n1 = w1 at *
      have d1 := hr1.c1
      have f1 := hr1.fz 1
      go_wp2_with fail
      have hr2 : Rd (w1.setCell ⟨b, 1, none⟩ (.int .i64 ((i : Int) + 1))) b s (i + 1) p := hr1.set1 (i + 1)
      have hg2 := hg1.set 1 (.int .i64 ((i : Int) + 1))
      have hx2 := hx1.far (q := ⟨b, 1, none⟩) (by simp; omega) (.int .i64 ((i : Int) + 1))
      clear d1 f1 hr1 hg1 hx1
      generalize w1.setCell ⟨b, 1, none⟩ (.int .i64 ((i : Int) + 1)) = w2 at *
      refine (next_any b s (i + 1) p 48 _ hr2 hs (by omega) (by omega)).mono ?_
      rintro e w3 ⟨rfl, n3, rfl⟩
      rw [HZ.out]
      go_wp2_with fail
      refine (fail_any b ((i : Int) + 1) _ (hr2.drewN n3).c1).mono ?_
      rintro e w4 ⟨rfl, rfl⟩
      refine ⟨rfl, ?_⟩
      unfold integer
      rw [HM.out, HZ.out]
      exact ⟨rfl, hg2.drewN n3⟩
end Go.Proofs.YtkahboomahhdoaaDoor
