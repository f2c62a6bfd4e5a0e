/-
  The statements ValtextWords and ValtextParses, walked.
-/
import Derived.Test.YtkahboomahhdoaaDoorWk7
import Derived.Test.YtkahboomahhdoaaDoorNd
namespace Go.Proofs.YtkahboomahhdoaaDoor
open Go.RowKit

set_option maxRecDepth 100000 in
set_option maxHeartbeats 2000000 in
theorem words_law (k : Int) (s : ByteArray) (hs : s.size ≤ maxLen) (w : World) (hE : Env w) : Calls Tryd.prog 5 #[.int .i64 k, .string s] w fun e w' => e = .returned (.bool true) ∧ Below w.heap.size w w' := by
  unfold maxLen at hs
  by_cases hl : 100 < s.size
  · have hd : decide (100 < (s.size : Int)) = true := by simp; omega
    go_enter Tryd.func5, Tryd.ntmps5
    go_wp2_with fail
    refine (works_any _ hE).mono ?_
    rintro e w1 ⟨rfl, hb1⟩
    go_wp2_with fail
    go_ret
    exact ⟨rfl, hb1⟩
  · have hd : decide (100 < (s.size : Int)) = false := by simp; omega
    obtain ⟨kv, hkv⟩ : ∃ kv, kv = kindT s := ⟨_, rfl⟩
    have HKV := Lib.hid hkv
    clear hkv
    have h1 := Word_any k w hE.words
    have h2 := refWord_any k w
    obtain ⟨wd, hwd⟩ : ∃ wd, wd = wordT k := ⟨_, rfl⟩
    obtain ⟨hw, hhw⟩ : ∃ hw, hw = hasW k := ⟨_, rfl⟩
    rw [← hwd, ← hhw] at h1 h2
    have H1 := Lib.hid h1
    have H2 := Lib.hid h2
    clear h1 h2 hwd hhw
    rcases kv with _ | kk
    all_goals
      cases hw
      all_goals
        go_enter Tryd.func5, Tryd.ntmps5
        go_wp2_with fail
        refine H1.out.mono ?_
        rintro e w1 ⟨rfl, rfl⟩
        go_wp2_with fail
        refine H2.out.mono ?_
        rintro e w2 ⟨rfl, hb2⟩
        have hE2 := hE.below hb2 hE.size
        go_wp2_with fail
        refine (Kind_any s _ hE2.words).mono ?_
        rw [← HKV.out]
        rintro e w3 ⟨rfl, rfl⟩
        unfold kindV
        dsimp only
        go_wp2_with fail
        refine (rKind_any s _).mono ?_
        rw [← HKV.out]
        rintro e w4 ⟨rfl, hb4⟩
        have hE4 := hE2.below hb4 hE2.size
        have hb5 := hb2.trans (hb4.mono hb2.size)
        unfold kindV
        dsimp only
        go_wp2_with fail
        refine (works_any _ hE4).mono ?_
        rintro e w6 ⟨rfl, hb6⟩
        go_wp2_with fail
        go_ret
        exact ⟨rfl, hb5.trans (hb6.mono hb5.size)⟩

/-- What Parse hands back: the value, the place, the error. -/
def resP (r : Except Nat VT) : VT × Nat × Nat := match r with
  | .error j => (zeroT, j, 50)
  | .ok t => (t, 0, 0)
theorem resP_nd {s : ByteArray} {t : VT} {j er : Nat} (h : resP (parse s) = (t, j, er)) : nd t ≤ 256 := by
  rcases hp : parse s with j' | t'
  · rw [hp] at h
    injection h with h1
    rw [← h1]
    decide
  · rw [hp] at h
    injection h with h1
    rw [← h1]
    exact parse_nd hp
theorem parse_out {s : ByteArray} {t : VT} {j er : Nat} (h : resP (parse s) = (t, j, er)) {w w' : World} {e : Ending} (he : ParseEnds w (parse s) e w') : ∃ (k n : Int) (a : Option Addr) (len cap : Nat), e = .returned (.tuple #[.agg #[.int .i64 k, .int .i64 n, .slice a len cap], .int .i64 (j : Int), .int .i64 (er : Int)]) ∧
    IsV (fun g => w.heap.size ≤ g ∧ g < w'.heap.size) w' t (.agg #[.int .i64 k, .int .i64 n, .slice a len cap]) ∧ Below w.heap.size w w' := by
  rcases hp : parse s with j' | t'
  · rw [hp] at h he
    injection h with h1 h2
    injection h2 with h2 h3
    subst h1 h2 h3
    obtain ⟨rfl, hb⟩ := he
    exact ⟨0, 0, none, 0, 0, rfl, IsV_zero _ _, hb⟩
  · rw [hp] at h he
    injection h with h1 h2
    injection h2 with h2 h3
    subst h1 h2 h3
    obtain ⟨v, rfl, hv, hb⟩ := he
    obtain ⟨k, n, a, len, cap, rfl⟩ := hv.form
    exact ⟨k, n, a, len, cap, rfl, hv, hb⟩

set_option maxRecDepth 100000 in
set_option maxHeartbeats 2000000 in
theorem parses_law (s : ByteArray) (hs : s.size ≤ maxLen) (w : World) (hE : Env w) : Calls Tryd.prog 3 #[.string s] w fun e w' => e = .returned (.bool true) ∧ Below w.heap.size w w' := by
  have hs2 := hs
  unfold maxLen at hs2
  by_cases hl : 600 < s.size
  · have hd : decide (600 < (s.size : Int)) = true := by simp; omega
    go_enter Tryd.func3, Tryd.ntmps3
    go_wp2_with fail
    refine (works_any _ hE).mono ?_
    rintro e w1 ⟨rfl, hb1⟩
    go_wp2_with fail
    go_ret
    exact ⟨rfl, hb1⟩
  · have hd : decide (600 < (s.size : Int)) = false := by simp; omega
    obtain ⟨⟨t, j, er⟩, hres⟩ : ∃ x, resP (parse s) = x := ⟨_, rfl⟩
    have hnd := resP_nd hres
    have HRES := Lib.hid hres
    clear hres
    go_enter Tryd.func3, Tryd.ntmps3
    go_wp2_with fail
    refine (Parse_any s hs _ hE.words).mono ?_
    intro e w1 h1
    obtain ⟨k, n, a, len, cap, rfl, hv1, hb1⟩ := parse_out HRES.out h1
    have hE1 := hE.below hb1 hE.size
    go_upto_region 4 with fail
    have hx2 := Bx.new w1 26 (.int .i64 k) (.int .i64 n) (.slice a len cap)
    have hb2 := below_alloc w1 (.cells #[.int .i64 k, .int .i64 n, .slice a len cap] 26)
    have hE2 := hE1.below hb2 hE1.size
    have hv2 := IsV.later (hv1.more fun g hg => hg.2) hb2
    have hb3 := hb1.trans (hb2.mono hb1.size)
    clear h1 hb1 hb2 hE1 hv1
    generalize w1.alloc (.cells #[.int .i64 k, .int .i64 n, .slice a len cap] 26) = w2 at *
    generalize w1.heap.size = g1 at *
    go_wp2_with fail
    refine (rParse_any s hs _).mono ?_
    intro e w3 h3
    obtain ⟨k', n', a', len', cap', rfl, hv3, hb4⟩ := parse_out HRES.out h3
    have hx3 := hx2.belowAll hb4
    have hE3 := hE2.below hb4 hE2.size
    have hv4 := hv2.later hb4
    have hb5 := hb3.trans (hb4.mono hb3.size)
    have hv5 := hv3.more (ok' := (· < w3.heap.size)) fun g hg => hg.2
    clear h3 hb4 hb3 hE2 hv3 hx2 hv2
    go_upto_region 5 with fail
    have hb6 := below_alloc w3 (.cells #[.int .i64 k', .int .i64 n', .slice a' len' cap'] 26)
    have hx4 := hx3.belowAll hb6
    have hy4 := Bx.new w3 26 (.int .i64 k') (.int .i64 n') (.slice a' len' cap')
    have hE4 := hE3.below hb6 hE3.size
    have hv6 := hv4.later hb6
    have hv7 := hv5.later hb6
    have hb7 := hb5.trans (hb6.mono hb5.size)
    clear hx3 hE3 hv4 hv5 hb5 hb6
    generalize w3.alloc (.cells #[.int .i64 k', .int .i64 n', .slice a' len' cap'] 26) = w4 at *
    generalize w3.heap.size = g3 at *
    have q0 := hx4.c0
    have q1 := hx4.c1
    have q2 := hx4.c2
    have y0 := hy4.c0
    have y1 := hy4.c1
    have y2 := hy4.c2
    go_wp2_with fail
    refine (rSame_any t t _ _ _ hv6 hv7 (by omega) (by omega)).mono ?_
    rw [same_refl hnd]
    rintro e w5 ⟨rfl, hb8⟩
    have hE5 := hE4.below hb8 hE4.size
    have hb9 := hb7.trans (hb8.mono hb7.size)
    go_wp2_with fail
    refine (num_any _ _).mono ?_
    rintro e w6 ⟨rfl, rfl⟩
    go_wp2_with fail
    refine (works_any _ hE5).mono ?_
    rintro e w7 ⟨rfl, hb10⟩
    go_wp2_with fail
    go_ret
    exact ⟨rfl, hb9.trans (hb10.mono hb9.size)⟩
end Go.Proofs.YtkahboomahhdoaaDoor
