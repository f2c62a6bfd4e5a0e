/-
  The statement ValtextDeep, walked.
-/
import Derived.Test.YtkahboomahhdoaaDoorLaw1
namespace Go.Proofs.YtkahboomahhdoaaDoor
open Go.RowKit

theorem repeatL_len (l : List UInt8) : ∀ c, (Lib.repeatL l c).length = c * l.length
  | 0 => by simp [Lib.repeatL]
  | c + 1 => by simp [Lib.repeatL, repeatL_len l c, Nat.succ_mul]; omega
theorem rep_any (s : ByteArray) (c : Nat) (hc : c ≤ 200) (hs : s.size ≤ 5) (w : World) : Calls Tryd.prog 26 #[.string s, .int .i64 (c : Int)] w fun e w' => (∃ r : ByteArray, r.size ≤ 1000 ∧ e = .returned (.string r)) ∧ Below w.heap.size w w' := by
  have hm : s.size * c ≤ 5 * 200 := Nat.mul_le_mul hs hc
  refine (Tryd.strings_Repeat s c w (by omega) (by omega)).mono ?_
  rintro e w' ⟨rfl, hb⟩
  refine ⟨⟨_, ?_, rfl⟩, hb⟩
  show (Lib.repeatL s.data.toList c).toArray.size ≤ 1000
  have e1 : s.data.toList.length = s.size := by simp
  rw [List.size_toArray, repeatL_len, e1, Nat.mul_comm]
  omega

set_option maxRecDepth 100000 in
set_option maxHeartbeats 4000000 in
theorem deep_law (d : Int) (s0 : ByteArray) (cl : Bool) (hs0 : s0.size ≤ maxLen) (w : World) (hE : Env w) : Calls Tryd.prog 8 #[.int .i64 d, .string s0, .bool cl] w fun e w' => e = .returned (.bool true) ∧ Below w.heap.size w w' := by
  have hs2 := hs0
  unfold maxLen at hs2
  by_cases hout : d < 0 ∨ 200 < d ∨ 40 < s0.size
  · by_cases h1 : d < 0
    · have hd1 : decide (d < 0) = true := by simpa using h1
      go_enter Tryd.func8, Tryd.ntmps8
      go_wp2_with fail
      refine (works_any _ hE).mono ?_
      rintro e w1 ⟨rfl, hb1⟩
      go_wp2_with fail
      go_ret
      exact ⟨rfl, hb1⟩
    · have hd1 : decide (d < 0) = false := by simpa using h1
      by_cases h2 : 200 < d
      · have hd2 : decide (200 < d) = true := by simpa using h2
        go_enter Tryd.func8, Tryd.ntmps8
        go_wp2_with fail
        refine (works_any _ hE).mono ?_
        rintro e w1 ⟨rfl, hb1⟩
        go_wp2_with fail
        go_ret
        exact ⟨rfl, hb1⟩
      · have hd2 : decide (200 < d) = false := by simpa using h2
        have hd3 : decide (40 < (s0.size : Int)) = true := by simp; omega
        go_enter Tryd.func8, Tryd.ntmps8
        go_wp2_with fail
        refine (works_any _ hE).mono ?_
        rintro e w1 ⟨rfl, hb1⟩
        go_wp2_with fail
        go_ret
        exact ⟨rfl, hb1⟩
  · obtain ⟨c, rfl⟩ : ∃ c : Nat, d = (c : Int) := ⟨d.toNat, by omega⟩
    have hd1 : decide ((c : Int) < 0) = false := by simp
    have hd2 : decide (200 < (c : Int)) = false := by simp; omega
    have hd3 : decide (40 < (s0.size : Int)) = false := by simp; omega
    go_enter Tryd.func8, Tryd.ntmps8
    go_wp2_with fail
    refine (rep_any ⟨#[112, 97, 105, 114, 40]⟩ c (by omega) (by decide) _).mono ?_
    rintro e w8 ⟨⟨r1, hr1, rfl⟩, hb8⟩
    have hE8 := hE.below hb8 hE.size
    have hn1 : ¬ 9223372036854775807 < r1.size + s0.size := by omega
    go_upto_if 30 with fail
    go_cut [7] (fun s7 wx => ∃ s : ByteArray, s.size ≤ 3000 ∧ s7 = .string s ∧ Env wx ∧ Below w.heap.size w wx)
    case first =>
      cases cl
      · go_wp2_with fail
        go_meet
        exact ⟨_, by simp; omega, rfl, hE8, hb8⟩
      · go_wp2_with fail
        refine (rep_any ⟨#[44, 49, 41]⟩ c (by omega) (by decide) _).mono ?_
        rintro e w9 ⟨⟨r2, hr2, rfl⟩, hb9⟩
        have hn2 : ¬ 9223372036854775807 < r1.size + s0.size + r2.size := by omega
        go_wp2_with fail
        go_meet
        exact ⟨_, by simp; omega, rfl, hE8.below hb9 hE8.size, hb8.trans (hb9.mono hb8.size)⟩
    case rest =>
    obtain ⟨s, hsz, rfl, hE9, hb0⟩ := hcut
    have hs : s.size ≤ maxLen := by unfold maxLen; omega
    clear hE8 hb8 hn1
    obtain ⟨⟨t, j, er⟩, hres⟩ : ∃ x, resP (parse s) = x := ⟨_, rfl⟩
    have hnd := resP_nd hres
    have HRES := Lib.hid hres
    clear hres
    go_wp2_with fail
    refine (Parse_any s hs _ hE9.words).mono ?_
    intro e w1 h1
    obtain ⟨k, n, a, len, cap, rfl, hv1, hb1⟩ := parse_out HRES.out h1
    have hE1 := hE9.below hb1 hE9.size
    go_upto_region 7 with fail
    have hx2 := Bx.new w1 26 (.int .i64 k) (.int .i64 n) (.slice a len cap)
    have hb2 := below_alloc w1 (.cells #[.int .i64 k, .int .i64 n, .slice a len cap] 26)
    have hE2 := hE1.below hb2 hE1.size
    have hv2 := IsV.later (hv1.more fun g hg => hg.2) hb2
    have hb3 := hb1.trans (hb2.mono hb1.size)
    clear h1 hb1 hb2 hE1 hv1
    generalize w1.alloc (.cells #[.int .i64 k, .int .i64 n, .slice a len cap] 26) = w2 at *
    generalize w1.heap.size = g1 at *
    go_wp2_with fail
    refine (rParse_any s hs _).mono ?_
    intro e w3 h3
    obtain ⟨k', n', a', len', cap', rfl, hv3, hb4⟩ := parse_out HRES.out h3
    have hx3 := hx2.belowAll hb4
    have hE3 := hE2.below hb4 hE2.size
    have hv4 := hv2.later hb4
    have hb5 := hb3.trans (hb4.mono hb3.size)
    have hv5 := hv3.more (ok' := (· < w3.heap.size)) fun g hg => hg.2
    clear h3 hb4 hb3 hE2 hv3 hx2 hv2
    go_upto_region 8 with fail
    have hb6 := below_alloc w3 (.cells #[.int .i64 k', .int .i64 n', .slice a' len' cap'] 26)
    have hx4 := hx3.belowAll hb6
    have hy4 := Bx.new w3 26 (.int .i64 k') (.int .i64 n') (.slice a' len' cap')
    have hE4 := hE3.below hb6 hE3.size
    have hv6 := hv4.later hb6
    have hv7 := hv5.later hb6
    have hb7 := hb5.trans (hb6.mono hb5.size)
    clear hx3 hE3 hv4 hv5 hb5 hb6
    generalize w3.alloc (.cells #[.int .i64 k', .int .i64 n', .slice a' len' cap'] 26) = w4 at *
    generalize w3.heap.size = g3 at *
    have q0 := hx4.c0
    have q1 := hx4.c1
    have q2 := hx4.c2
    have y0 := hy4.c0
    have y1 := hy4.c1
    have y2 := hy4.c2
    go_wp2_with fail
    refine (rSame_any t t _ _ _ hv6 hv7 (by omega) (by omega)).mono ?_
    rw [same_refl hnd]
    rintro e w5 ⟨rfl, hb8⟩
    have hE5 := hE4.below hb8 hE4.size
    have hb9 := hb7.trans (hb8.mono hb7.size)
    go_wp2_with fail
    refine (num_any _ _).mono ?_
    rintro e w6 ⟨rfl, rfl⟩
    go_wp2_with fail
    refine (works_any _ hE5).mono ?_
    rintro e w7 ⟨rfl, hb10⟩
    go_wp2_with fail
    go_ret
    have hbz := hb9.trans (hb10.mono hb9.size)
    exact ⟨rfl, hb0.trans (hbz.mono hb0.size)⟩
end Go.Proofs.YtkahboomahhdoaaDoor
