/-
  Walks over the reference of layer 5: the reader's value at a number below zero.
-/
import Derived.Test.YtkahboomahhdoaaDoorRr6
namespace Go.Proofs.YtkahboomahhdoaaDoor
open Go.RowKit

theorem neg_i64 (n : Nat) (h : n ≤ 9223372036854775808) : IntKind.i64.wrap (IntKind.u64.wrap (-(n : Int))) = -(n : Int) := by
  simp only [IntKind.wrap, IntKind.bits, IntKind.signed]
  simp
  omega
theorem rnum_le {s : ByteArray} {i n j : Nat} (hi : i + 1 ≤ s.size) (h : rnum s 9223372036854775808 1 (i + 1) false = .ok (n, j)) : n ≤ 9223372036854775808 := by
  unfold rnum at h
  split at h
  · cases h
  · split at h
    · cases h
    · exact (num_ok h (by omega) (by omega)).1
set_option maxRecDepth 100000 in
set_option maxHeartbeats 2000000 in
theorem rvalue_neg (s : ByteArray) (i p : Nat) (w : World) (hs : s.size ≤ maxLen) (hi : i < s.size) (hp : p < 256) (hd : dig s i = false) (hm : isB s i 45 = true) :
    Calls Tryd.prog 33 #[rdV s i p false, .int .i64 0] w (RVEnds s w (intRes (-1) p (rnum s 9223372036854775808 1 (i + 1) false))) := by
  have hs2 := hs
  unfold maxLen at hs2
  obtain ⟨W, hW⟩ : ∃ W, W = ((w.alloc (.cells #[.string s, .int .i64 i, .int .i64 ((p : Int) + 1), .bool false] 68)).alloc (.cells #[.string ⟨#[]⟩, .int .i64 0, .int .i64 0, .bool false] 68)).alloc (.cells #[.int .i64 0, .int .i64 0, .slice none 0 0] 26) := ⟨_, rfl⟩
  obtain ⟨hx, hr, hv, hb⟩ := rv_start w s i ((p : Int) + 1) false W hW
  have HW := Lib.hid hW
  clear hW
  have hg1 : decide (s.size ≤ i) = false := by simpa using hi
  have hg2 : decide (256 ≤ (p : Int)) = false := by simp; omega
  have HD := Lib.hid (digV_no hd)
  have HM := Lib.hid hm
  have HG : Hid (sgn s 45 i false = (i + 1, false)) := by show _ = _; rw [sgn, hm]; rfl
  clear hd hm
  rw [rdV_eq]
  go_enter Tryd.func33, Tryd.ntmps33
  go_wp2_with fail
  rw [← HW.out]
  refine (rdigit_any s i ((p : Int) + 1) false _ hs (by omega)).mono ?_
  rw [HD.out]
  rintro e w1 ⟨rfl, hb1⟩
  have hx1 := hx.belowAll hb1
  have hr1 := hr.belowAll hb1
  have hv1 := hv.belowAll hb1
  have hb2 : Below w.heap.size w w1 := hb.trans (hb1.mono hb.size)
  clear hx hr hv hb hb1 HW
  have q0 := hx1.c0
  have q1 := hx1.c1
  have q2 := hx1.c2
  have q3 := hx1.c3
  go_wp2_with fail
  refine (ris_any s i ((p : Int) + 1) false 45 _ hs (by omega) (by omega)).mono ?_
  rw [HM.out]
  rintro e w2 ⟨rfl, hb3⟩
  have hx2 := hx1.belowAll hb3
  have hr2 := hr1.belowAll hb3
  have hv2 := hv1.belowAll hb3
  have hb4 : Below w.heap.size w w2 := hb2.trans (hb3.mono hb2.size)
  clear hx1 hr1 hv1 hb2 hb3 q0 q1 q2 q3
  have q0 := hx2.c0
  have q1 := hx2.c1
  have q2 := hx2.c2
  have q3 := hx2.c3
  go_wp2_with fail
  refine (rsign_any s i ((p : Int) + 1) false 45 _ hs (by omega) (by omega)).mono ?_
  rw [HG.out]
  rintro e w8 ⟨rfl, hb5⟩
  have hx1 := hx2.belowAll hb5
  have hr1 := hr2.belowAll hb5
  have hv1 := hv2.belowAll hb5
  have hb2 : Below w.heap.size w w8 := hb4.trans (hb5.mono hb4.size)
  clear hx2 hr2 hv2 hb4 hb5 q0 q1 q2 q3
  go_wp2_with fail
  refine (rnumber_any s (i + 1) 9223372036854775808 1 ((p : Int) + 1) false _ hs (by omega) (by omega) (by omega) (by omega)).mono ?_
  intro e w3 h3
  obtain ⟨j, n, bd, rfl, hb3, hres⟩ := h3.out
  have HRES := Lib.hid hres
  clear h3 hres
  have hx3 := hx1.belowAll hb3
  have hr3 := hr1.belowAll hb3
  have hv3 := hv1.belowAll hb3
  have hb4 := hb2.trans (hb3.mono hb2.size)
  clear hx1 hr1 hv1 hb2 hb3
  rw [rdV_eq]
  go_wp2_with fail
  have hy := B4.new w3 68 (.string s) (.int .i64 (j : Int)) (.int .i64 ((p : Int) + 1)) (.bool bd)
  have hr5 := hr3.alloc (.cells #[.string s, .int .i64 (j : Int), .int .i64 ((p : Int) + 1), .bool bd] 68)
  have hv5 := hv3.alloc (.cells #[.string s, .int .i64 (j : Int), .int .i64 ((p : Int) + 1), .bool bd] 68)
  have hb5 := hb4.trans ((below_alloc w3 (.cells #[.string s, .int .i64 (j : Int), .int .i64 ((p : Int) + 1), .bool bd] 68)).mono hb4.size)
  have hsz3 := hb4.size
  generalize w3.alloc (.cells #[.string s, .int .i64 (j : Int), .int .i64 ((p : Int) + 1), .bool bd] 68) = w5 at *
  generalize w3.heap.size = y at *
  clear hx3 hr3 hv3 hb4
  have y0 := hy.c0
  have y1 := hy.c1
  have y2 := hy.c2
  have y3 := hy.c3
  have hn : n ≤ 9223372036854775808 := by
    rcases HRES.out with ⟨_, _, rfl⟩ | ⟨h1, _⟩
    · omega
    · exact rnum_le (by omega) h1
  have hwr : IntKind.i64.wrap (IntKind.u64.wrap (-(n : Int))) = -(n : Int) := neg_i64 n hn
  go_region_with (go_at_call 27; refine (rInt_any _ _).mono ?_; rintro e w9 ⟨rfl, hb9⟩; have y0 := (B4.belowAll (w := w5.drew) hy hb9).c0; have y1 := (B4.belowAll (w := w5.drew) hy hb9).c1; have y2 := (B4.belowAll (w := w5.drew) hy hb9).c2; have y3 := (B4.belowAll (w := w5.drew) hy hb9).c3; have z0 := (B4.belowAll (w := w5.drew) hr5 hb9).c0; have z1 := (B4.belowAll (w := w5.drew) hr5 hb9).c1; have z2 := (B4.belowAll (w := w5.drew) hr5 hb9).c2; have z3 := (B4.belowAll (w := w5.drew) hr5 hb9).c3; have zf := (B4.belowAll (w := w5.drew) hr5 hb9).fz; have x0 := (Bx.belowAll (w := w5.drew) hv5 hb9).c0; have x1 := (Bx.belowAll (w := w5.drew) hv5 hb9).c1; have x2 := (Bx.belowAll (w := w5.drew) hv5 hb9).c2; have xf := (Bx.belowAll (w := w5.drew) hv5 hb9).fz)
  all_goals
    go_wp2_with fail
    have hr9 := ((B4.belowAll (w := w5.drew) hr5 hb9).put (.string s) (.int .i64 (j : Int)) (.int .i64 ((p : Int) + 1)) (.bool bd)).far3 (g' := w.heap.size + 1 + 1) (by omega) (.int .i64 2) (.int .i64 (-(n : Int))) (.slice none 0 0)
    have hv9 := ((Bx.belowAll (w := w5.drew) hv5 hb9).far4 (g' := w.heap.size + 1) (by omega) (.string s) (.int .i64 (j : Int)) (.int .i64 ((p : Int) + 1)) (.bool bd)).put (.int .i64 2) (.int .i64 (-(n : Int))) (.slice none 0 0)
    refine bodyPost_ret (v := .tuple #[rdV s j ((p : Int) + 1) bd, .agg #[.int .i64 2, .int .i64 (-(n : Int)), .slice none 0 0]]) (by simp [results, Tryd.results33, go_sem, hr9.c0, hr9.c1, hr9.c2, hr9.c3, hv9.c0, hv9.c1, hv9.c2, rdV]) rfl ?_
    have hb10 : Below w.heap.size w w9 := hb5.drew.trans (hb9.mono hb5.size)
    have hbf := below_put3 (below_put4 hb10 (g := w.heap.size + 1) (by omega) (.string s) (.int .i64 (j : Int)) (.int .i64 ((p : Int) + 1)) (.bool bd)) (g := w.heap.size + 1 + 1) (by omega) (.int .i64 2) (.int .i64 (-(n : Int))) (.slice none 0 0)
    rcases HRES.out with ⟨h1, rfl, rfl⟩ | ⟨h1, rfl⟩
    · rw [h1]; exact ⟨_, _, _, _, _, _, rfl, hbf⟩
    · rw [h1]
      have e1 : (-1 : Int) * (n : Int) = -(n : Int) := by omega
      unfold intRes
      dsimp only
      rw [e1]
      exact ⟨_, rfl, IsV_int (by unfold Rng; omega), hbf⟩
end Go.Proofs.YtkahboomahhdoaaDoor
