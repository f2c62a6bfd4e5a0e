/-
 Walks over the reference of layer 5: the reader's value at a word: the walk.
-/
import Derived.Test.YtjldbbcdhdfliaaGreatDoorRrB
namespace Go.Proofs.YtjldbbcdhdfliaaGreatDoor
open Go.RowKit

theorem tail_close {s : ByteArray} {f : Nat} {nb : Bool} {least most : Nat} {m1 m2 : Int → Bool} {j : Nat} {l : List VT} {i p : Nat} (hj : j < most) (hb : (decide (least ≤ j) && isB s i 41) = true) : rTail s (pVal s f) nb least m1 m2 (most - j) j l i p = clo s l i p := by
 rw [show most - j = (most - (j + 1)) + 1 from by omega, rTail, hb, if_pos rfl]
 have h41 : isB s i 41 = true := by rw [Bool.and_eq_true] at hb; exact hb.2
 rw [clo, h41, if_pos rfl]
theorem put_far {w : World} {r1 r2 g o : Nat} (h1 : g ≠ r1) (h2 : g ≠ r2) (u0 u1 u2 u3 v0 v1 v2 : Value) : (put3 (put4 w r1 u0 u1 u2 u3) r2 v0 v1 v2).cell? ⟨g, o, none⟩ = w.cell? ⟨g, o, none⟩ := by
 refine World.cell?_of_block (w := w) ?_
 show (put3 (put4 w r1 u0 u1 u2 u3) r2 v0 v1 v2).heap[g]? = _
 rw [Below.heap_setCell _ _ _ _ h2, Below.heap_setCell _ _ _ _ h2, Below.heap_setCell _ _ _ _ h2, Below.heap_setCell _ _ _ _ h1, Below.heap_setCell _ _ _ _ h1, Below.heap_setCell _ _ _ _ h1, Below.heap_setCell _ _ _ _ h1]
theorem sgn_close (s : ByteArray) (k : Nat) (n : Int) (l : List VT) (i p : Nat) (R : Except Nat (VT × Nat × Nat)) (hR : R = finK k (withN n (clo s l i p))) :
  ∃ (i6 : Nat) (b6 : Bool), sgn s 41 i false = (i6, b6) ∧ ((b6 = true ∧ R = .error i6) ∨ (b6 = false ∧ R = .ok (.mk k n l, i6, p))) := by
 cases h : isB s i 41 with
 | true => exact ⟨i + 1, false, by rw [sgn, h]; rfl, .inr ⟨rfl, by rw [hR, clo, h]; rfl⟩⟩
 | false => exact ⟨i, true, by rw [sgn, h]; rfl, .inl ⟨rfl, by rw [hR, clo, h]; rfl⟩⟩
theorem rsign_two (s : ByteArray) (i : Nat) (p : Int) (c : Int) (w : World) (hs : s.size ≤ maxLen) (hi : i ≤ s.size) (hc : 0 ≤ c) {i6 : Nat} {b6 : Bool} (h : sgn s c i false = (i6, b6)) :
  Calls Tryz.prog 108 #[rdV s i p false, .int .u8 c] w fun e w' => e = .returned (rdV s i6 p b6) ∧ Below w.heap.size w w' := by
 have := rsign_any s i p false c w hs hi hc
 rw [h] at this
 exact this
theorem three_at {W : World} {z : Nat} {t : TypeId} {u0 u1 u2 : Value} (hx : Bx W z t u0 u1 u2) : ∀ (j : Nat) (u : Value), [u0, u1, u2][j]? = some u → W.cell? ((⟨z, 0, none⟩ : Addr).add j) = some u := by
 intro j u hj
 match j, hj with
 | 0, hj => simp at hj; subst hj; exact hx.c0
 | 1, hj => simp at hj; subst hj; exact hx.c1
 | 2, hj => simp at hj; subst hj; exact hx.c2
 | n + 3, hj => simp at hj
theorem three_one (k n : Int) (a : Option Addr) (l c : Nat) : ∀ u ∈ [Value.int .i64 k, .int .i64 n, .slice a l c], u.oneCell' = true := by intro u hu; simp at hu; rcases hu with rfl | rfl | rfl <;> rfl

set_option maxRecDepth 100000 in
set_option maxHeartbeats 4000000 in
theorem rvalue_word (s : ByteArray) (f : Nat) (hV : RValC s f) (i p : Nat) (sa : Int) (w : World) (hs : s.size ≤ maxLen) (hi : i < s.size) (hp : p < 256) (hpf : 256 ≤ p + 1 + f) (ha : sa = 0 ∨ sa = 1 ∨ sa = 2) (hno : sa = 0 → dig s i = false ∧ isB s i 45 = false) :
  Calls Tryz.prog 79 #[rdV s i p false, .int .i64 sa] w (RVEnds s w (rWordK s (pVal s f) sa i p)) := by
 have hs2 := hs
 unfold maxLen at hs2
 have HV := Lib.hid hV
 clear hV
 obtain ⟨W, hW⟩ : ∃ W, W = ((w.alloc (.cells #[.string s, .int .i64 i, .int .i64 ((p : Int) + 1), .bool false] 138)).alloc (.cells #[.string ⟨#[]⟩, .int .i64 0, .int .i64 0, .bool false] 138)).alloc (.cells #[.int .i64 0, .int .i64 0, .slice none 0 0] 27) := ⟨_, rfl⟩
 obtain ⟨hx, hr, hv, hb⟩ := rv_start w s i ((p : Int) + 1) false W hW
 have HW := Lib.hid hW
 clear hW
 have hg1 : decide (s.size ≤ i) = false := by simpa using hi
 have hg2 : decide (256 ≤ (p : Int)) = false := by simp; omega
 have HNO := Lib.hid hno
 clear hno
 obtain ⟨R, hR⟩ : ∃ R, R = rWordK s (pVal s f) sa i p := ⟨_, rfl⟩
 rw [← hR]
 have HR := Lib.hid hR
 clear hR
 obtain ⟨i0, hi0, hz0, hz1, hz2⟩ := info_parts val_info
 rw [rdV_eq]
 go_enter Tryz.func79, Tryz.ntmps79
 go_wp2_with fail
 rw [← HW.out]
 refine (rdigit_any s i ((p : Int) + 1) false _ hs (by omega)).mono ?_
 rintro e w1 ⟨rfl, hb1⟩
 have hx1 := hx.belowAll hb1
 have hr1 := hr.belowAll hb1
 have hv1 := hv.belowAll hb1
 have hb2 : Below w.heap.size w w1 := hb.trans (hb1.mono hb.size)
 clear hx hr hv hb hb1 HW
 unfold digV
 generalize hdd : (Value.int .u64 (if dig s i then bt s i - 48 else 0)) = dd
 clear hdd
 generalize hd0 : dig s i = d0
 have HD0 := Lib.hid hd0
 clear hd0
 go_upto_region 6 with fail
 go_cut [60] (fun s60 wx => s60 = .bool false ∧ B4 wx w.heap.size 138 (.string s) (.int .i64 i) (.int .i64 ((p : Int) + 1)) (.bool false) ∧ B4 wx (w.heap.size + 1) 138 (.string ⟨#[]⟩) (.int .i64 0) (.int .i64 0) (.bool false) ∧ Bx wx (w.heap.size + 1 + 1) 27 (.int .i64 0) (.int .i64 0) (.slice none 0 0) ∧ Below w.heap.size w wx)
 case first =>
  by_cases h0 : sa = 0
  ·have hno := HNO.out h0
   subst h0
   have HM := Lib.hid hno.2
   obtain rfl : d0 = false := by rw [← HD0.out]; exact hno.1
   clear hno
   have q0 := hx1.c0
   have q1 := hx1.c1
   have q2 := hx1.c2
   have q3 := hx1.c3
   go_wp2_with fail
   refine (ris_any s i ((p : Int) + 1) false 45 _ hs (by omega) (by omega)).mono ?_
   rw [HM.out]
   rintro e w2 ⟨rfl, hb3⟩
   go_wp2_with fail
   go_meet
   exact ⟨rfl, hx1.belowAll hb3, hr1.belowAll hb3, hv1.belowAll hb3, hb2.trans (hb3.mono hb2.size)⟩
  ·have hd : (sa == 0) = false := by simpa using h0
   go_wp2_with fail
   go_meet
   exact ⟨rfl, hx1, hr1, hv1, hb2⟩
 case rest =>
  obtain ⟨rfl, hx2, hr2, hv2, hb3⟩ := hcut
  clear hx1 hr1 hv1 hb2
  have q0 := hx2.c0
  have q1 := hx2.c1
  have q2 := hx2.c2
  have q3 := hx2.c3
  go_wp2_with fail
  refine (rwordW_any s i sa ((p : Int) + 1) _ hs (by omega) ha).mono ?_
  intro e w3 h3
  obtain ⟨j, k, bd, rfl, hb4, hres⟩ := h3.out
  have HRES := Lib.hid hres
  clear h3 hres
  have hx3 := hx2.belowAll hb4
  have hr3 := hr2.belowAll hb4
  have hv3 := hv2.belowAll hb4
  have hb5 := hb3.trans (hb4.mono hb3.size)
  clear hx2 hr2 hv2 hb3 hb4 q0 q1 q2 q3
  have q0 := hx3.c0
  have q1 := hx3.c1
  have q2 := hx3.c2
  have q3 := hx3.c3
  have qf := hx3.fz
  rw [rdV_eq]
  go_upto_region 13 with fail
  obtain ⟨w4, hw4⟩ : ∃ w4, w4 = put4 w3 w.heap.size (.string s) (.int .i64 (j : Int)) (.int .i64 ((p : Int) + 1)) (.bool bd) := ⟨_, rfl⟩
  have hx4 := hx3.put (.string s) (.int .i64 (j : Int)) (.int .i64 ((p : Int) + 1)) (.bool bd)
  have hr4 := hr3.far4 (g' := w.heap.size) (by omega) (.string s) (.int .i64 (j : Int)) (.int .i64 ((p : Int) + 1)) (.bool bd)
  have hv4 := hv3.far4 (g' := w.heap.size) (by omega) (.string s) (.int .i64 (j : Int)) (.int .i64 ((p : Int) + 1)) (.bool bd)
  have hb6 := below_put4 hb5 (g := w.heap.size) (by omega) (.string s) (.int .i64 (j : Int)) (.int .i64 ((p : Int) + 1)) (.bool bd)
  rw [← hw4] at hx4 hr4 hv4 hb6
  unfold put4 at hw4
  rw [← hw4]
  clear hw4 hx3 hr3 hv3 hb5 q0 q1 q2 q3 qf
  go_upto_region 14 with fail
  have hvv := Bx.new w4 27 (.int .i64 (k : Int)) (.int .i64 0) (.slice none 0 0)
  have hx5 := hx4.alloc (.cells #[.int .i64 (k : Int), .int .i64 0, .slice none 0 0] 27)
  have hr5 := hr4.alloc (.cells #[.int .i64 (k : Int), .int .i64 0, .slice none 0 0] 27)
  have hv5 := hv4.alloc (.cells #[.int .i64 (k : Int), .int .i64 0, .slice none 0 0] 27)
  have hb7 := hb6.trans ((below_alloc w4 (.cells #[.int .i64 (k : Int), .int .i64 0, .slice none 0 0] 27)).mono hb6.size)
  have hvb := hv4.lt
  have hsz5 : (w4.alloc (.cells #[.int .i64 (k : Int), .int .i64 0, .slice none 0 0] 27)).heap.size = w4.heap.size + 1 := by simp
  generalize w4.alloc (.cells #[.int .i64 (k : Int), .int .i64 0, .slice none 0 0] 27) = w5 at *
  generalize w4.heap.size = vb at *
  have HS5 := Lib.hid hsz5
  clear hx4 hr4 hv4 hb6 hsz5
  have q0 := hx5.c0
  have q1 := hx5.c1
  have q2 := hx5.c2
  have q3 := hx5.c3
  have qf := hx5.fz
  obtain ⟨lf, hlf⟩ : ∃ lf : Bool, lf = (bd || decide (k = 1) || decide (k = 8)) := ⟨_, rfl⟩
  have HLF := Lib.hid hlf
  clear hlf
  go_cut [99] (fun s99 wx => s99 = .bool lf ∧ w5 = wx)
  case first =>
   go_wp2_with fail
   all_goals go_meet
   all_goals refine ⟨congrArg Value.bool ?_, rfl⟩
   all_goals rw [HLF.out]
   ·simp_all
   ·simp_all
    omega
   ·simp_all
    rw [Bool.eq_iff_iff]
    simp
    omega
  case rest =>
   obtain ⟨rfl, rfl⟩ := hcut
   cases lf
   ·have h0 := HLF.out.symm
    rw [Bool.or_eq_false_iff, Bool.or_eq_false_iff] at h0
    obtain ⟨⟨rfl, h1⟩, h2⟩ := h0
    have hk1 := of_decide_eq_false h1
    have hk8 := of_decide_eq_false h2
    clear h1 h2
    have hwd : rword s i (asM sa) = .ok (k, j) := by
     rcases HRES.out with ⟨_, h, _⟩ | ⟨h, _⟩
     ·cases h
     ·exact h
    have hg := word_goes ((rword_eq s i (asM sa)).symm.trans hwd)
    have hR2 : R = if isB s j 40 then finK k (rList s (pVal s f) k (j + 1) (p + 1)) else .error j := by
     rw [HR.out]
     unfold rWordK
     rw [hwd]
     dsimp only
     rw [if_neg (by omega)]
     rfl
    obtain ⟨j1, b1, hsg, hj1, hst⟩ := sgn_open s f k j p R hR2 hg.2.1
    have HST := Lib.hid hst
    have HSG := Lib.hid hsg
    have hk14 := hg.2.2.1
    have hjs := hg.2.1
    have hkm := hg.2.2.2.2
    clear hR2 hwd hg hst hsg HRES HLF
    go_wp2_with fail
    refine (rsign_any s j ((p : Int) + 1) false 40 _ hs hjs (by omega)).mono ?_
    rw [HSG.out]
    rintro e w6 ⟨rfl, hb8⟩
    have hx6 := hx5.belowAll hb8
    have hr6 := hr5.belowAll hb8
    have hv6 := hv5.belowAll hb8
    have hvv6 := hvv.belowAll hb8
    have hb9 := hb7.trans (hb8.mono hb7.size)
    have hvl := hvv6.lt
    clear hx5 hr5 hv5 hvv hb7 hb8 q0 q1 q2 q3 qf
    have q0 := hx6.c0
    have q1 := hx6.c1
    have q2 := hx6.c2
    have q3 := hx6.c3
    have qf := hx6.fz
    rw [rdV_eq]
    dsimp only
    go_upto_region 17 with fail
    have hx7 := hx6.put (.string s) (.int .i64 (j1 : Int)) (.int .i64 ((p : Int) + 1)) (.bool b1)
    have hr7 := hr6.far4 (g' := w.heap.size) (by omega) (.string s) (.int .i64 (j1 : Int)) (.int .i64 ((p : Int) + 1)) (.bool b1)
    have hv7 := hv6.far4 (g' := w.heap.size) (by omega) (.string s) (.int .i64 (j1 : Int)) (.int .i64 ((p : Int) + 1)) (.bool b1)
    have hvv7 := hvv6.far4 (g' := w.heap.size) (by omega) (.string s) (.int .i64 (j1 : Int)) (.int .i64 ((p : Int) + 1)) (.bool b1)
    have hb10 := below_put4 hb9 (g := w.heap.size) (by omega) (.string s) (.int .i64 (j1 : Int)) (.int .i64 ((p : Int) + 1)) (.bool b1)
    obtain ⟨w7, hw7⟩ : ∃ w7, w7 = put4 w6 w.heap.size (.string s) (.int .i64 (j1 : Int)) (.int .i64 ((p : Int) + 1)) (.bool b1) := ⟨_, rfl⟩
    rw [← hw7] at hx7 hr7 hv7 hvv7 hb10
    unfold put4 at hw7
    rw [← hw7]
    clear hw7 hx6 hr6 hv6 hvv6 hb9 q0 q1 q2 q3 qf
    go_wp2_with fail
    refine (rnumbered_any k _ (by omega)).mono ?_
    rintro e w8 ⟨rfl, rfl⟩
    generalize hnb : numd (k : Int) = nb
    have HNB := Lib.hid hnb
    clear hnb
    go_upto_if 105 with fail
    go_cut [12] (fun s12 wx => s12 = .int .i64 (k : Int) ∧ RvMid s f k p w vb R wx)
    case first =>
     cases nb
     ·go_wp2_with fail
      go_meet
      exact ⟨rfl, j1, b1, 0, hx7, hr7, hv7, hvv7, hb10, by unfold Rng; omega, mid_none HST.out hj1 HNB.out⟩
     ·obtain ⟨mN, hmN⟩ : ∃ mN, mN = mostN k := ⟨_, rfl⟩
      have HMN := Lib.hid hmN
      have q0 := hx7.c0
      have q1 := hx7.c1
      have q2 := hx7.c2
      have q3 := hx7.c3
      have hways : (mN = 63 ∧ ((k : Int) == 4) = false ∧ ((k : Int) == 13) = false) ∨ (mN = 9223372036854775807 ∧ ((k : Int) == 4) = false ∧ ((k : Int) == 13) = true) ∨ (mN = 9223372036854775807 ∧ ((k : Int) == 4) = true) := by
       rw [hmN]
       unfold mostN
       by_cases h4 : k = 4
       ·exact .inr (.inr ⟨by simp [h4], by simp; omega⟩)
       ·by_cases h13 : k = 13
        ·exact .inr (.inl ⟨by simp [h13], by simp; omega, by simp; omega⟩)
        ·exact .inl ⟨by simp [h4, h13], by simp; omega, by simp; omega⟩
      clear hmN
      rcases hways with ⟨rfl, h4, h13⟩ | ⟨rfl, h4, h13⟩ | ⟨rfl, h4⟩
      ·go_wp2_with fail
       refine (rnumber_any s j1 63 0 ((p : Int) + 1) b1 _ hs hj1 (by omega) (by omega) (by omega)).mono ?_
       rw [HMN.out]
       intro e w9 h9
       obtain ⟨j2, n, b2, rfl, hb11, hres⟩ := h9.out
       obtain ⟨hn, hmid⟩ := mid_num HST.out hj1 HNB.out hres
       have HMID := Lib.hid hmid
       clear hmid hres h9 q0 q1 q2 q3
       have hx8 := hx7.belowAll hb11
       have hr8 := hr7.belowAll hb11
       have hv8 := hv7.belowAll hb11
       have hvv8 := hvv7.belowAll hb11
       have hb12 := hb10.trans (hb11.mono hb10.size)
       clear hx7 hr7 hv7 hvv7 hb10 hb11
       rw [rdV_eq]
       go_upto_region 22 with fail
       have hy := B4.new w9 138 (.string s) (.int .i64 (j2 : Int)) (.int .i64 ((p : Int) + 1)) (.bool b2)
       have hx9 := hx8.alloc (.cells #[.string s, .int .i64 (j2 : Int), .int .i64 ((p : Int) + 1), .bool b2] 138)
       have hr9 := hr8.alloc (.cells #[.string s, .int .i64 (j2 : Int), .int .i64 ((p : Int) + 1), .bool b2] 138)
       have hv9 := hv8.alloc (.cells #[.string s, .int .i64 (j2 : Int), .int .i64 ((p : Int) + 1), .bool b2] 138)
       have hvv9 := hvv8.alloc (.cells #[.string s, .int .i64 (j2 : Int), .int .i64 ((p : Int) + 1), .bool b2] 138)
       have hb13 := hb12.trans ((below_alloc w9 (.cells #[.string s, .int .i64 (j2 : Int), .int .i64 ((p : Int) + 1), .bool b2] 138)).mono hb12.size)
       have hyv := hvv8.lt
       clear hx8 hr8 hv8 hvv8 hb12
       generalize w9.alloc (.cells #[.string s, .int .i64 (j2 : Int), .int .i64 ((p : Int) + 1), .bool b2] 138) = w10 at *
       generalize w9.heap.size = y at *
       have y0 := hy.c0
       have y1 := hy.c1
       have y2 := hy.c2
       have y3 := hy.c3
       have q0 := hx9.c0
       have q1 := hx9.c1
       have q2 := hx9.c2
       have q3 := hx9.c3
       have qf := hx9.fz
       go_upto_region 23 with fail
       have hx10 := hx9.put (.string s) (.int .i64 (j2 : Int)) (.int .i64 ((p : Int) + 1)) (.bool b2)
       have hr10 := hr9.far4 (g' := w.heap.size) (by omega) (.string s) (.int .i64 (j2 : Int)) (.int .i64 ((p : Int) + 1)) (.bool b2)
       have hv10 := hv9.far4 (g' := w.heap.size) (by omega) (.string s) (.int .i64 (j2 : Int)) (.int .i64 ((p : Int) + 1)) (.bool b2)
       have hvv10 := hvv9.far4 (g' := w.heap.size) (by omega) (.string s) (.int .i64 (j2 : Int)) (.int .i64 ((p : Int) + 1)) (.bool b2)
       have hb14 := below_put4 hb13 (g := w.heap.size) (by omega) (.string s) (.int .i64 (j2 : Int)) (.int .i64 ((p : Int) + 1)) (.bool b2)
       obtain ⟨w11, hw11⟩ : ∃ w11, w11 = put4 w10 w.heap.size (.string s) (.int .i64 (j2 : Int)) (.int .i64 ((p : Int) + 1)) (.bool b2) := ⟨_, rfl⟩
       rw [← hw11] at hx10 hr10 hv10 hvv10 hb14
       unfold put4 at hw11
       rw [← hw11]
       clear hw11 hx9 hr9 hv9 hvv9 hb13 hy y0 y1 y2 y3 q0 q1 q2 q3 qf
       have x1 := hvv10.c1
       have xf := hvv10.fz
       have hwr : IntKind.i64.wrap (n : Int) = (n : Int) := IntWalk.i64_in _ (by omega)
       go_wp2_with fail
       go_meet
       exact ⟨rfl, j2, b2, n, hx10.far (q := ⟨vb, 1, none⟩) (by simp; omega) _, hr10.far (q := ⟨vb, 1, none⟩) (by simp; omega) _, hv10.far (q := ⟨vb, 1, none⟩) (by simp; omega) _, hvv10.set1 _, hb14.setCell (p := ⟨vb, 1, none⟩) (by simp; omega) _, by unfold Rng; omega, HMID.out⟩
      ·go_wp2_with fail
       refine (rnumber_any s j1 9223372036854775807 0 ((p : Int) + 1) b1 _ hs hj1 (by omega) (by omega) (by omega)).mono ?_
       rw [HMN.out]
       intro e w9 h9
       obtain ⟨j2, n, b2, rfl, hb11, hres⟩ := h9.out
       obtain ⟨hn, hmid⟩ := mid_num HST.out hj1 HNB.out hres
       have HMID := Lib.hid hmid
       clear hmid hres h9 q0 q1 q2 q3
       have hx8 := hx7.belowAll hb11
       have hr8 := hr7.belowAll hb11
       have hv8 := hv7.belowAll hb11
       have hvv8 := hvv7.belowAll hb11
       have hb12 := hb10.trans (hb11.mono hb10.size)
       clear hx7 hr7 hv7 hvv7 hb10 hb11
       rw [rdV_eq]
       go_upto_region 22 with fail
       have hy := B4.new w9 138 (.string s) (.int .i64 (j2 : Int)) (.int .i64 ((p : Int) + 1)) (.bool b2)
       have hx9 := hx8.alloc (.cells #[.string s, .int .i64 (j2 : Int), .int .i64 ((p : Int) + 1), .bool b2] 138)
       have hr9 := hr8.alloc (.cells #[.string s, .int .i64 (j2 : Int), .int .i64 ((p : Int) + 1), .bool b2] 138)
       have hv9 := hv8.alloc (.cells #[.string s, .int .i64 (j2 : Int), .int .i64 ((p : Int) + 1), .bool b2] 138)
       have hvv9 := hvv8.alloc (.cells #[.string s, .int .i64 (j2 : Int), .int .i64 ((p : Int) + 1), .bool b2] 138)
       have hb13 := hb12.trans ((below_alloc w9 (.cells #[.string s, .int .i64 (j2 : Int), .int .i64 ((p : Int) + 1), .bool b2] 138)).mono hb12.size)
       have hyv := hvv8.lt
       clear hx8 hr8 hv8 hvv8 hb12
       generalize w9.alloc (.cells #[.string s, .int .i64 (j2 : Int), .int .i64 ((p : Int) + 1), .bool b2] 138) = w10 at *
       generalize w9.heap.size = y at *
       have y0 := hy.c0
       have y1 := hy.c1
       have y2 := hy.c2
       have y3 := hy.c3
       have q0 := hx9.c0
       have q1 := hx9.c1
       have q2 := hx9.c2
       have q3 := hx9.c3
       have qf := hx9.fz
       go_upto_region 23 with fail
       have hx10 := hx9.put (.string s) (.int .i64 (j2 : Int)) (.int .i64 ((p : Int) + 1)) (.bool b2)
       have hr10 := hr9.far4 (g' := w.heap.size) (by omega) (.string s) (.int .i64 (j2 : Int)) (.int .i64 ((p : Int) + 1)) (.bool b2)
       have hv10 := hv9.far4 (g' := w.heap.size) (by omega) (.string s) (.int .i64 (j2 : Int)) (.int .i64 ((p : Int) + 1)) (.bool b2)
       have hvv10 := hvv9.far4 (g' := w.heap.size) (by omega) (.string s) (.int .i64 (j2 : Int)) (.int .i64 ((p : Int) + 1)) (.bool b2)
       have hb14 := below_put4 hb13 (g := w.heap.size) (by omega) (.string s) (.int .i64 (j2 : Int)) (.int .i64 ((p : Int) + 1)) (.bool b2)
       obtain ⟨w11, hw11⟩ : ∃ w11, w11 = put4 w10 w.heap.size (.string s) (.int .i64 (j2 : Int)) (.int .i64 ((p : Int) + 1)) (.bool b2) := ⟨_, rfl⟩
       rw [← hw11] at hx10 hr10 hv10 hvv10 hb14
       unfold put4 at hw11
       rw [← hw11]
       clear hw11 hx9 hr9 hv9 hvv9 hb13 hy y0 y1 y2 y3 q0 q1 q2 q3 qf
       have x1 := hvv10.c1
       have xf := hvv10.fz
       have hwr : IntKind.i64.wrap (n : Int) = (n : Int) := IntWalk.i64_in _ (by omega)
       go_wp2_with fail
       go_meet
       exact ⟨rfl, j2, b2, n, hx10.far (q := ⟨vb, 1, none⟩) (by simp; omega) _, hr10.far (q := ⟨vb, 1, none⟩) (by simp; omega) _, hv10.far (q := ⟨vb, 1, none⟩) (by simp; omega) _, hvv10.set1 _, hb14.setCell (p := ⟨vb, 1, none⟩) (by simp; omega) _, by unfold Rng; omega, HMID.out⟩
      ·go_wp2_with fail
       refine (rnumber_any s j1 9223372036854775807 0 ((p : Int) + 1) b1 _ hs hj1 (by omega) (by omega) (by omega)).mono ?_
       rw [HMN.out]
       intro e w9 h9
       obtain ⟨j2, n, b2, rfl, hb11, hres⟩ := h9.out
       obtain ⟨hn, hmid⟩ := mid_num HST.out hj1 HNB.out hres
       have HMID := Lib.hid hmid
       clear hmid hres h9 q0 q1 q2 q3
       have hx8 := hx7.belowAll hb11
       have hr8 := hr7.belowAll hb11
       have hv8 := hv7.belowAll hb11
       have hvv8 := hvv7.belowAll hb11
       have hb12 := hb10.trans (hb11.mono hb10.size)
       clear hx7 hr7 hv7 hvv7 hb10 hb11
       rw [rdV_eq]
       go_upto_region 22 with fail
       have hy := B4.new w9 138 (.string s) (.int .i64 (j2 : Int)) (.int .i64 ((p : Int) + 1)) (.bool b2)
       have hx9 := hx8.alloc (.cells #[.string s, .int .i64 (j2 : Int), .int .i64 ((p : Int) + 1), .bool b2] 138)
       have hr9 := hr8.alloc (.cells #[.string s, .int .i64 (j2 : Int), .int .i64 ((p : Int) + 1), .bool b2] 138)
       have hv9 := hv8.alloc (.cells #[.string s, .int .i64 (j2 : Int), .int .i64 ((p : Int) + 1), .bool b2] 138)
       have hvv9 := hvv8.alloc (.cells #[.string s, .int .i64 (j2 : Int), .int .i64 ((p : Int) + 1), .bool b2] 138)
       have hb13 := hb12.trans ((below_alloc w9 (.cells #[.string s, .int .i64 (j2 : Int), .int .i64 ((p : Int) + 1), .bool b2] 138)).mono hb12.size)
       have hyv := hvv8.lt
       clear hx8 hr8 hv8 hvv8 hb12
       generalize w9.alloc (.cells #[.string s, .int .i64 (j2 : Int), .int .i64 ((p : Int) + 1), .bool b2] 138) = w10 at *
       generalize w9.heap.size = y at *
       have y0 := hy.c0
       have y1 := hy.c1
       have y2 := hy.c2
       have y3 := hy.c3
       have q0 := hx9.c0
       have q1 := hx9.c1
       have q2 := hx9.c2
       have q3 := hx9.c3
       have qf := hx9.fz
       go_upto_region 23 with fail
       have hx10 := hx9.put (.string s) (.int .i64 (j2 : Int)) (.int .i64 ((p : Int) + 1)) (.bool b2)
       have hr10 := hr9.far4 (g' := w.heap.size) (by omega) (.string s) (.int .i64 (j2 : Int)) (.int .i64 ((p : Int) + 1)) (.bool b2)
       have hv10 := hv9.far4 (g' := w.heap.size) (by omega) (.string s) (.int .i64 (j2 : Int)) (.int .i64 ((p : Int) + 1)) (.bool b2)
       have hvv10 := hvv9.far4 (g' := w.heap.size) (by omega) (.string s) (.int .i64 (j2 : Int)) (.int .i64 ((p : Int) + 1)) (.bool b2)
       have hb14 := below_put4 hb13 (g := w.heap.size) (by omega) (.string s) (.int .i64 (j2 : Int)) (.int .i64 ((p : Int) + 1)) (.bool b2)
       obtain ⟨w11, hw11⟩ : ∃ w11, w11 = put4 w10 w.heap.size (.string s) (.int .i64 (j2 : Int)) (.int .i64 ((p : Int) + 1)) (.bool b2) := ⟨_, rfl⟩
       rw [← hw11] at hx10 hr10 hv10 hvv10 hb14
       unfold put4 at hw11
       rw [← hw11]
       clear hw11 hx9 hr9 hv9 hvv9 hb13 hy y0 y1 y2 y3 q0 q1 q2 q3 qf
       have x1 := hvv10.c1
       have xf := hvv10.fz
       have hwr : IntKind.i64.wrap (n : Int) = (n : Int) := IntWalk.i64_in _ (by omega)
       go_wp2_with fail
       go_meet
       exact ⟨rfl, j2, b2, n, hx10.far (q := ⟨vb, 1, none⟩) (by simp; omega) _, hr10.far (q := ⟨vb, 1, none⟩) (by simp; omega) _, hv10.far (q := ⟨vb, 1, none⟩) (by simp; omega) _, hvv10.set1 _, hb14.setCell (p := ⟨vb, 1, none⟩) (by simp; omega) _, by unfold Rng; omega, HMID.out⟩
    case rest =>
     obtain ⟨rfl, hmid⟩ := hcut
     obtain ⟨j2, b2, n, hx, hr, hv, hvv, hb, hnr0, hst2⟩ := hmid
     have HST2 := Lib.hid hst2
     have HNR := Lib.hid hnr0
     clear hnr0
     clear hst2 hx7 hr7 hv7 hvv7 hb10 HST HSG
     go_wp2_with fail
     refine (rneeds_any k hk14 _).mono ?_
     rintro e w8 ⟨rfl, rfl⟩
     have hnd := needs_ok k
     generalize hN : needs k = N at *
     have HN := Lib.hid hN
     clear hN
     obtain ⟨least, most, a1, a2⟩ := N
     dsimp only at hnd ⊢
     go_upto_block 0 with fail
     have hvb2 := hvb
     go_cut [21] (fun s21 wx => RvEnd s k n w vb R wx)
     case first =>
      go_wp2_with fail
      go_loopw [21] (fun x wr => RvLoop s f k p n w vb R nb least most a1 a2 x wr) (fun x _ => most + 1 - (intOf x).toNat)
      case atStart =>
       refine ⟨0, j2, ((p : Int) + 1), b2, rfl, by omega, ⟨hx, hr, hv, hb⟩, ?_⟩
       rcases HST2.out with ⟨h1, h2⟩ | ⟨h1, h2, h3, h4⟩
       ·exact .inl ⟨h1, ⟨j2, rfl, h2⟩, none, 0, 0, hvv⟩
       ·refine .inr ⟨h1, j2, p + 1, [], .slice none 0 0, [], rfl, by omega, h2, by omega, by omega, rfl, ?_, ?_⟩
        ·rw [h4, HNB.out]; rfl
        ·exact ⟨hvv, ⟨rfl, .inl ⟨rfl, rfl⟩⟩, rfl, by omega, hvv.lt⟩
      case round =>
       clear hx hr hv hvv hb
       obtain ⟨j0, i', p', bd, rfl, hjm, hst, hcase⟩ := hrel
       rcases hcase with ⟨rfl, ⟨e0, rfl, hRe⟩, a0, len0, cap0, hbx⟩ | ⟨rfl, i2, p2, l, v, xs, rfl, rfl, hi2, hpp, hp2, hll, hRr, hacc⟩
       ·have HRE := Lib.hid hRe
        clear hRe
        have q3 := hst.r.c3
        by_cases hlt : j0 < most
        ·have hd : decide (j0 < most) = true := by simpa using hlt
         go_wp2_with fail
         go_meet
         exact ⟨_, _, _, hst, .inl ⟨rfl, ⟨e0, rfl, HRE.out⟩, _, _, _, hbx⟩⟩
        ·have hd : decide (j0 < most) = false := by simpa using hlt
         go_wp2_with fail
         go_meet
         exact ⟨_, _, _, hst, .inl ⟨rfl, ⟨e0, rfl, HRE.out⟩, _, _, _, hbx⟩⟩
       ·have HRR := Lib.hid hRr
        have HLL := Lib.hid hll
        clear hRr hll
        have q0 := hst.r.c0
        have q1 := hst.r.c1
        have q2 := hst.r.c2
        have q3 := hst.r.c3
        by_cases hlt : j0 < most
        ·have hd : decide (j0 < most) = true := by simpa using hlt
         obtain ⟨brk, hbrk⟩ : ∃ brk, brk = (decide (least ≤ j0) && isB s i2 41) := ⟨_, rfl⟩
         have HBRK := Lib.hid hbrk
         clear hbrk
         go_upto_region 28 with fail
         go_cut [145] (fun s145 wx => s145 = .bool brk ∧ RvSt s w i2 p2 false wx ∧ Acc (vb + 1) wx vb k n l v xs)
         case first =>
          by_cases hle : least ≤ j0
          ·have hd2 : decide (least ≤ j0) = true := by simpa using hle
           go_wp2_with fail
           refine (ris_any s i2 p2 false 41 _ hs hi2 (by omega)).mono ?_
           rintro e w9 ⟨rfl, hb9⟩
           go_wp2_with fail
           go_meet
           exact ⟨congrArg Value.bool (by rw [HBRK.out, hd2]; rfl), hst.below hb9, hacc.belowA (b := w.heap.size) (by omega) hb9⟩
          ·have hd2 : decide (least ≤ j0) = false := by simpa using hle
           go_wp2_with fail
           go_meet
           exact ⟨congrArg Value.bool (by rw [HBRK.out, hd2]; rfl), hst, hacc⟩
         case rest =>
          obtain ⟨rfl, hst2, hacc2⟩ := hcut
          clear hst hacc q0 q1 q2 q3
          cases brk
          ·obtain ⟨i3, b3, hsg3, hi3, hnx⟩ := tail_next (p := p) HRR.out hlt HBRK.out.symm hi2 hpp hp2
           have HSG3 := Lib.hid hsg3
           have HNX := Lib.hid hnx
           clear hsg3 hnx
           have q0 := hst2.r.c0
           have q1 := hst2.r.c1
           have q2 := hst2.r.c2
           have q3 := hst2.r.c3
           have qf := hst2.r.fz
           obtain ⟨cm, hcm⟩ : ∃ cm, cm = (decide (0 < j0) || nb) := ⟨_, rfl⟩
           have HCM := Lib.hid hcm
           clear hcm
           go_upto_region 29 with fail
           generalize hwq : wc = wq at *
           clear hwq
           go_cut [151] (fun s151 wx => s151 = .bool cm ∧ wq = wx)
           case first =>
            by_cases h0 : 0 < j0
            ·have hd3 : decide (0 < (j0 : Int)) = true := by simpa using h0
             have hd4 : decide (0 < j0) = true := by simpa using h0
             go_wp2_with fail
             go_meet
             exact ⟨congrArg Value.bool (by rw [HCM.out, hd4]; rfl), rfl⟩
            ·have hd3 : decide (0 < (j0 : Int)) = false := by simpa using h0
             have hd4 : decide (0 < j0) = false := by simpa using h0
             go_wp2_with fail
             refine (rnumbered_any k _ (by omega)).mono ?_
             rintro e w9 ⟨rfl, rfl⟩
             go_wp2_with fail
             go_meet
             exact ⟨congrArg Value.bool (by rw [HCM.out, hd4, HNB.out]; rfl), rfl⟩
           case rest =>
            obtain ⟨rfl, rfl⟩ := hcut
            go_upto_if 151 with fail
            go_cut [12] (fun s12 wx => s12 = .int .i64 (k : Int) ∧ RvSt s w i3 p2 b3 wx ∧ Acc (vb + 1) wx vb k n l v xs)
            case first =>
             cases cm
             ·have h9 := HSG3.out
              rw [← HCM.out] at h9
              injection h9 with h91 h92
              subst h91 h92
              go_wp2_with fail
              go_meet
              exact ⟨rfl, hst2, hacc2⟩
             ·have h9 := HSG3.out
              rw [← HCM.out, if_pos rfl] at h9
              have HS9 := Lib.hid h9
              clear h9
              go_wp2_with fail
              refine (rsign_any s i2 p2 false 44 _ hs hi2 (by omega)).mono ?_
              rw [HS9.out]
              rintro e w9 ⟨rfl, hb9⟩
              have hst3 := hst2.below hb9
              have hacc3 := hacc2.belowA (b := w.heap.size) (by omega) hb9
              clear q0 q1 q2 q3 qf hst2 hacc2
              have q0 := hst3.r.c0
              have q1 := hst3.r.c1
              have q2 := hst3.r.c2
              have q3 := hst3.r.c3
              have qf := hst3.r.fz
              rw [rdV_eq]
              go_wp2_with fail
              go_meet
              exact ⟨rfl, hst3.put i3 p2 b3, hacc3.putR (b := w.heap.size) (by omega) _ _ _ _⟩
            case rest =>
             obtain ⟨rfl, hst3, hacc3⟩ := hcut
             clear q0 q1 q2 q3 qf hst2 hacc2
             have q0 := hst3.r.c0
             have q1 := hst3.r.c1
             have q2 := hst3.r.c2
             have q3 := hst3.r.c3
             obtain ⟨one, hone⟩ : ∃ one : Int, one = if j0 = 0 then a1 else a2 := ⟨_, rfl⟩
             have ho : one = 0 ∨ one = 1 ∨ one = 2 := by
              rw [hone]
              split
              ·exact hnd.2.1
              ·exact hnd.2.2.1
             have HONE := Lib.hid hone
             clear hone
             go_upto_if 156 with fail
             go_cut [22] (fun s22 wx => s22 = .int .i64 one ∧ RvSt s w i3 p2 b3 wx ∧ Acc (vb + 1) wx vb k n l v xs)
             case first =>
              by_cases h0 : j0 = 0
              ·have hd5 : ((j0 : Int) == 0) = true := by simp; omega
               go_wp2_with fail
               go_meet
               exact ⟨congrArg (Value.int .i64) (by rw [HONE.out, if_pos h0]), hst3, hacc3⟩
              ·have hd5 : ((j0 : Int) == 0) = false := by simp; omega
               go_wp2_with fail
               go_meet
               exact ⟨congrArg (Value.int .i64) (by rw [HONE.out, if_neg h0]), hst3, hacc3⟩
             case rest =>
              obtain ⟨rfl, hst4, hacc4⟩ := hcut
              clear q0 q1 q2 q3 hst3 hacc3
              have q0 := hst4.r.c0
              have q1 := hst4.r.c1
              have q2 := hst4.r.c2
              have q3 := hst4.r.c3
              have HNX2 : Hid (NextR s f k p n R l nb least most a1 a2 j0 one i3 p2 b3) := by show NextR s f k p n R l nb least most a1 a2 j0 one i3 p2 b3; rw [HONE.out]; exact HNX.out
              go_wp2_with fail
              refine (value_next HV.out HNX2.out ho hi3 hpf _).mono ?_
              rintro e w9 ⟨i4, p4, b4, k3, n3, a3, l3, c3, rfl, hb9, hres4⟩
              have HRES4 := Lib.hid hres4
              clear hres4
              have hst5 := hst4.below hb9
              have hacc5 := hacc4.belowA (b := w.heap.size) (by omega) hb9
              have hkb : ∀ g, some g = v.ownBlock → g < wc.heap.size := fun g hg => (hacc4.row.lt g hg.symm).2
              have HKB := Lib.hid hkb
              have hvbw := hacc4.le
              clear hst4 hacc4 q0 q1 q2 q3 hkb
              go_upto_region 35 with fail
              have hy := (B4.new w9 138 (.string s) (.int .i64 i4) (.int .i64 p4) (.bool b4)).alloc (.cells #[.int .i64 k3, .int .i64 n3, .slice a3 l3 c3] 27)
              have hz := Bx.new (w9.alloc (.cells #[.string s, .int .i64 i4, .int .i64 p4, .bool b4] 138)) 27 (.int .i64 k3) (.int .i64 n3) (.slice a3 l3 c3)
              have hsz10 : (w9.alloc (.cells #[.string s, .int .i64 i4, .int .i64 p4, .bool b4] 138)).heap.size = w9.heap.size + 1 := by simp
              rw [hsz10] at hz
              have hst6 := (hst5.alloc (.cells #[.string s, .int .i64 i4, .int .i64 p4, .bool b4] 138)).alloc (.cells #[.int .i64 k3, .int .i64 n3, .slice a3 l3 c3] 27)
              have hb10 : Below w9.heap.size w9 ((w9.alloc (.cells #[.string s, .int .i64 i4, .int .i64 p4, .bool b4] 138)).alloc (.cells #[.int .i64 k3, .int .i64 n3, .slice a3 l3 c3] 27)) := two_alloc _ _ _
              have hacc6 := hacc5.belowA (b := w.heap.size) (by omega) hb10
              have hb11 := hb9.trans (hb10.mono hb9.size)
              have hy9 := hb9.size
              clear hst5 hacc5 hsz10
              generalize (w9.alloc (.cells #[.string s, .int .i64 i4, .int .i64 p4, .bool b4] 138)).alloc (.cells #[.int .i64 k3, .int .i64 n3, .slice a3 l3 c3] 27) = w10 at *
              have hvy := hacc6.vlt
              have y0 := hy.c0
              have y1 := hy.c1
              have y2 := hy.c2
              have y3 := hy.c3
              have q0 := hst6.r.c0
              have q1 := hst6.r.c1
              have q2 := hst6.r.c2
              have q3 := hst6.r.c3
              have qf := hst6.r.fz
              go_upto_region 36 with fail
              have hst7 := hst6.put i4 p4 b4
              have hacc7 := hacc6.putR (b := w.heap.size) (by omega) (.string s) (.int .i64 i4) (.int .i64 p4) (.bool b4)
              have hz7 := hz.far4 (g' := w.heap.size) (by have := hst6.v.lt; omega) (.string s) (.int .i64 i4) (.int .i64 p4) (.bool b4)
              obtain ⟨w11, hw11⟩ : ∃ w11, w11 = put4 w10 w.heap.size (.string s) (.int .i64 i4) (.int .i64 p4) (.bool b4) := ⟨_, rfl⟩
              have hkeep11 : ∀ g, g ≠ w.heap.size → w11.heap[g]? = w10.heap[g]? := by
               intro g hg
               rw [hw11, Below.heap_setCell _ _ _ _ hg, Below.heap_setCell _ _ _ _ hg, Below.heap_setCell _ _ _ _ hg, Below.heap_setCell _ _ _ _ hg]
              have hs11 : w11.heap.size = w10.heap.size := by rw [hw11]; simp [World.setCell]
              rw [← hw11] at hst7 hacc7 hz7
              unfold put4 at hw11
              rw [← hw11]
              have HK11 := Lib.hid hkeep11
              have HS11 := Lib.hid hs11
              clear hw11 hst6 hacc6 hz hy y0 y1 y2 y3 q0 q1 q2 q3 qf hkeep11 hs11
              obtain ⟨va, vcap, hvf⟩ := hacc7.form
              subst hvf
              have v2 := hacc7.box.c2
              have vf := hacc7.box.fz
              have z0 := hz7.c0
              have z1 := hz7.c1
              have z2 := hz7.c2
              have hb12 := below_alloc w11 (.cells #[.int .i64 k3, .int .i64 n3, .slice a3 l3 c3] 27)
              have hacc8 := hacc7.belowA (b := w.heap.size) (by omega) hb12
              have hst8 := hst7.alloc (.cells #[.int .i64 k3, .int .i64 n3, .slice a3 l3 c3] 27)
              have hzz := Bx.new w11 27 (.int .i64 k3) (.int .i64 n3) (.slice a3 l3 c3)
              have hll2 : l.length ≤ 16 := by rw [HLL.out]; omega
              go_wp2_with (at_builtin; refine wpList_append_lies _ rfl (.tmp 166) (.tmp 168) 25 rfl (vb + 1) 27 i0 _ 3 40 Tryz.underlying25 hi0 hz0 hz1 hz2 rfl (by decide) (.slice va l.length vcap) l.length xs rfl hacc8.row ⟨w11.heap.size, 0, none⟩ 1 1 [.int .i64 k3, .int .i64 n3, .slice a3 l3 c3] rfl rfl (three_at hzz) (three_one _ _ _ _ _) (by omega) (by unfold maxLen; omega) (by omega) hacc8.le _ rfl ?_; intro g cap w13 hown hgrow hat hglt; obtain ⟨vc, vz, vne, vne2⟩ := vb_after hacc8 hown hgrow)
              have hst13 := (hst8.grown hgrow (fun g' hg' => by have := hacc8.row.lt g' hg'; omega)).set (q := ⟨vb, 2, none⟩) (by simp; omega) (.slice (some ⟨g, 0, none⟩) (l.length + 1) cap)
              go_roundw
              case rel =>
               refine ⟨j0 + 1, i4, p4, b4, by go_num, by omega, hst13, ?_⟩
               rcases HRES4.out with ⟨h1, h2⟩ | ⟨h1, i5, p5, t, h2, h3, h4, h5, h6, h7, h8⟩
               ·refine .inl ⟨h1, h2, some ⟨g, 0, none⟩, l.length + 1, cap, ?_⟩
                have hne : some vb ≠ (Value.slice va l.length vcap).ownBlock := fun e => by have := (hacc8.row.lt vb e.symm).1; omega
                exact Bx.set2 ((hgrow.block vb (by have := hacc8.le; omega) hne).trans hacc8.box) _
               ·refine .inr ⟨h1, i5, p5, l ++ [t], _, _, h2, h3, h4, h5, h6, by rw [List.length_append, HLL.out]; rfl, h8, hacc8.pushD ?_ hown hgrow hat⟩
                have hs12 : (w11.alloc (.cells #[.int .i64 k3, .int .i64 n3, .slice a3 l3 c3] 27)).heap.size = w11.heap.size + 1 := by simp
                have hs9 := hb10.size
                refine (h7.keep ?_).more ?_
                ·intro g' ⟨hga, hgb⟩ o
                 refine World.cell?_of_block (w := w9) ?_
                 rw [Below.heap_alloc w11 _ g' (by rw [HS11.out]; omega), HK11.out g' (by omega)]
                 exact hb10.block g' hgb
                ·intro g' ⟨hga, hgb⟩
                 refine ⟨by omega, by rw [hs12, HS11.out]; omega, fun e => ?_⟩
                 have := HKB.out g' e
                 omega
              case measure => simp [intOf]; omega
          ·go_wp2_with fail
           go_meet
           refine ⟨_, _, _, hst2, .inr ⟨rfl, i2, p2, l, v, xs, rfl, rfl, hi2, ?_, hacc2⟩⟩
           rw [HRR.out, tail_close hlt HBRK.out.symm]
        ·have hd : decide (j0 < most) = false := by simpa using hlt
         go_wp2_with fail
         go_meet
         refine ⟨_, _, _, hst, .inr ⟨rfl, i2, p2, l, v, xs, rfl, rfl, hi2, ?_, hacc⟩⟩
         rw [HRR.out, show most - j0 = 0 from by omega, rTail]
     case rest =>
      obtain ⟨i', p', bd, hst, hcase⟩ := hcut
      clear hx hr hv hvv hb HST2
      have q0 := hst.r.c0
      have q1 := hst.r.c1
      have q2 := hst.r.c2
      have q3 := hst.r.c3
      have hn1 : ¬ vb = w.heap.size + 1 := by omega
      have hn2 : ¬ w.heap.size + 1 = vb := by omega
      rcases hcase with ⟨rfl, ⟨e0, rfl, hRe⟩, a0, len0, cap0, hbx⟩ | ⟨rfl, i2, p2, l, v, xs, rfl, rfl, hi2, hRr, hacc⟩
      ·have HRE := Lib.hid hRe
       clear hRe
       have y0 := hbx.c0
       have y1 := hbx.c1
       have y2 := hbx.c2
       go_wp2_with fail
       go_region_with (go_at_call 108; refine (rsign_bad s e0 p' 41 _).mono ?_; rintro e w9 ⟨rfl, hb9⟩; rw [rdV_eq]; have hst9 := RvSt.below (wr := wc.drew) ⟨hst.r, hst.o, hst.v, hst.b.drew⟩ hb9; have hb9' := Bx.belowAll (w := wc.drew) hbx hb9; have y0 := hb9'.c0; have y1 := hb9'.c1; have y2 := hb9'.c2; have z0 := hst9.o.c0; have z1 := hst9.o.c1; have z2 := hst9.o.c2; have z3 := hst9.o.c3; have zf := hst9.o.fz; have x0 := hst9.v.c0; have x1 := hst9.v.c1; have x2 := hst9.v.c2; have xf := hst9.v.fz)
       all_goals
        go_wp2_with fail
        have hr9 := (hst9.o.put (.string s) (.int .i64 (e0 : Int)) (.int .i64 p') (.bool true)).far3 (g' := w.heap.size + 1 + 1) (by omega) (.int .i64 k) (.int .i64 n) (.slice a0 len0 cap0)
        have hv9 := (hst9.v.far4 (g' := w.heap.size + 1) (by omega) (.string s) (.int .i64 (e0 : Int)) (.int .i64 p') (.bool true)).put (.int .i64 k) (.int .i64 n) (.slice a0 len0 cap0)
        refine bodyPost_ret (v := .tuple #[rdV s (e0 : Int) p' true, .agg #[.int .i64 k, .int .i64 n, .slice a0 len0 cap0]]) (by simp [results, Tryz.results79, go_sem, hr9.c0, hr9.c1, hr9.c2, hr9.c3, hv9.c0, hv9.c1, hv9.c2, rdV]) rfl ?_
        have hbf := below_put3 (below_put4 hst9.b (g := w.heap.size + 1) (by omega) (.string s) (.int .i64 (e0 : Int)) (.int .i64 p') (.bool true)) (g := w.heap.size + 1 + 1) (by omega) (.int .i64 k) (.int .i64 n) (.slice a0 len0 cap0)
        rw [HRE.out]
        exact ⟨_, _, _, _, _, _, rfl, hbf⟩
      ·obtain ⟨va, vcap, hvf⟩ := hacc.form
       subst hvf
       have y0 := hacc.box.c0
       have y1 := hacc.box.c1
       have y2 := hacc.box.c2
       obtain ⟨i6, b6, hs6, hst6⟩ := sgn_close s k n l i2 p2 R hRr
       have HS6 := Lib.hid hs6
       have HST6 := Lib.hid hst6
       clear hs6 hst6 hRr
       go_wp2_with fail
       go_region_with (go_at_call 108; refine (rsign_two s i2 p2 41 _ hs hi2 (by omega) HS6.out).mono ?_; rintro e w9 ⟨rfl, hb9⟩; rw [rdV_eq]; have hst9 := RvSt.below (wr := wc.drew) ⟨hst.r, hst.o, hst.v, hst.b.drew⟩ hb9; have hb9' := Bx.belowAll (w := wc.drew) hacc.box hb9; have y0 := hb9'.c0; have y1 := hb9'.c1; have y2 := hb9'.c2; have z0 := hst9.o.c0; have z1 := hst9.o.c1; have z2 := hst9.o.c2; have z3 := hst9.o.c3; have zf := hst9.o.fz; have x0 := hst9.v.c0; have x1 := hst9.v.c1; have x2 := hst9.v.c2; have xf := hst9.v.fz)
       all_goals
        go_wp2_with fail
        have hr9 := (hst9.o.put (.string s) (.int .i64 (i6 : Int)) (.int .i64 (p2 : Int)) (.bool b6)).far3 (g' := w.heap.size + 1 + 1) (by omega) (.int .i64 k) (.int .i64 n) (.slice va l.length vcap)
        have hv9 := (hst9.v.far4 (g' := w.heap.size + 1) (by omega) (.string s) (.int .i64 (i6 : Int)) (.int .i64 (p2 : Int)) (.bool b6)).put (.int .i64 k) (.int .i64 n) (.slice va l.length vcap)
        refine bodyPost_ret (v := .tuple #[rdV s (i6 : Int) (p2 : Int) b6, .agg #[.int .i64 k, .int .i64 n, .slice va l.length vcap]]) (by simp [results, Tryz.results79, go_sem, hr9.c0, hr9.c1, hr9.c2, hr9.c3, hv9.c0, hv9.c1, hv9.c2, rdV]) rfl ?_
        have hbf := below_put3 (below_put4 hst9.b (g := w.heap.size + 1) (by omega) (.string s) (.int .i64 (i6 : Int)) (.int .i64 (p2 : Int)) (.bool b6)) (g := w.heap.size + 1 + 1) (by omega) (.int .i64 k) (.int .i64 n) (.slice va l.length vcap)
        rcases HST6.out with ⟨h1, h2⟩ | ⟨h1, h2⟩
        ·subst h1
         rw [h2]
         exact ⟨_, _, _, _, _, _, rfl, hbf⟩
        ·subst h1
         rw [h2]
         refine ⟨_, rfl, ?_, hbf⟩
         have hacc9 := (Acc.drew hacc).belowA (b := w.heap.size) (by omega) hb9
         have hiv := hacc9.isV (by unfold Rng; omega) HNR.out (fun g => vb + 1 ≤ g ∧ g < w9.heap.size) (fun g h1 h2 => ⟨h1, h2⟩)
         refine (hiv.keep ?_).more ?_
         ·intro g ⟨hga, hgb⟩ o
          exact put_far (by omega) (by omega) _ _ _ _ _ _ _
         ·intro g ⟨hga, hgb⟩
          exact ⟨by omega, by simpa [World.setCell] using hgb⟩
   ·have z0 := hr5.c0
    have z1 := hr5.c1
    have z2 := hr5.c2
    have z3 := hr5.c3
    have zf := hr5.fz
    have x0 := hv5.c0
    have x1 := hv5.c1
    have x2 := hv5.c2
    have xf := hv5.fz
    have y0 := hvv.c0
    have y1 := hvv.c1
    have y2 := hvv.c2
    go_wp2_with fail
    go_region
    all_goals
     go_wp2_with fail
     have hr9 := ((B4.put (w := w5) hr5 (.string s) (.int .i64 (j : Int)) (.int .i64 ((p : Int) + 1)) (.bool bd)).far3 (g' := w.heap.size + 1 + 1) (by omega) (.int .i64 k) (.int .i64 0) (.slice none 0 0)).drew
     have hv9 := ((Bx.far4 (w := w5) hv5 (g' := w.heap.size + 1) (by omega) (.string s) (.int .i64 (j : Int)) (.int .i64 ((p : Int) + 1)) (.bool bd)).put (.int .i64 k) (.int .i64 0) (.slice none 0 0)).drew1
     refine bodyPost_ret (v := .tuple #[rdV s j ((p : Int) + 1) bd, .agg #[.int .i64 k, .int .i64 0, .slice none 0 0]]) (by simp [results, Tryz.results79, go_sem, hr9.c0, hr9.c1, hr9.c2, hr9.c3, hv9.c0, hv9.c1, hv9.c2, rdV]) rfl ?_
     have hbf := (below_put3 (below_put4 hb7 (g := w.heap.size + 1) (by omega) (.string s) (.int .i64 (j : Int)) (.int .i64 ((p : Int) + 1)) (.bool bd)) (g := w.heap.size + 1 + 1) (by omega) (.int .i64 k) (.int .i64 0) (.slice none 0 0)).drew
     rcases HRES.out with ⟨h1, rfl, rfl⟩ | ⟨h1, rfl⟩
     ·rw [HR.out]
      unfold rWordK
      rw [h1]
      exact ⟨_, _, _, _, _, _, rfl, hbf⟩
     ·have hk : k = 1 ∨ k = 8 := by have := HLF.out; simpa using this
      have hwd : word s i (asM sa) = .ok (k, j) := by rw [← rword_eq]; exact h1
      have hkk := (word_goes hwd).2.2.1
      rw [HR.out]
      unfold rWordK
      rw [h1]
      dsimp only
      rw [if_pos hk]
      refine ⟨_, rfl, ?_, hbf⟩
      rw [IsV]
      exact ⟨none, 0, rfl, by unfold Rng; omega, by unfold Rng; omega, Nat.le_refl _, Nat.zero_le _, by rw [IsR]; trivial⟩
end Go.Proofs.YtjldbbcdhdfliaaGreatDoor
/-
 Walks over the reference of layer 5: value, Parse.
-/
namespace Go.Proofs.YtjldbbcdhdfliaaGreatDoor
open Go.RowKit

theorem rvalue_any (s : ByteArray) (hs : s.size ≤ maxLen) : ∀ f, RValC s f
 | 0 => by
  intro sa i p w ha hi hp hpf
  refine (rvalue_end s i p sa w hs (.inr (by omega)) hi).mono ?_
  rintro e w' ⟨rfl, hb⟩
  exact ⟨_, _, _, _, _, _, rfl, hb⟩
 | f + 1 => by
  intro sa i p w ha hi hp hpf
  rw [pVal_ref s f sa i p ha]
  unfold rVal
  by_cases h1 : s.size ≤ i ∨ 256 ≤ p
  ·rw [if_pos h1]
   refine (rvalue_end s i p sa w hs h1 hi).mono ?_
   rintro e w' ⟨rfl, hb⟩
   exact ⟨_, _, _, _, _, _, rfl, hb⟩
  ·rw [if_neg h1]
   by_cases h2 : sa = 0 ∧ dig s i = true
   ·rw [if_pos h2]
    obtain ⟨rfl, hd⟩ := h2
    have h := rvalue_num s i p w hs (by omega) (by omega) hd
    have e : intRes 1 p (num s 9223372036854775807 i) = (match num s 9223372036854775807 i with
      | .error j => .error j
      | .ok (n, j) => .ok (.mk 2 n [], j, p + 1)) := by
     rcases num s 9223372036854775807 i with j | ⟨n, j⟩
     ·rfl
     ·show Except.ok (VT.mk 2 (1 * (n : Int)) [], j, p + 1) = _
      rw [Int.one_mul]
    rw [e] at h
    exact h
   ·rw [if_neg h2]
    by_cases h3 : sa = 0 ∧ isB s i 45 = true
    ·rw [if_pos h3]
     obtain ⟨rfl, hm⟩ := h3
     have hd : dig s i = false := by
      cases hd : dig s i
      ·rfl
      ·exact absurd ⟨rfl, hd⟩ h2
     have h := rvalue_neg s i p w hs (by omega) (by omega) hd hm
     have e : intRes (-1) p (rnum s 9223372036854775808 1 (i + 1) false) = (match rnum s 9223372036854775808 1 (i + 1) false with
       | .error j => .error j
       | .ok (n, j) => .ok (.mk 2 (-n) [], j, p + 1)) := by
      rcases rnum s 9223372036854775808 1 (i + 1) false with j | ⟨n, j⟩
      ·rfl
      ·show Except.ok (VT.mk 2 (-1 * (n : Int)) [], j, p + 1) = _
       rw [Int.neg_mul, Int.one_mul]
     rw [e] at h
     exact h
    ·rw [if_neg h3]
     exact rvalue_word s f (rvalue_any s hs f) i p sa w hs (by omega) (by omega) (by omega) ha fun h0 => ⟨by
      cases hd : dig s i
      ·rfl
      ·exact absurd ⟨h0, hd⟩ h2, by
      cases hd : isB s i 45
      ·rfl
      ·exact absurd ⟨h0, hd⟩ h3⟩

theorem RVEnds.out {s : ByteArray} {w w' : World} {r : Except Nat (VT × Nat × Nat)} {e : Ending} (h : RVEnds s w r e w') : ∃ (j : Nat) (p : Int) (bd : Bool) (k n : Int) (a : Option Addr) (len cap : Nat), e = .returned (.tuple #[.agg #[.string s, .int .i64 (j : Int), .int .i64 p, .bool bd], .agg #[.int .i64 k, .int .i64 n, .slice a len cap]]) ∧ Below w.heap.size w w' ∧
  ((r = .error j ∧ bd = true) ∨ (bd = false ∧ ∃ t p2, r = .ok (t, j, p2) ∧ IsV (fun g => w.heap.size ≤ g ∧ g < w'.heap.size) w' t (.agg #[.int .i64 k, .int .i64 n, .slice a len cap]))) := by
 rcases r with j | ⟨t, j, p2⟩
 ·obtain ⟨p', k, n, a, len, cap, rfl, hb⟩ := h
  exact ⟨j, p', true, k, n, a, len, cap, rfl, hb, .inl ⟨rfl, rfl⟩⟩
 ·obtain ⟨v, rfl, hv, hb⟩ := h
  have hv2 := hv
  obtain ⟨kk, nn, ll⟩ := t
  rw [IsV] at hv2
  obtain ⟨a3, c3, rfl, -⟩ := hv2
  exact ⟨j, p2, false, kk, nn, a3, ll.length, c3, rfl, hb, .inr ⟨rfl, _, p2, rfl, hv⟩⟩

set_option maxRecDepth 100000 in
set_option maxHeartbeats 2000000 in
theorem rParse_any (s : ByteArray) (hs : s.size ≤ maxLen) (w : World) : Calls Tryz.prog 40 #[.string s] w (ParseEnds w (parse s)) := by
 have hs2 := hs
 unfold maxLen at hs2
 have hq := Bx.new w 27 (.int .i64 0) (.int .i64 0) (.slice none 0 0)
 have hbq := below_alloc w (.cells #[.int .i64 0, .int .i64 0, .slice none 0 0] 27)
 go_enter Tryz.func40, Tryz.ntmps40
 go_wp2_with fail
 generalize w.alloc (.cells #[.int .i64 0, .int .i64 0, .slice none 0 0] 27) = wq at *
 refine (rvalue_any s hs 256 0 0 0 _ (.inl rfl) (by omega) (by omega) (by omega)).mono ?_
 intro e w3 h3
 obtain ⟨j, p, bd, k, n, a, len, cap, rfl, hb3, hres⟩ := h3.out
 have HRES := Lib.hid hres
 clear h3 hres
 have hq3 := hq.belowAll hb3
 have hb4 := hbq.trans (hb3.mono hbq.size)
 have hqs := hbq.size
 have hql := hq.lt
 clear hq
 go_upto_region 2 with fail
 have hy := (B4.new w3 138 (.string s) (.int .i64 (j : Int)) (.int .i64 p) (.bool bd)).alloc (.cells #[.int .i64 k, .int .i64 n, .slice a len cap] 27)
 have hz := Bx.new (w3.alloc (.cells #[.string s, .int .i64 (j : Int), .int .i64 p, .bool bd] 138)) 27 (.int .i64 k) (.int .i64 n) (.slice a len cap)
 have hsz10 : (w3.alloc (.cells #[.string s, .int .i64 (j : Int), .int .i64 p, .bool bd] 138)).heap.size = w3.heap.size + 1 := by simp
 rw [hsz10] at hz
 have hb10 : Below w3.heap.size w3 ((w3.alloc (.cells #[.string s, .int .i64 (j : Int), .int .i64 p, .bool bd] 138)).alloc (.cells #[.int .i64 k, .int .i64 n, .slice a len cap] 27)) := two_alloc _ _ _
 have hq5 := hq3.belowAll hb10
 have hb5 := hb4.trans (hb10.mono hb4.size)
 have hs3 := hb3.size
 clear hsz10 hq3 hb4
 generalize (w3.alloc (.cells #[.string s, .int .i64 (j : Int), .int .i64 p, .bool bd] 138)).alloc (.cells #[.int .i64 k, .int .i64 n, .slice a len cap] 27) = w5 at *
 have y0 := hy.c0
 have y1 := hy.c1
 have y2 := hy.c2
 have y3 := hy.c3
 have q0 := hq5.c0
 have q1 := hq5.c1
 have q2 := hq5.c2
 have qf := hq5.fz
 have z0 := hz.c0
 have z1 := hz.c1
 have z2 := hz.c2
 have hn1 : ¬ w3.heap.size = w.heap.size := by omega
 have hn2 : ¬ w.heap.size = w3.heap.size := by omega
 have hp0 : ∀ r, pVal s 256 (asM 0) 0 0 = r → parse s = match r with
   | .error j => .error j
   | .ok (t, i, _) => if i < s.size then .error i else .ok t := by
  intro r hr
  unfold parse
  rw [← asM0, hr]
  rcases r with j | ⟨t, i, p⟩ <;> rfl
 have HP0 := Lib.hid hp0
 clear hp0
 by_cases hbad : bd = true ∨ j < s.size
 ·have hres2 : Hid (parse s = .error j) := by
   show _ = _
   rcases HRES.out with ⟨h1, _⟩ | ⟨h0, t, p2, h1, _⟩
   ·rw [HP0.out _ h1]
   ·rw [HP0.out _ h1]
    dsimp only
    rw [if_pos (hbad.elim (fun h => by rw [h0] at h; cases h) id)]
  rcases hbad with rfl | hlt
  ·go_wp2_with fail
   go_region
   all_goals
    go_wp2_with fail
    have hq9 := (hq5.put (.int .i64 0) (.int .i64 0) (.slice none 0 0)).drew
    refine bodyPost_ret (v := .tuple #[.agg #[.int .i64 0, .int .i64 0, .slice none 0 0], .int .i64 j, .int .i64 50]) (by simp [results, Tryz.results40, go_sem, hq9.c0, hq9.c1, hq9.c2]) rfl ?_
    rw [hres2.out]
    exact ⟨rfl, (below_put3 hb5 (Nat.le_refl _) _ _ _).drew⟩
  ·have hd : decide (j < s.size) = true := by simpa using hlt
   cases bd
   all_goals
    go_wp2_with fail
    go_region
    all_goals
     go_wp2_with fail
     have hq9 := (hq5.put (.int .i64 0) (.int .i64 0) (.slice none 0 0)).drew
     refine bodyPost_ret (v := .tuple #[.agg #[.int .i64 0, .int .i64 0, .slice none 0 0], .int .i64 j, .int .i64 50]) (by simp [results, Tryz.results40, go_sem, hq9.c0, hq9.c1, hq9.c2]) rfl ?_
     rw [hres2.out]
     exact ⟨rfl, (below_put3 hb5 (Nat.le_refl _) _ _ _).drew⟩
 ·obtain rfl : bd = false := by cases bd; rfl; exact absurd (.inl rfl) hbad
  have hlt : ¬ j < s.size := fun h => hbad (.inr h)
  have hd : decide (j < s.size) = false := by simpa using hlt
  go_wp2_with fail
  have hq9 := (hq5.put (.int .i64 k) (.int .i64 n) (.slice a len cap))
  refine bodyPost_ret (v := .tuple #[.agg #[.int .i64 k, .int .i64 n, .slice a len cap], .int .i64 0, .int .i64 0]) (by simp [results, Tryz.results40, go_sem, hq9.c0, hq9.c1, hq9.c2]) rfl ?_
  rcases HRES.out with ⟨_, h1⟩ | ⟨h0, t, p2, h1, hv⟩
  ·cases h1
  ·have e : parse s = .ok t := by rw [HP0.out _ h1]; dsimp only; rw [if_neg hlt]
   rw [e]
   refine ⟨_, rfl, (hv.keep ?_).more ?_, below_put3 hb5 (Nat.le_refl _) _ _ _⟩
   ·intro g ⟨hga, hgb⟩ o
    refine World.cell?_of_block (w := w3) ?_
    have hg : g ≠ w.heap.size := by omega
    show (put3 w5 w.heap.size _ _ _).heap[g]? = _
    rw [Below.heap_setCell _ _ _ _ hg, Below.heap_setCell _ _ _ _ hg, Below.heap_setCell _ _ _ _ hg]
    exact hb10.block g hgb
   ·intro g ⟨hga, hgb⟩
    have := hb10.size
    refine ⟨by omega, ?_⟩
    simp [World.setCell]
    omega
end Go.Proofs.YtjldbbcdhdfliaaGreatDoor
