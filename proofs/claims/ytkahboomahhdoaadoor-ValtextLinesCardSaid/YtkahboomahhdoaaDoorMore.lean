/-
  Walks over package valtext's reader: more, over value's contract.
-/
import Derived.Test.YtkahboomahhdoaaDoorApp
namespace Go.Proofs.YtkahboomahhdoaaDoor
open Go.RowKit

/-- The operations of a region, out of a function's code. -/
def regionOf (id : Nat) : Code → Option (Array Oper)
  | .region j ops _ => if j = id then some ops else none
  | .seq x y => match regionOf id x with
    | some o => some o
    | none => regionOf id y
  | .cond _ x y => match regionOf id x with
    | some o => some o
    | none => regionOf id y
  | .block _ c => regionOf id c
  | .loop c => regionOf id c
  | .scope c => regionOf id c
  | _ => none
def ropsOf (f : Func) (id : Nat) : Array Oper := ((f.body.bind (regionOf id)).getD #[])
theorem list12 {us : List Value} (h : us.length = 12) : ∃ u0 u1 u2 u3 u4 u5 u6 u7 u8 u9 u10 u11, us = [u0, u1, u2, u3, u4, u5, u6, u7, u8, u9, u10, u11] := by
  match us, h with
  | [u0, u1, u2, u3, u4, u5, u6, u7, u8, u9, u10, u11], _ => exact ⟨u0, u1, u2, u3, u4, u5, u6, u7, u8, u9, u10, u11, rfl⟩
theorem list13 {us : List Value} (h : us.length = 13) : ∃ u0 u1 u2 u3 u4 u5 u6 u7 u8 u9 u10 u11 u12, us = [u0, u1, u2, u3, u4, u5, u6, u7, u8, u9, u10, u11, u12] := by
  match us, h with
  | [u0, u1, u2, u3, u4, u5, u6, u7, u8, u9, u10, u11, u12], _ => exact ⟨u0, u1, u2, u3, u4, u5, u6, u7, u8, u9, u10, u11, u12, rfl⟩
theorem more_shape : Shape (ropsOf Tryd.f81 4) (App1K 21) App1E := ⟨by kernel_rfl, by kernel_rfl⟩

set_option maxRecDepth 100000 in
set_option maxHeartbeats 2000000 in
theorem more_any (s : ByteArray) (f : Nat) (hV : ValC s f) (m : Int → Bool) (mf b vb lo : Nat) (k n : Int) (hm : MayIs mf m) (hs : s.size ≤ maxLen) (hb0 : b ≠ 0) (hv0 : vb ≠ 0) (hw0 : 0 < lo) (hblo : b < lo) (hbv : b ≠ vb)
    (c : Nat) (hc : c ≤ 20) (l : List VT) (i p : Nat) (v : Value) (xs : List Value) (w : World) (h : Rd w b s i p) (hi : i ≤ s.size) (hp : p ≤ 256) (hpf : 256 ≤ p + f) (hl : l.length ≤ 20) (hacc : Acc lo w vb k n l v xs) (hW : HasWords w) :
    Calls Tryd.prog 81 #[.pointer (some ⟨b, 0, none⟩), .pointer (some ⟨vb, 0, none⟩), .int .i64 c, .func (.func mf) #[] #[]] w (LstEnds lo b vb s k n w (pMore s (pVal s f) m c l i p)) := by
  have hs2 := hs
  unfold maxLen at hs2
  have HV := Lib.hid hV
  clear hV
  obtain ⟨i0, hi0, hz0, hz1, hz2⟩ := info_parts val_info
  go_enter Tryd.func81, Tryd.ntmps81
  go_wp2_with fail
  go_loopw [9] (fun x wr => ∃ (j i' p' : Nat) (l' : List VT) (v' : Value) (xs' : List Value), x = .int .i64 j ∧ j ≤ c ∧ l'.length ≤ 20 + j ∧ pMore s (pVal s f) m c l i p = pMore s (pVal s f) m (c - j) l' i' p' ∧ i' ≤ s.size ∧ p ≤ p' ∧ p' ≤ 256 ∧ Rd wr b s i' p' ∧ Acc lo wr vb k n l' v' xs' ∧ Fx lo b vb w wr) (fun x _ => c - (intOf x).toNat)
  case atStart => exact ⟨0, i, p, l, v, xs, rfl, by omega, by omega, rfl, hi, by omega, hp, h, hacc, Fx.refl _ _ _ _⟩
  case round =>
    clear h hacc
    obtain ⟨j, i', p', l', v', xs', rfl, hj, hl', hq, hi', hpp, hp', hr, hacc, hfx⟩ := hrel
    have HQ := Lib.hid hq
    clear hq
    by_cases hjc : j < c
    · have hq2 : pMore s (pVal s f) m (c - j) l' i' p' = if isB s i' 44 then
          match pOne (pVal s f) m l' (i' + 1) p' with
          | .error j => .error j
          | .ok (l2, i2, p2) => pMore s (pVal s f) m (c - (j + 1)) l2 i2 p2
          else .ok (l', i', p') := by
        rw [show c - j = (c - (j + 1)) + 1 from by omega, pMore]
        rfl
      have HQ2 := Lib.hid hq2
      clear hq2
      cases hcm : isB s i' 44
      · have HB := Lib.hid hcm
        clear hcm
        go_wp2_with fail
        refine (next_any b s i' p' 44 _ hr hs (by omega) hi').mono ?_
        rintro e w1 ⟨rfl, n1, rfl⟩
        rw [HB.out]
        go_wp2_with fail
        refine bodyPost_ret (results_none rfl _ _ _) rfl ?_
        rw [HQ.out, HQ2.out, HB.out]
        exact ⟨rfl, hr.drewN n1, ⟨v', xs', hacc.drewN n1⟩, hfx.trans (Fx.drewN n1)⟩
      · have hlt := isB_lt (by omega) hcm
        have HB := Lib.hid hcm
        clear hcm
        go_wp2_with fail
        refine (next_any b s i' p' 44 _ hr hs (by omega) hi').mono ?_
        rintro e w1 ⟨rfl, n1, rfl⟩
        rw [HB.out]
        have d1 := hr.c1
        have f1 := hr.fz 1
        go_wp2_with fail
        have hr2 : Rd ((wr.drewN n1).setCell ⟨b, 1, none⟩ (.int .i64 ((i' : Int) + 1))) b s (i' + 1) p' := (hr.drewN n1).set1 (i' + 1)
        have hacc2 := (hacc.drewN n1).setB 1 (.int .i64 ((i' : Int) + 1)) hblo hbv
        have hfx2 := (hfx.trans (Fx.drewN n1)).trans (Fx.set ⟨b, 1, none⟩ (.int .i64 ((i' : Int) + 1)) (.inr (.inl rfl)))
        clear d1 f1 hr hacc hfx
        generalize (wr.drewN n1).setCell ⟨b, 1, none⟩ (.int .i64 ((i' : Int) + 1)) = w2 at *
        have hW2 := hfx2.words hW hw0 hb0 hv0
        refine App1_region (d := 21) (lo := lo) (b := b) (vb := vb) (i := i' + 1) (p := p') (k := k) (n := n) (l := l') (v := v') (xs := xs') (F := mf) (f := f) (m := m) (s := s) (w0 := w2) HV.out hm more_shape (by omega) (by simp) rfl rfl rfl hr2 (by omega) hp' (by omega) hW2 hacc2 (by omega) hb0 hv0 hw0 hblo hbv ?_ ?_
        · intro j' a3 w3 ho hdf hf3
          refine ⟨hdf, ?_⟩
          rw [HQ.out, HQ2.out, HB.out]
          unfold pOne
          rw [ho]
          exact ⟨rfl, hfx2.trans hf3⟩
        · rintro t i2 p2 a3 w3 ho hU hr3 ⟨v3, xs3, hacc3⟩ hf3
          have hgo := pVal_goes s f m (i' + 1) p' t i2 p2 (by omega) (by omega) ho
          obtain ⟨us, hus, rfl⟩ := hU.list (by simp)
          obtain ⟨x0, x1, x2, x3, x4, x5, x6, x7, x8, x9, x10, x11, x12, rfl⟩ := list13 hus
          simp only [List.take_succ_cons, List.take_zero, List.drop_succ_cons, List.drop_zero, List.cons_append, List.nil_append]
          have HO : Hid (pOne (pVal s f) m l' (i' + 1) p' = .ok (l' ++ [t], i2, p2)) := by
            show _ = _
            unfold pOne
            rw [ho]
          clear ho hus hU
          have hfx3 := hfx2.trans hf3
          clear hfx2 hf3
          go_wp2_with fail
          refine ⟨⟨j + 1, i2, p2, l' ++ [t], v3, xs3, by go_num, by omega, by simp; omega, ?_, by omega, by omega, by omega, hr3, hacc3, hfx3⟩, by simp [intOf]; omega⟩
          rw [HQ.out, HQ2.out, HB.out, HO.out]
          rfl
    · have HC0 : Hid (pMore s (pVal s f) m (c - j) l' i' p' = .ok (l', i', p')) := by
        show _ = _
        rw [show c - j = 0 from by omega, pMore]
      go_wp2_with fail
      go_end0
      rw [HQ.out, HC0.out]
      exact ⟨rfl, hr, ⟨v', xs', hacc⟩, hfx⟩
end Go.Proofs.YtkahboomahhdoaaDoor
