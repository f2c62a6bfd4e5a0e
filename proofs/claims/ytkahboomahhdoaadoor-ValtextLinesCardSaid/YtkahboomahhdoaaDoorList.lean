/-
  Walks over package valtext's reader: list, a theorem a Kind, over value's contract. Printed by gen_list.py.
-/
import Derived.Test.YtkahboomahhdoaaDoorMore
namespace Go.Proofs.YtkahboomahhdoaaDoor
open Go.RowKit

theorem may_any : MayIs 31 mAny where
  enters := fun _ _ => by kernel_rfl
  calls := fun k w => by
    go_enter Tryd.func31, Tryd.ntmps31
    go_wp2_with fail
    go_ret
    exact ⟨rfl, rfl⟩
theorem may_chan : MayIs 79 mChan where
  enters := fun _ _ => by kernel_rfl
  calls := fun k w => by
    go_enter Tryd.func79, Tryd.ntmps79
    go_wp2_with fail
    go_ret
    exact ⟨ret_bool (by rw [mChan, Bool.eq_iff_iff]; simp), rfl⟩
theorem may_ev : MayIs 80 mEv where
  enters := fun _ _ => by kernel_rfl
  calls := fun k w => vevent_any k w _ (.inr rfl)

def LstEndsN (lo b vb : Nat) (s : ByteArray) (k : Int) (w : World) (r : Except Nat (Int × List VT × Nat × Nat)) (e : Ending) (w' : World) : Prop :=
  match r with
  | .error j => e = Wrong j ∧ Fx lo b vb w w'
  | .ok (n, l, i, p) => e = .returned (.tuple #[]) ∧ Rd w' b s i p ∧ (∃ v xs, Acc lo w' vb k n l v xs) ∧ Fx lo b vb w w'
theorem LstEnds.withN {lo b vb : Nat} {s : ByteArray} {k n : Int} {w w' : World} {r : Except Nat (List VT × Nat × Nat)} {e : Ending} (h : LstEnds lo b vb s k n w r e w') : LstEndsN lo b vb s k w (withN n r) e w' := by
  rcases r with j | ⟨l, i, p⟩
  · exact h
  · exact h
theorem LstEndsN.from {lo b vb : Nat} {s : ByteArray} {k : Int} {w w1 w' : World} {r : Except Nat (Int × List VT × Nat × Nat)} {e : Ending} (hf : Fx lo b vb w w1) (h : LstEndsN lo b vb s k w1 r e w') : LstEndsN lo b vb s k w r e w' := by
  rcases r with j | ⟨n, l, i, p⟩
  · exact ⟨h.1, hf.trans h.2⟩
  · exact ⟨h.1, h.2.1, h.2.2.1, hf.trans h.2.2.2⟩
/-- What list asks. -/
structure ListPre (s : ByteArray) (f : Nat) (lo b vb : Nat) (k : Int) (i p : Nat) (w : World) : Prop where
  val : ValC s f
  size : s.size ≤ maxLen
  b0 : b ≠ 0
  v0 : vb ≠ 0
  w0 : 0 < lo
  blo : b < lo
  bv : b ≠ vb
  rd : Rd w b s i p
  hi : i ≤ s.size
  hp : p ≤ 256
  hpf : 256 ≤ p + f
  acc : Acc lo w vb k 0 [] (.slice none 0 0) []
  words : HasWords w
theorem list_shape2 : Shape (ropsOf Tryd.f58 2) (App0K 10 31) App0E := ⟨by kernel_rfl, by kernel_rfl⟩
theorem list_shape4 : Shape (ropsOf Tryd.f58 4) (App0K 24 31) App0E := ⟨by kernel_rfl, by kernel_rfl⟩
theorem list_shape9 : Shape (ropsOf Tryd.f58 9) (App0K 47 79) App0E := ⟨by kernel_rfl, by kernel_rfl⟩
theorem list_shape11 : Shape (ropsOf Tryd.f58 11) (App0K 61 31) App0E := ⟨by kernel_rfl, by kernel_rfl⟩
theorem list_shape13 : Shape (ropsOf Tryd.f58 13) (App0K 75 79) App0E := ⟨by kernel_rfl, by kernel_rfl⟩
theorem list_shape15 : Shape (ropsOf Tryd.f58 15) (App0K 89 31) App0E := ⟨by kernel_rfl, by kernel_rfl⟩
theorem list_shape18 : Shape (ropsOf Tryd.f58 18) (App0K 105 80) App0E := ⟨by kernel_rfl, by kernel_rfl⟩
theorem list_shape23 : Shape (ropsOf Tryd.f58 23) (App0K 130 80) App0E := ⟨by kernel_rfl, by kernel_rfl⟩

set_option maxRecDepth 100000 in
set_option maxHeartbeats 2000000 in
theorem list_3 {s : ByteArray} {f lo b vb i p : Nat} {w : World} (H : ListPre s f lo b vb 3 i p w) :
    Calls Tryd.prog 58 #[.pointer (some ⟨b, 0, none⟩), .pointer (some ⟨vb, 0, none⟩)] w (LstEndsN lo b vb s 3 w (pList s (pVal s f) 3 i p)) := by
  have hs := H.size
  have hs2 := H.size
  unfold maxLen at hs2
  have hb0 := H.b0
  have hv0 := H.v0
  have hw0 := H.w0
  have hblo := H.blo
  have hbv := H.bv
  have hrA := H.rd
  have hiA := H.hi
  have hpA := H.hp
  have hfA := H.hpf
  have haA := H.acc
  have hWA := H.words
  have hxA := Fx.refl lo b vb w
  have ck := haA.box.c0
  have HV := Lib.hid H.val
  clear H
  go_enter Tryd.func58, Tryd.ntmps58
  go_wp2_with fail
  refine App0_region (d := 10) (lo := lo) (b := b) (vb := vb) (i := i) (p := p) (F := 31) (f := f) (m := mAny) (s := s) HV.out may_any list_shape2 (by omega) (by simp) rfl rfl hrA (by omega) (by omega) (by omega) hWA haA (by simp; try omega) hb0 hv0 hw0 hblo hbv ?_ ?_
  · intro j1 a1 w1 ho1 hdf1 hf1
    refine ⟨hdf1, ?_⟩
    have hfin : pList s (pVal s f) 3 i p = .error j1 := by simp [pList, pTwo, pOne, withN, ho1]
    rw [hfin]
    exact ⟨rfl, hxA.trans hf1⟩
  rintro t1 i1 p1 a1 w1 ho1 hU1 hr1 ⟨v1, xs1, hacc1⟩ hf1
  have hgo1 := pVal_goes s f _ _ _ t1 i1 p1 (by omega) (by omega) ho1
  obtain ⟨us, hus, rfl⟩ := hU1.list (by simp)
  obtain ⟨x0, x1, x2, x3, x4, x5, x6, x7, x8, x9, x10, x11, rfl⟩ := list12 hus
  simp only [List.take_succ_cons, List.take_zero, List.drop_succ_cons, List.drop_zero, List.cons_append, List.nil_append]
  have HO1 := Lib.hid ho1
  clear ho1 hus hU1
  have hx1 := hxA.trans hf1
  have hW1 := hx1.words hWA hw0 hb0 hv0
  clear hf1
  cases hb2 : isB s i1 44
  · have HB2 := Lib.hid hb2
    clear hb2
    go_wp2_with fail
    refine (skip_no b s i1 p1 44 _ hr1 hs (by omega) (by omega) HB2.out).mono ?_
    rintro e w2 ⟨rfl, hg2⟩
    refine ⟨rfl, ?_⟩
    have hfin : pList s (pVal s f) 3 i p = .error i1 := by simp [pList, pTwo, pOne, withN, HO1.out, HB2.out]
    rw [hfin]
    exact ⟨rfl, hx1.trans (Fx.gr hacc1.le hg2)⟩
  have hlt2 := isB_lt (by omega) hb2
  have HB2 := Lib.hid hb2
  clear hb2
  go_wp2_with fail
  refine (skip_yes b s i1 p1 44 _ hr1 hs (by omega) (by omega) HB2.out).mono ?_
  rintro e w2 ⟨rfl, hr2, hg2⟩
  have hacc2 := hacc1.gr hg2 hblo hbv
  have hx2 := hx1.trans (Fx.gr hacc1.le hg2)
  have hW2 := hx2.words hWA hw0 hb0 hv0
  clear hg2
  go_wp2_with fail
  refine App0_region (d := 24) (lo := lo) (b := b) (vb := vb) (i := (i1 + 1)) (p := p1) (F := 31) (f := f) (m := mAny) (s := s) HV.out may_any list_shape4 (by omega) (by simp) rfl rfl hr2 (by omega) (by omega) (by omega) hW2 hacc2 (by simp; try omega) hb0 hv0 hw0 hblo hbv ?_ ?_
  · intro j3 a3 w3 ho3 hdf3 hf3
    refine ⟨hdf3, ?_⟩
    have hfin : pList s (pVal s f) 3 i p = .error j3 := by simp [pList, pTwo, pOne, withN, HO1.out, HB2.out, ho3]
    rw [hfin]
    exact ⟨rfl, hx2.trans hf3⟩
  rintro t3 i3 p3 a3 w3 ho3 hU3 hr3 ⟨v3, xs3, hacc3⟩ hf3
  have hgo3 := pVal_goes s f _ _ _ t3 i3 p3 (by omega) (by omega) ho3
  obtain ⟨us, hus, rfl⟩ := hU3.list (by simp)
  obtain ⟨x0, x1, x2, x3, x4, x5, x6, x7, x8, x9, x10, x11, rfl⟩ := list12 hus
  simp only [List.take_succ_cons, List.take_zero, List.drop_succ_cons, List.drop_zero, List.cons_append, List.nil_append]
  have HO3 := Lib.hid ho3
  clear ho3 hus hU3
  have hx3 := hx2.trans hf3
  have hW3 := hx3.words hWA hw0 hb0 hv0
  clear hf3
  go_wp2_with fail
  go_end0
  have hfin : pList s (pVal s f) 3 i p = .ok (0, [t1] ++ [t3], i3, p3) := by simp [pList, pTwo, pOne, withN, HO1.out, HB2.out, HO3.out]
  rw [hfin]
  exact ⟨rfl, hr3, ⟨_, _, hacc3⟩, hx3⟩

set_option maxRecDepth 100000 in
set_option maxHeartbeats 2000000 in
theorem list_5 {s : ByteArray} {f lo b vb i p : Nat} {w : World} (H : ListPre s f lo b vb 5 i p w) :
    Calls Tryd.prog 58 #[.pointer (some ⟨b, 0, none⟩), .pointer (some ⟨vb, 0, none⟩)] w (LstEndsN lo b vb s 5 w (pList s (pVal s f) 5 i p)) := by
  have hs := H.size
  have hs2 := H.size
  unfold maxLen at hs2
  have hb0 := H.b0
  have hv0 := H.v0
  have hw0 := H.w0
  have hblo := H.blo
  have hbv := H.bv
  have hrA := H.rd
  have hiA := H.hi
  have hpA := H.hp
  have hfA := H.hpf
  have haA := H.acc
  have hWA := H.words
  have hxA := Fx.refl lo b vb w
  have ck := haA.box.c0
  have HV := Lib.hid H.val
  clear H
  go_enter Tryd.func58, Tryd.ntmps58
  go_wp2_with fail
  refine App0_region (d := 47) (lo := lo) (b := b) (vb := vb) (i := i) (p := p) (F := 79) (f := f) (m := mChan) (s := s) HV.out may_chan list_shape9 (by omega) (by simp) rfl rfl hrA (by omega) (by omega) (by omega) hWA haA (by simp; try omega) hb0 hv0 hw0 hblo hbv ?_ ?_
  · intro j1 a1 w1 ho1 hdf1 hf1
    refine ⟨hdf1, ?_⟩
    have hfin : pList s (pVal s f) 5 i p = .error j1 := by simp [pList, pTwo, pOne, withN, ho1]
    rw [hfin]
    exact ⟨rfl, hxA.trans hf1⟩
  rintro t1 i1 p1 a1 w1 ho1 hU1 hr1 ⟨v1, xs1, hacc1⟩ hf1
  have hgo1 := pVal_goes s f _ _ _ t1 i1 p1 (by omega) (by omega) ho1
  obtain ⟨us, hus, rfl⟩ := hU1.list (by simp)
  obtain ⟨x0, x1, x2, x3, x4, x5, x6, x7, x8, x9, x10, x11, rfl⟩ := list12 hus
  simp only [List.take_succ_cons, List.take_zero, List.drop_succ_cons, List.drop_zero, List.cons_append, List.nil_append]
  have HO1 := Lib.hid ho1
  clear ho1 hus hU1
  have hx1 := hxA.trans hf1
  have hW1 := hx1.words hWA hw0 hb0 hv0
  clear hf1
  cases hb2 : isB s i1 44
  · have HB2 := Lib.hid hb2
    clear hb2
    go_wp2_with fail
    refine (skip_no b s i1 p1 44 _ hr1 hs (by omega) (by omega) HB2.out).mono ?_
    rintro e w2 ⟨rfl, hg2⟩
    refine ⟨rfl, ?_⟩
    have hfin : pList s (pVal s f) 5 i p = .error i1 := by simp [pList, pTwo, pOne, withN, HO1.out, HB2.out]
    rw [hfin]
    exact ⟨rfl, hx1.trans (Fx.gr hacc1.le hg2)⟩
  have hlt2 := isB_lt (by omega) hb2
  have HB2 := Lib.hid hb2
  clear hb2
  go_wp2_with fail
  refine (skip_yes b s i1 p1 44 _ hr1 hs (by omega) (by omega) HB2.out).mono ?_
  rintro e w2 ⟨rfl, hr2, hg2⟩
  have hacc2 := hacc1.gr hg2 hblo hbv
  have hx2 := hx1.trans (Fx.gr hacc1.le hg2)
  have hW2 := hx2.words hWA hw0 hb0 hv0
  clear hg2
  go_wp2_with fail
  refine App0_region (d := 61) (lo := lo) (b := b) (vb := vb) (i := (i1 + 1)) (p := p1) (F := 31) (f := f) (m := mAny) (s := s) HV.out may_any list_shape11 (by omega) (by simp) rfl rfl hr2 (by omega) (by omega) (by omega) hW2 hacc2 (by simp; try omega) hb0 hv0 hw0 hblo hbv ?_ ?_
  · intro j3 a3 w3 ho3 hdf3 hf3
    refine ⟨hdf3, ?_⟩
    have hfin : pList s (pVal s f) 5 i p = .error j3 := by simp [pList, pTwo, pOne, withN, HO1.out, HB2.out, ho3]
    rw [hfin]
    exact ⟨rfl, hx2.trans hf3⟩
  rintro t3 i3 p3 a3 w3 ho3 hU3 hr3 ⟨v3, xs3, hacc3⟩ hf3
  have hgo3 := pVal_goes s f _ _ _ t3 i3 p3 (by omega) (by omega) ho3
  obtain ⟨us, hus, rfl⟩ := hU3.list (by simp)
  obtain ⟨x0, x1, x2, x3, x4, x5, x6, x7, x8, x9, x10, x11, rfl⟩ := list12 hus
  simp only [List.take_succ_cons, List.take_zero, List.drop_succ_cons, List.drop_zero, List.cons_append, List.nil_append]
  have HO3 := Lib.hid ho3
  clear ho3 hus hU3
  have hx3 := hx2.trans hf3
  have hW3 := hx3.words hWA hw0 hb0 hv0
  clear hf3
  go_wp2_with fail
  go_end0
  have hfin : pList s (pVal s f) 5 i p = .ok (0, [t1] ++ [t3], i3, p3) := by simp [pList, pTwo, pOne, withN, HO1.out, HB2.out, HO3.out]
  rw [hfin]
  exact ⟨rfl, hr3, ⟨_, _, hacc3⟩, hx3⟩

set_option maxRecDepth 100000 in
set_option maxHeartbeats 2000000 in
theorem list_6 {s : ByteArray} {f lo b vb i p : Nat} {w : World} (H : ListPre s f lo b vb 6 i p w) :
    Calls Tryd.prog 58 #[.pointer (some ⟨b, 0, none⟩), .pointer (some ⟨vb, 0, none⟩)] w (LstEndsN lo b vb s 6 w (pList s (pVal s f) 6 i p)) := by
  have hs := H.size
  have hs2 := H.size
  unfold maxLen at hs2
  have hb0 := H.b0
  have hv0 := H.v0
  have hw0 := H.w0
  have hblo := H.blo
  have hbv := H.bv
  have hrA := H.rd
  have hiA := H.hi
  have hpA := H.hp
  have hfA := H.hpf
  have haA := H.acc
  have hWA := H.words
  have hxA := Fx.refl lo b vb w
  have ck := haA.box.c0
  have HV := Lib.hid H.val
  clear H
  go_enter Tryd.func58, Tryd.ntmps58
  go_wp2_with fail
  refine App0_region (d := 75) (lo := lo) (b := b) (vb := vb) (i := i) (p := p) (F := 79) (f := f) (m := mChan) (s := s) HV.out may_chan list_shape13 (by omega) (by simp) rfl rfl hrA (by omega) (by omega) (by omega) hWA haA (by simp; try omega) hb0 hv0 hw0 hblo hbv ?_ ?_
  · intro j1 a1 w1 ho1 hdf1 hf1
    refine ⟨hdf1, ?_⟩
    have hfin : pList s (pVal s f) 6 i p = .error j1 := by simp [pList, pOne, withN, ho1]
    rw [hfin]
    exact ⟨rfl, hxA.trans hf1⟩
  rintro t1 i1 p1 a1 w1 ho1 hU1 hr1 ⟨v1, xs1, hacc1⟩ hf1
  have hgo1 := pVal_goes s f _ _ _ t1 i1 p1 (by omega) (by omega) ho1
  obtain ⟨us, hus, rfl⟩ := hU1.list (by simp)
  obtain ⟨x0, x1, x2, x3, x4, x5, x6, x7, x8, x9, x10, x11, rfl⟩ := list12 hus
  simp only [List.take_succ_cons, List.take_zero, List.drop_succ_cons, List.drop_zero, List.cons_append, List.nil_append]
  have HO1 := Lib.hid ho1
  clear ho1 hus hU1
  have hx1 := hxA.trans hf1
  have hW1 := hx1.words hWA hw0 hb0 hv0
  clear hf1
  go_wp2_with fail
  go_end0
  have hfin : pList s (pVal s f) 6 i p = .ok (0, [t1], i1, p1) := by simp [pList, pOne, withN, HO1.out]
  rw [hfin]
  exact ⟨rfl, hr1, ⟨_, _, hacc1⟩, hx1⟩

set_option maxRecDepth 100000 in
set_option maxHeartbeats 2000000 in
theorem list_7 {s : ByteArray} {f lo b vb i p : Nat} {w : World} (H : ListPre s f lo b vb 7 i p w) :
    Calls Tryd.prog 58 #[.pointer (some ⟨b, 0, none⟩), .pointer (some ⟨vb, 0, none⟩)] w (LstEndsN lo b vb s 7 w (pList s (pVal s f) 7 i p)) := by
  have hs := H.size
  have hs2 := H.size
  unfold maxLen at hs2
  have hb0 := H.b0
  have hv0 := H.v0
  have hw0 := H.w0
  have hblo := H.blo
  have hbv := H.bv
  have hrA := H.rd
  have hiA := H.hi
  have hpA := H.hp
  have hfA := H.hpf
  have haA := H.acc
  have hWA := H.words
  have hxA := Fx.refl lo b vb w
  have ck := haA.box.c0
  have HV := Lib.hid H.val
  clear H
  go_enter Tryd.func58, Tryd.ntmps58
  go_wp2_with fail
  refine App0_region (d := 89) (lo := lo) (b := b) (vb := vb) (i := i) (p := p) (F := 31) (f := f) (m := mAny) (s := s) HV.out may_any list_shape15 (by omega) (by simp) rfl rfl hrA (by omega) (by omega) (by omega) hWA haA (by simp; try omega) hb0 hv0 hw0 hblo hbv ?_ ?_
  · intro j1 a1 w1 ho1 hdf1 hf1
    refine ⟨hdf1, ?_⟩
    have hfin : pList s (pVal s f) 7 i p = .error j1 := by simp [pList, pOne, withN, ho1]
    rw [hfin]
    exact ⟨rfl, hxA.trans hf1⟩
  rintro t1 i1 p1 a1 w1 ho1 hU1 hr1 ⟨v1, xs1, hacc1⟩ hf1
  have hgo1 := pVal_goes s f _ _ _ t1 i1 p1 (by omega) (by omega) ho1
  obtain ⟨us, hus, rfl⟩ := hU1.list (by simp)
  obtain ⟨x0, x1, x2, x3, x4, x5, x6, x7, x8, x9, x10, x11, rfl⟩ := list12 hus
  simp only [List.take_succ_cons, List.take_zero, List.drop_succ_cons, List.drop_zero, List.cons_append, List.nil_append]
  have HO1 := Lib.hid ho1
  clear ho1 hus hU1
  have hx1 := hxA.trans hf1
  have hW1 := hx1.words hWA hw0 hb0 hv0
  clear hf1
  go_wp2_with fail
  go_end0
  have hfin : pList s (pVal s f) 7 i p = .ok (0, [t1], i1, p1) := by simp [pList, pOne, withN, HO1.out]
  rw [hfin]
  exact ⟨rfl, hr1, ⟨_, _, hacc1⟩, hx1⟩

set_option maxRecDepth 100000 in
set_option maxHeartbeats 2000000 in
theorem list_4 {s : ByteArray} {f lo b vb i p : Nat} {w : World} (H : ListPre s f lo b vb 4 i p w) :
    Calls Tryd.prog 58 #[.pointer (some ⟨b, 0, none⟩), .pointer (some ⟨vb, 0, none⟩)] w (LstEndsN lo b vb s 4 w (pList s (pVal s f) 4 i p)) := by
  have hs := H.size
  have hs2 := H.size
  unfold maxLen at hs2
  have hb0 := H.b0
  have hv0 := H.v0
  have hw0 := H.w0
  have hblo := H.blo
  have hbv := H.bv
  have hrA := H.rd
  have hiA := H.hi
  have hpA := H.hp
  have hfA := H.hpf
  have haA := H.acc
  have hWA := H.words
  have hxA := Fx.refl lo b vb w
  have ck := haA.box.c0
  have HV := Lib.hid H.val
  clear H
  go_enter Tryd.func58, Tryd.ntmps58
  rcases hn1 : num s 9223372036854775807 i with j1 | ⟨n1, i1⟩
  · have HN1 := Lib.hid hn1
    clear hn1
    go_wp2_with fail
    refine (number_any b s i p 9223372036854775807 _ hrA hs (by omega) (by omega) (by omega)).mono ?_
    rw [HN1.out]
    rintro e w1 ⟨rfl, hg1⟩
    refine ⟨rfl, ?_⟩
    have hfin : pList s (pVal s f) 4 i p = .error j1 := by simp [pList, pNum, HN1.out]
    rw [hfin]
    exact ⟨rfl, hxA.trans (Fx.gr haA.le hg1)⟩
  have hno1 := num_ok hn1 (by omega) (by omega)
  have HN1 := Lib.hid hn1
  clear hn1
  go_wp2_with fail
  refine (number_any b s i p 9223372036854775807 _ hrA hs (by omega) (by omega) (by omega)).mono ?_
  rw [HN1.out]
  rintro e w1 ⟨rfl, hr1, hg1⟩
  have hacc1 := haA.gr hg1 hblo hbv
  have cn1 := hacc1.box.c1
  have cf1 := hacc1.box.fz 1
  have hx1 := (hxA.trans (Fx.gr haA.le hg1)).trans (Fx.set ⟨vb, 1, none⟩ (.int .i64 (n1 : Int)) (.inr (.inr rfl)))
  have hW1 := hx1.words hWA hw0 hb0 hv0
  have hrr1 := hr1.far (q := ⟨vb, 1, none⟩) hbv (.int .i64 (n1 : Int))
  have hac1 := hacc1.setN (n1 : Int)
  clear hg1
  go_wp2_with fail
  go_end0
  have hfin : pList s (pVal s f) 4 i p = .ok ((n1 : Int), [], i1, p) := by simp [pList, pNum, withN, HN1.out]
  rw [hfin]
  exact ⟨rfl, hrr1, ⟨_, _, hac1⟩, hx1⟩

set_option maxRecDepth 100000 in
set_option maxHeartbeats 2000000 in
theorem list_13 {s : ByteArray} {f lo b vb i p : Nat} {w : World} (H : ListPre s f lo b vb 13 i p w) :
    Calls Tryd.prog 58 #[.pointer (some ⟨b, 0, none⟩), .pointer (some ⟨vb, 0, none⟩)] w (LstEndsN lo b vb s 13 w (pList s (pVal s f) 13 i p)) := by
  have hs := H.size
  have hs2 := H.size
  unfold maxLen at hs2
  have hb0 := H.b0
  have hv0 := H.v0
  have hw0 := H.w0
  have hblo := H.blo
  have hbv := H.bv
  have hrA := H.rd
  have hiA := H.hi
  have hpA := H.hp
  have hfA := H.hpf
  have haA := H.acc
  have hWA := H.words
  have hxA := Fx.refl lo b vb w
  have ck := haA.box.c0
  have HV := Lib.hid H.val
  clear H
  go_enter Tryd.func58, Tryd.ntmps58
  rcases hn1 : num s 9223372036854775807 i with j1 | ⟨n1, i1⟩
  · have HN1 := Lib.hid hn1
    clear hn1
    go_wp2_with fail
    refine (number_any b s i p 9223372036854775807 _ hrA hs (by omega) (by omega) (by omega)).mono ?_
    rw [HN1.out]
    rintro e w1 ⟨rfl, hg1⟩
    refine ⟨rfl, ?_⟩
    have hfin : pList s (pVal s f) 13 i p = .error j1 := by simp [pList, pNum, HN1.out]
    rw [hfin]
    exact ⟨rfl, hxA.trans (Fx.gr haA.le hg1)⟩
  have hno1 := num_ok hn1 (by omega) (by omega)
  have HN1 := Lib.hid hn1
  clear hn1
  go_wp2_with fail
  refine (number_any b s i p 9223372036854775807 _ hrA hs (by omega) (by omega) (by omega)).mono ?_
  rw [HN1.out]
  rintro e w1 ⟨rfl, hr1, hg1⟩
  have hacc1 := haA.gr hg1 hblo hbv
  have cn1 := hacc1.box.c1
  have cf1 := hacc1.box.fz 1
  have hx1 := (hxA.trans (Fx.gr haA.le hg1)).trans (Fx.set ⟨vb, 1, none⟩ (.int .i64 (n1 : Int)) (.inr (.inr rfl)))
  have hW1 := hx1.words hWA hw0 hb0 hv0
  have hrr1 := hr1.far (q := ⟨vb, 1, none⟩) hbv (.int .i64 (n1 : Int))
  have hac1 := hacc1.setN (n1 : Int)
  clear hg1
  go_wp2_with fail
  go_end0
  have hfin : pList s (pVal s f) 13 i p = .ok ((n1 : Int), [], i1, p) := by simp [pList, pNum, withN, HN1.out]
  rw [hfin]
  exact ⟨rfl, hrr1, ⟨_, _, hac1⟩, hx1⟩

set_option maxRecDepth 100000 in
set_option maxHeartbeats 2000000 in
theorem list_9 {s : ByteArray} {f lo b vb i p : Nat} {w : World} (H : ListPre s f lo b vb 9 i p w) :
    Calls Tryd.prog 58 #[.pointer (some ⟨b, 0, none⟩), .pointer (some ⟨vb, 0, none⟩)] w (LstEndsN lo b vb s 9 w (pList s (pVal s f) 9 i p)) := by
  have hs := H.size
  have hs2 := H.size
  unfold maxLen at hs2
  have hb0 := H.b0
  have hv0 := H.v0
  have hw0 := H.w0
  have hblo := H.blo
  have hbv := H.bv
  have hrA := H.rd
  have hiA := H.hi
  have hpA := H.hp
  have hfA := H.hpf
  have haA := H.acc
  have hWA := H.words
  have hxA := Fx.refl lo b vb w
  have ck := haA.box.c0
  have HV := Lib.hid H.val
  clear H
  go_enter Tryd.func58, Tryd.ntmps58
  cases hb1 : isB s i 41
  · have HB1 := Lib.hid hb1
    clear hb1
    go_wp2_with fail
    refine (next_any b s i p 41 _ hrA hs (by omega) hiA).mono ?_
    rintro e w1 ⟨rfl, nq, rfl⟩
    rw [HB1.out]
    have hr1 := hrA.drewN nq
    have hacc1 := haA.drewN nq
    have hx1 := hxA.trans (Fx.drewN nq)
    have hW1 := hWA.drewN nq
    go_wp2_with fail
    refine App0_region (d := 105) (lo := lo) (b := b) (vb := vb) (i := i) (p := p) (F := 80) (f := f) (m := mEv) (s := s) HV.out may_ev list_shape18 (by omega) (by simp) rfl rfl hr1 (by omega) (by omega) (by omega) hW1 hacc1 (by simp; try omega) hb0 hv0 hw0 hblo hbv ?_ ?_
    · intro j2 a2 w2 ho2 hdf2 hf2
      refine ⟨hdf2, ?_⟩
      have hfin : pList s (pVal s f) 9 i p = .error j2 := by simp [pList, pOne, HB1.out, ho2]
      rw [hfin]
      exact ⟨rfl, hx1.trans hf2⟩
    rintro t2 i2 p2 a2 w2 ho2 hU2 hr2 ⟨v2, xs2, hacc2⟩ hf2
    have hgo2 := pVal_goes s f _ _ _ t2 i2 p2 (by omega) (by omega) ho2
    obtain ⟨us, hus, rfl⟩ := hU2.list (by simp)
    obtain ⟨x0, x1, x2, x3, x4, x5, x6, x7, x8, x9, x10, x11, rfl⟩ := list12 hus
    simp only [List.take_succ_cons, List.take_zero, List.drop_succ_cons, List.drop_zero, List.cons_append, List.nil_append]
    have HO2 := Lib.hid ho2
    clear ho2 hus hU2
    have hx2 := hx1.trans hf2
    have hW2 := hx2.words hWA hw0 hb0 hv0
    clear hf2
    go_wp2_with fail
    refine (more_any s f HV.out mEv 80 b vb lo _ _ may_ev hs hb0 hv0 hw0 hblo hbv 15 (by omega) [t2] i2 p2 _ _ _ hr2 (by omega) (by omega) (by omega) (by simp) hacc2 hW2).mono ?_
    intro e we he
    have hfin : pList s (pVal s f) 9 i p = withN 0 (pMore s (pVal s f) mEv 15 [t2] i2 p2) := by simp [pList, pOne, withN, HB1.out, HO2.out]
    have hE := LstEndsN.from hx2 (LstEnds.withN he)
    rw [← hfin] at hE
    rcases hq : pMore s (pVal s f) mEv 15 [t2] i2 p2 with jq | ⟨lq, iq, pq⟩
    · rw [hq] at he
      obtain ⟨rfl, _⟩ := he
      exact ⟨rfl, hE⟩
    · rw [hq] at he
      obtain ⟨rfl, _⟩ := he
      go_wp2_with fail
      go_end0
      exact hE
  · have HB1 := Lib.hid hb1
    clear hb1
    go_wp2_with fail
    refine (next_any b s i p 41 _ hrA hs (by omega) hiA).mono ?_
    rintro e w1 ⟨rfl, nq, rfl⟩
    rw [HB1.out]
    go_wp2_with fail
    refine bodyPost_ret (results_none rfl _ _ _) rfl ?_
    have hfin : pList s (pVal s f) 9 i p = .ok (0, [], i, p) := by simp [pList, HB1.out]
    rw [hfin]
    exact ⟨rfl, hrA.drewN nq, ⟨_, _, haA.drewN nq⟩, hxA.trans (Fx.drewN nq)⟩

set_option maxRecDepth 100000 in
set_option maxHeartbeats 2000000 in
theorem list_10 {s : ByteArray} {f lo b vb i p : Nat} {w : World} (H : ListPre s f lo b vb 10 i p w) :
    Calls Tryd.prog 58 #[.pointer (some ⟨b, 0, none⟩), .pointer (some ⟨vb, 0, none⟩)] w (LstEndsN lo b vb s 10 w (pList s (pVal s f) 10 i p)) := by
  have hs := H.size
  have hs2 := H.size
  unfold maxLen at hs2
  have hb0 := H.b0
  have hv0 := H.v0
  have hw0 := H.w0
  have hblo := H.blo
  have hbv := H.bv
  have hrA := H.rd
  have hiA := H.hi
  have hpA := H.hp
  have hfA := H.hpf
  have haA := H.acc
  have hWA := H.words
  have hxA := Fx.refl lo b vb w
  have ck := haA.box.c0
  have HV := Lib.hid H.val
  clear H
  go_enter Tryd.func58, Tryd.ntmps58
  rcases hn1 : num s 63 i with j1 | ⟨n1, i1⟩
  · have HN1 := Lib.hid hn1
    clear hn1
    go_wp2_with fail
    refine (number_any b s i p 63 _ hrA hs (by omega) (by omega) (by omega)).mono ?_
    rw [HN1.out]
    rintro e w1 ⟨rfl, hg1⟩
    refine ⟨rfl, ?_⟩
    have hfin : pList s (pVal s f) 10 i p = .error j1 := by simp [pList, pNum, HN1.out]
    rw [hfin]
    exact ⟨rfl, hxA.trans (Fx.gr haA.le hg1)⟩
  have hno1 := num_ok hn1 (by omega) (by omega)
  have HN1 := Lib.hid hn1
  clear hn1
  go_wp2_with fail
  refine (number_any b s i p 63 _ hrA hs (by omega) (by omega) (by omega)).mono ?_
  rw [HN1.out]
  rintro e w1 ⟨rfl, hr1, hg1⟩
  have hacc1 := haA.gr hg1 hblo hbv
  have cn1 := hacc1.box.c1
  have cf1 := hacc1.box.fz 1
  have hx1 := (hxA.trans (Fx.gr haA.le hg1)).trans (Fx.set ⟨vb, 1, none⟩ (.int .i64 (n1 : Int)) (.inr (.inr rfl)))
  have hW1 := hx1.words hWA hw0 hb0 hv0
  have hrr1 := hr1.far (q := ⟨vb, 1, none⟩) hbv (.int .i64 (n1 : Int))
  have hac1 := hacc1.setN (n1 : Int)
  clear hg1
  cases hb2 : isB s i1 44
  · have HB2 := Lib.hid hb2
    clear hb2
    go_wp2_with fail
    refine (skip_no b s i1 p 44 _ hrr1 hs (by omega) (by omega) HB2.out).mono ?_
    rintro e w2 ⟨rfl, hg2⟩
    refine ⟨rfl, ?_⟩
    have hfin : pList s (pVal s f) 10 i p = .error i1 := by simp [pList, withN, pNum, HN1.out, HB2.out]
    rw [hfin]
    exact ⟨rfl, hx1.trans (Fx.gr hac1.le hg2)⟩
  have hlt2 := isB_lt (by omega) hb2
  have HB2 := Lib.hid hb2
  clear hb2
  go_wp2_with fail
  refine (skip_yes b s i1 p 44 _ hrr1 hs (by omega) (by omega) HB2.out).mono ?_
  rintro e w2 ⟨rfl, hr2, hg2⟩
  have hacc2 := hac1.gr hg2 hblo hbv
  have hx2 := hx1.trans (Fx.gr hac1.le hg2)
  have hW2 := hx2.words hWA hw0 hb0 hv0
  clear hg2
  go_wp2_with fail
  refine App0_region (d := 130) (lo := lo) (b := b) (vb := vb) (i := (i1 + 1)) (p := p) (F := 80) (f := f) (m := mEv) (s := s) HV.out may_ev list_shape23 (by omega) (by simp) rfl rfl hr2 (by omega) (by omega) (by omega) hW2 hacc2 (by simp; try omega) hb0 hv0 hw0 hblo hbv ?_ ?_
  · intro j3 a3 w3 ho3 hdf3 hf3
    refine ⟨hdf3, ?_⟩
    have hfin : pList s (pVal s f) 10 i p = .error j3 := by simp [pList, pOne, withN, pNum, HN1.out, HB2.out, ho3]
    rw [hfin]
    exact ⟨rfl, hx2.trans hf3⟩
  rintro t3 i3 p3 a3 w3 ho3 hU3 hr3 ⟨v3, xs3, hacc3⟩ hf3
  have hgo3 := pVal_goes s f _ _ _ t3 i3 p3 (by omega) (by omega) ho3
  obtain ⟨us, hus, rfl⟩ := hU3.list (by simp)
  obtain ⟨x0, x1, x2, x3, x4, x5, x6, x7, x8, x9, x10, x11, rfl⟩ := list12 hus
  simp only [List.take_succ_cons, List.take_zero, List.drop_succ_cons, List.drop_zero, List.cons_append, List.nil_append]
  have HO3 := Lib.hid ho3
  clear ho3 hus hU3
  have hx3 := hx2.trans hf3
  have hW3 := hx3.words hWA hw0 hb0 hv0
  clear hf3
  go_wp2_with fail
  refine (more_any s f HV.out mAny 31 b vb lo _ _ may_any hs hb0 hv0 hw0 hblo hbv 8 (by omega) [t3] i3 p3 _ _ _ hr3 (by omega) (by omega) (by omega) (by simp) hacc3 hW3).mono ?_
  intro e we he
  have hfin : pList s (pVal s f) 10 i p = withN (n1 : Int) (pMore s (pVal s f) mAny 8 [t3] i3 p3) := by simp [pList, pOne, withN, pNum, HN1.out, HB2.out, HO3.out]
  have hE := LstEndsN.from hx3 (LstEnds.withN he)
  rw [← hfin] at hE
  rcases hq : pMore s (pVal s f) mAny 8 [t3] i3 p3 with jq | ⟨lq, iq, pq⟩
  · rw [hq] at he
    obtain ⟨rfl, _⟩ := he
    exact ⟨rfl, hE⟩
  · rw [hq] at he
    obtain ⟨rfl, _⟩ := he
    go_wp2_with fail
    go_end0
    exact hE

set_option maxRecDepth 100000 in
set_option maxHeartbeats 2000000 in
theorem list_11 {s : ByteArray} {f lo b vb i p : Nat} {w : World} (H : ListPre s f lo b vb 11 i p w) :
    Calls Tryd.prog 58 #[.pointer (some ⟨b, 0, none⟩), .pointer (some ⟨vb, 0, none⟩)] w (LstEndsN lo b vb s 11 w (pList s (pVal s f) 11 i p)) := by
  have hs := H.size
  have hs2 := H.size
  unfold maxLen at hs2
  have hb0 := H.b0
  have hv0 := H.v0
  have hw0 := H.w0
  have hblo := H.blo
  have hbv := H.bv
  have hrA := H.rd
  have hiA := H.hi
  have hpA := H.hp
  have hfA := H.hpf
  have haA := H.acc
  have hWA := H.words
  have hxA := Fx.refl lo b vb w
  have ck := haA.box.c0
  have HV := Lib.hid H.val
  clear H
  go_enter Tryd.func58, Tryd.ntmps58
  rcases hn1 : num s 63 i with j1 | ⟨n1, i1⟩
  · have HN1 := Lib.hid hn1
    clear hn1
    go_wp2_with fail
    refine (number_any b s i p 63 _ hrA hs (by omega) (by omega) (by omega)).mono ?_
    rw [HN1.out]
    rintro e w1 ⟨rfl, hg1⟩
    refine ⟨rfl, ?_⟩
    have hfin : pList s (pVal s f) 11 i p = .error j1 := by simp [pList, pNum, HN1.out]
    rw [hfin]
    exact ⟨rfl, hxA.trans (Fx.gr haA.le hg1)⟩
  have hno1 := num_ok hn1 (by omega) (by omega)
  have HN1 := Lib.hid hn1
  clear hn1
  go_wp2_with fail
  refine (number_any b s i p 63 _ hrA hs (by omega) (by omega) (by omega)).mono ?_
  rw [HN1.out]
  rintro e w1 ⟨rfl, hr1, hg1⟩
  have hacc1 := haA.gr hg1 hblo hbv
  have cn1 := hacc1.box.c1
  have cf1 := hacc1.box.fz 1
  have hx1 := (hxA.trans (Fx.gr haA.le hg1)).trans (Fx.set ⟨vb, 1, none⟩ (.int .i64 (n1 : Int)) (.inr (.inr rfl)))
  have hW1 := hx1.words hWA hw0 hb0 hv0
  have hrr1 := hr1.far (q := ⟨vb, 1, none⟩) hbv (.int .i64 (n1 : Int))
  have hac1 := hacc1.setN (n1 : Int)
  clear hg1
  go_wp2_with fail
  refine (more_any s f HV.out mAny 31 b vb lo _ _ may_any hs hb0 hv0 hw0 hblo hbv 8 (by omega) [] i1 p _ _ _ hrr1 (by omega) (by omega) (by omega) (by simp) hac1 hW1).mono ?_
  intro e we he
  have hfin : pList s (pVal s f) 11 i p = withN (n1 : Int) (pMore s (pVal s f) mAny 8 [] i1 p) := by simp [pList, withN, pNum, HN1.out]
  have hE := LstEndsN.from hx1 (LstEnds.withN he)
  rw [← hfin] at hE
  rcases hq : pMore s (pVal s f) mAny 8 [] i1 p with jq | ⟨lq, iq, pq⟩
  · rw [hq] at he
    obtain ⟨rfl, _⟩ := he
    exact ⟨rfl, hE⟩
  · rw [hq] at he
    obtain ⟨rfl, _⟩ := he
    go_wp2_with fail
    go_end0
    exact hE

set_option maxRecDepth 100000 in
set_option maxHeartbeats 2000000 in
theorem list_12 {s : ByteArray} {f lo b vb i p : Nat} {w : World} (H : ListPre s f lo b vb 12 i p w) :
    Calls Tryd.prog 58 #[.pointer (some ⟨b, 0, none⟩), .pointer (some ⟨vb, 0, none⟩)] w (LstEndsN lo b vb s 12 w (pList s (pVal s f) 12 i p)) := by
  have hs := H.size
  have hs2 := H.size
  unfold maxLen at hs2
  have hb0 := H.b0
  have hv0 := H.v0
  have hw0 := H.w0
  have hblo := H.blo
  have hbv := H.bv
  have hrA := H.rd
  have hiA := H.hi
  have hpA := H.hp
  have hfA := H.hpf
  have haA := H.acc
  have hWA := H.words
  have hxA := Fx.refl lo b vb w
  have ck := haA.box.c0
  have HV := Lib.hid H.val
  clear H
  go_enter Tryd.func58, Tryd.ntmps58
  rcases hn1 : num s 63 i with j1 | ⟨n1, i1⟩
  · have HN1 := Lib.hid hn1
    clear hn1
    go_wp2_with fail
    refine (number_any b s i p 63 _ hrA hs (by omega) (by omega) (by omega)).mono ?_
    rw [HN1.out]
    rintro e w1 ⟨rfl, hg1⟩
    refine ⟨rfl, ?_⟩
    have hfin : pList s (pVal s f) 12 i p = .error j1 := by simp [pList, pNum, HN1.out]
    rw [hfin]
    exact ⟨rfl, hxA.trans (Fx.gr haA.le hg1)⟩
  have hno1 := num_ok hn1 (by omega) (by omega)
  have HN1 := Lib.hid hn1
  clear hn1
  go_wp2_with fail
  refine (number_any b s i p 63 _ hrA hs (by omega) (by omega) (by omega)).mono ?_
  rw [HN1.out]
  rintro e w1 ⟨rfl, hr1, hg1⟩
  have hacc1 := haA.gr hg1 hblo hbv
  have cn1 := hacc1.box.c1
  have cf1 := hacc1.box.fz 1
  have hx1 := (hxA.trans (Fx.gr haA.le hg1)).trans (Fx.set ⟨vb, 1, none⟩ (.int .i64 (n1 : Int)) (.inr (.inr rfl)))
  have hW1 := hx1.words hWA hw0 hb0 hv0
  have hrr1 := hr1.far (q := ⟨vb, 1, none⟩) hbv (.int .i64 (n1 : Int))
  have hac1 := hacc1.setN (n1 : Int)
  clear hg1
  go_wp2_with fail
  refine (more_any s f HV.out mAny 31 b vb lo _ _ may_any hs hb0 hv0 hw0 hblo hbv 8 (by omega) [] i1 p _ _ _ hrr1 (by omega) (by omega) (by omega) (by simp) hac1 hW1).mono ?_
  intro e we he
  have hfin : pList s (pVal s f) 12 i p = withN (n1 : Int) (pMore s (pVal s f) mAny 8 [] i1 p) := by simp [pList, withN, pNum, HN1.out]
  have hE := LstEndsN.from hx1 (LstEnds.withN he)
  rw [← hfin] at hE
  rcases hq : pMore s (pVal s f) mAny 8 [] i1 p with jq | ⟨lq, iq, pq⟩
  · rw [hq] at he
    obtain ⟨rfl, _⟩ := he
    exact ⟨rfl, hE⟩
  · rw [hq] at he
    obtain ⟨rfl, _⟩ := he
    go_wp2_with fail
    go_end0
    exact hE
end Go.Proofs.YtkahboomahhdoaaDoor
