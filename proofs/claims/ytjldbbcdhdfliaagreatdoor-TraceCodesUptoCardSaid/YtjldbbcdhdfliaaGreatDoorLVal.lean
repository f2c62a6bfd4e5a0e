
/-
 Walks over package valtext's reader: list, a theorem a Kind, over value's contract. Printed by gen_list.py.
-/
import Derived.Test.YtjldbbcdhdfliaaGreatDoorAppM
import Derived.Defers
import Derived.Recover
import Derived.Laws.Pointers
namespace Go.Proofs.YtjldbbcdhdfliaaGreatDoor
open Go.RowKit

theorem may_any : MayIs 103 mAny where
 enters := fun _ _ => by kernel_rfl
 calls := fun k w => by
  go_enter Tryz.func103, Tryz.ntmps103
  go_wp2_with fail
  go_ret
  exact ⟨rfl, rfl⟩
theorem may_chan : MayIs 157 mChan where
 enters := fun _ _ => by kernel_rfl
 calls := fun k w => by
  go_enter Tryz.func157, Tryz.ntmps157
  go_wp2_with fail
  go_ret
  exact ⟨ret_bool (by rw [mChan, Bool.eq_iff_iff]; simp), rfl⟩
theorem may_ev : MayIs 158 mEv where
 enters := fun _ _ => by kernel_rfl
 calls := fun k w => vevent_any k w _ (.inr rfl)

def LstEndsN (lo b vb : Nat) (s : ByteArray) (k : Int) (w : World) (r : Except Nat (Int × List VT × Nat × Nat)) (e : Ending) (w' : World) : Prop :=
 match r with
 | .error j => e = Wrong j ∧ Fx lo b vb w w'
 | .ok (n, l, i, p) => e = .returned (.tuple #[]) ∧ Rd w' b s i p ∧ (∃ v xs, Acc lo w' vb k n l v xs) ∧ Fx lo b vb w w'
theorem LstEnds.withN {lo b vb : Nat} {s : ByteArray} {k n : Int} {w w' : World} {r : Except Nat (List VT × Nat × Nat)} {e : Ending} (h : LstEnds lo b vb s k n w r e w') : LstEndsN lo b vb s k w (withN n r) e w' := by
 rcases r with j | ⟨l, i, p⟩
 ·exact h
 ·exact h
theorem LstEndsN.from {lo b vb : Nat} {s : ByteArray} {k : Int} {w w1 w' : World} {r : Except Nat (Int × List VT × Nat × Nat)} {e : Ending} (hf : Fx lo b vb w w1) (h : LstEndsN lo b vb s k w1 r e w') : LstEndsN lo b vb s k w r e w' := by
 rcases r with j | ⟨n, l, i, p⟩
 ·exact ⟨h.1, hf.trans h.2⟩
 ·exact ⟨h.1, h.2.1, h.2.2.1, hf.trans h.2.2.2⟩
/-- What list asks. -/
structure ListPre (s : ByteArray) (f : Nat) (lo b vb : Nat) (k : Int) (i p : Nat) (w : World) : Prop where
 val : ValC s f
 size : s.size ≤ maxLen
 b0 : b ≠ 0
 v0 : vb ≠ 0
 w0 : 0 < lo
 blo : b < lo
 bv : b ≠ vb
 rd : Rd w b s i p
 hi : i ≤ s.size
 hp : p ≤ 256
 hpf : 256 ≤ p + f
 acc : Acc lo w vb k 0 [] (.slice none 0 0) []
 words : HasWords w
theorem list_shape2 : Shape (ropsOf Tryz.f133 2) (App0K 10 103) App0E := ⟨by kernel_rfl, by kernel_rfl⟩
theorem list_shape4 : Shape (ropsOf Tryz.f133 4) (App0K 24 103) App0E := ⟨by kernel_rfl, by kernel_rfl⟩
theorem list_shape9 : Shape (ropsOf Tryz.f133 9) (App0K 47 157) App0E := ⟨by kernel_rfl, by kernel_rfl⟩
theorem list_shape11 : Shape (ropsOf Tryz.f133 11) (App0K 61 103) App0E := ⟨by kernel_rfl, by kernel_rfl⟩
theorem list_shape13 : Shape (ropsOf Tryz.f133 13) (App0K 75 157) App0E := ⟨by kernel_rfl, by kernel_rfl⟩
theorem list_shape15 : Shape (ropsOf Tryz.f133 15) (App0K 89 103) App0E := ⟨by kernel_rfl, by kernel_rfl⟩
theorem list_shape18 : Shape (ropsOf Tryz.f133 18) (App0K 105 158) App0E := ⟨by kernel_rfl, by kernel_rfl⟩
theorem list_shape23 : Shape (ropsOf Tryz.f133 23) (App0K 130 158) App0E := ⟨by kernel_rfl, by kernel_rfl⟩

set_option maxRecDepth 100000 in
set_option maxHeartbeats 2000000 in
theorem list_3 {s : ByteArray} {f lo b vb i p : Nat} {w : World} (H : ListPre s f lo b vb 3 i p w) :
  Calls Tryz.prog 133 #[.pointer (some ⟨b, 0, none⟩), .pointer (some ⟨vb, 0, none⟩)] w (LstEndsN lo b vb s 3 w (pList s (pVal s f) 3 i p)) := by
 have hs := H.size
 have hs2 := H.size
 unfold maxLen at hs2
 have hb0 := H.b0
 have hv0 := H.v0
 have hw0 := H.w0
 have hblo := H.blo
 have hbv := H.bv
 have hrA := H.rd
 have hiA := H.hi
 have hpA := H.hp
 have hfA := H.hpf
 have haA := H.acc
 have hWA := H.words
 have hxA := Fx.refl lo b vb w
 have ck := haA.box.c0
 have HV := Lib.hid H.val
 clear H
 go_enter Tryz.func133, Tryz.ntmps133
 go_wp2_with fail
 refine App0_region (d := 10) (lo := lo) (b := b) (vb := vb) (i := i) (p := p) (F := 103) (f := f) (m := mAny) (s := s) HV.out may_any list_shape2 (by omega) (by simp) rfl rfl hrA (by omega) (by omega) (by omega) hWA haA (by simp; try omega) hb0 hv0 hw0 hblo hbv ?_ ?_
 ·intro j1 a1 w1 ho1 hdf1 hf1
  refine ⟨hdf1, ?_⟩
  have hfin : pList s (pVal s f) 3 i p = .error j1 := by simp [pList, pTwo, pOne, withN, ho1]
  rw [hfin]
  exact ⟨rfl, hxA.trans hf1⟩
 rintro t1 i1 p1 a1 w1 ho1 hU1 hr1 ⟨v1, xs1, hacc1⟩ hf1
 have hgo1 := pVal_goes s f _ _ _ t1 i1 p1 (by omega) (by omega) ho1
 obtain ⟨us, hus, rfl⟩ := hU1.list (by simp)
 obtain ⟨x0, x1, x2, x3, x4, x5, x6, x7, x8, x9, x10, x11, rfl⟩ := list12 hus
 simp only [List.take_succ_cons, List.take_zero, List.drop_succ_cons, List.drop_zero, List.cons_append, List.nil_append]
 have HO1 := Lib.hid ho1
 clear ho1 hus hU1
 have hx1 := hxA.trans hf1
 have hW1 := hx1.words hWA hw0 hb0 hv0
 clear hf1
 cases hb2 : isB s i1 44
 ·have HB2 := Lib.hid hb2
  clear hb2
  go_wp2_with fail
  refine (skip_no b s i1 p1 44 _ hr1 hs (by omega) (by omega) HB2.out).mono ?_
  rintro e w2 ⟨rfl, hg2⟩
  refine ⟨rfl, ?_⟩
  have hfin : pList s (pVal s f) 3 i p = .error i1 := by simp [pList, pTwo, pOne, withN, HO1.out, HB2.out]
  rw [hfin]
  exact ⟨rfl, hx1.trans (Fx.gr hacc1.le hg2)⟩
 have hlt2 := isB_lt (by omega) hb2
 have HB2 := Lib.hid hb2
 clear hb2
 go_wp2_with fail
 refine (skip_yes b s i1 p1 44 _ hr1 hs (by omega) (by omega) HB2.out).mono ?_
 rintro e w2 ⟨rfl, hr2, hg2⟩
 have hacc2 := hacc1.gr hg2 hblo hbv
 have hx2 := hx1.trans (Fx.gr hacc1.le hg2)
 have hW2 := hx2.words hWA hw0 hb0 hv0
 clear hg2
 go_wp2_with fail
 refine App0_region (d := 24) (lo := lo) (b := b) (vb := vb) (i := (i1 + 1)) (p := p1) (F := 103) (f := f) (m := mAny) (s := s) HV.out may_any list_shape4 (by omega) (by simp) rfl rfl hr2 (by omega) (by omega) (by omega) hW2 hacc2 (by simp; try omega) hb0 hv0 hw0 hblo hbv ?_ ?_
 ·intro j3 a3 w3 ho3 hdf3 hf3
  refine ⟨hdf3, ?_⟩
  have hfin : pList s (pVal s f) 3 i p = .error j3 := by simp [pList, pTwo, pOne, withN, HO1.out, HB2.out, ho3]
  rw [hfin]
  exact ⟨rfl, hx2.trans hf3⟩
 rintro t3 i3 p3 a3 w3 ho3 hU3 hr3 ⟨v3, xs3, hacc3⟩ hf3
 have hgo3 := pVal_goes s f _ _ _ t3 i3 p3 (by omega) (by omega) ho3
 obtain ⟨us, hus, rfl⟩ := hU3.list (by simp)
 obtain ⟨x0, x1, x2, x3, x4, x5, x6, x7, x8, x9, x10, x11, rfl⟩ := list12 hus
 simp only [List.take_succ_cons, List.take_zero, List.drop_succ_cons, List.drop_zero, List.cons_append, List.nil_append]
 have HO3 := Lib.hid ho3
 clear ho3 hus hU3
 have hx3 := hx2.trans hf3
 have hW3 := hx3.words hWA hw0 hb0 hv0
 clear hf3
 go_wp2_with fail
 go_end0
 have hfin : pList s (pVal s f) 3 i p = .ok (0, [t1] ++ [t3], i3, p3) := by simp [pList, pTwo, pOne, withN, HO1.out, HB2.out, HO3.out]
 rw [hfin]
 exact ⟨rfl, hr3, ⟨_, _, hacc3⟩, hx3⟩

set_option maxRecDepth 100000 in
set_option maxHeartbeats 2000000 in
theorem list_5 {s : ByteArray} {f lo b vb i p : Nat} {w : World} (H : ListPre s f lo b vb 5 i p w) :
  Calls Tryz.prog 133 #[.pointer (some ⟨b, 0, none⟩), .pointer (some ⟨vb, 0, none⟩)] w (LstEndsN lo b vb s 5 w (pList s (pVal s f) 5 i p)) := by
 have hs := H.size
 have hs2 := H.size
 unfold maxLen at hs2
 have hb0 := H.b0
 have hv0 := H.v0
 have hw0 := H.w0
 have hblo := H.blo
 have hbv := H.bv
 have hrA := H.rd
 have hiA := H.hi
 have hpA := H.hp
 have hfA := H.hpf
 have haA := H.acc
 have hWA := H.words
 have hxA := Fx.refl lo b vb w
 have ck := haA.box.c0
 have HV := Lib.hid H.val
 clear H
 go_enter Tryz.func133, Tryz.ntmps133
 go_wp2_with fail
 refine App0_region (d := 47) (lo := lo) (b := b) (vb := vb) (i := i) (p := p) (F := 157) (f := f) (m := mChan) (s := s) HV.out may_chan list_shape9 (by omega) (by simp) rfl rfl hrA (by omega) (by omega) (by omega) hWA haA (by simp; try omega) hb0 hv0 hw0 hblo hbv ?_ ?_
 ·intro j1 a1 w1 ho1 hdf1 hf1
  refine ⟨hdf1, ?_⟩
  have hfin : pList s (pVal s f) 5 i p = .error j1 := by simp [pList, pTwo, pOne, withN, ho1]
  rw [hfin]
  exact ⟨rfl, hxA.trans hf1⟩
 rintro t1 i1 p1 a1 w1 ho1 hU1 hr1 ⟨v1, xs1, hacc1⟩ hf1
 have hgo1 := pVal_goes s f _ _ _ t1 i1 p1 (by omega) (by omega) ho1
 obtain ⟨us, hus, rfl⟩ := hU1.list (by simp)
 obtain ⟨x0, x1, x2, x3, x4, x5, x6, x7, x8, x9, x10, x11, rfl⟩ := list12 hus
 simp only [List.take_succ_cons, List.take_zero, List.drop_succ_cons, List.drop_zero, List.cons_append, List.nil_append]
 have HO1 := Lib.hid ho1
 clear ho1 hus hU1
 have hx1 := hxA.trans hf1
 have hW1 := hx1.words hWA hw0 hb0 hv0
 clear hf1
 cases hb2 : isB s i1 44
 ·have HB2 := Lib.hid hb2
  clear hb2
  go_wp2_with fail
  refine (skip_no b s i1 p1 44 _ hr1 hs (by omega) (by omega) HB2.out).mono ?_
  rintro e w2 ⟨rfl, hg2⟩
  refine ⟨rfl, ?_⟩
  have hfin : pList s (pVal s f) 5 i p = .error i1 := by simp [pList, pTwo, pOne, withN, HO1.out, HB2.out]
  rw [hfin]
  exact ⟨rfl, hx1.trans (Fx.gr hacc1.le hg2)⟩
 have hlt2 := isB_lt (by omega) hb2
 have HB2 := Lib.hid hb2
 clear hb2
 go_wp2_with fail
 refine (skip_yes b s i1 p1 44 _ hr1 hs (by omega) (by omega) HB2.out).mono ?_
 rintro e w2 ⟨rfl, hr2, hg2⟩
 have hacc2 := hacc1.gr hg2 hblo hbv
 have hx2 := hx1.trans (Fx.gr hacc1.le hg2)
 have hW2 := hx2.words hWA hw0 hb0 hv0
 clear hg2
 go_wp2_with fail
 refine App0_region (d := 61) (lo := lo) (b := b) (vb := vb) (i := (i1 + 1)) (p := p1) (F := 103) (f := f) (m := mAny) (s := s) HV.out may_any list_shape11 (by omega) (by simp) rfl rfl hr2 (by omega) (by omega) (by omega) hW2 hacc2 (by simp; try omega) hb0 hv0 hw0 hblo hbv ?_ ?_
 ·intro j3 a3 w3 ho3 hdf3 hf3
  refine ⟨hdf3, ?_⟩
  have hfin : pList s (pVal s f) 5 i p = .error j3 := by simp [pList, pTwo, pOne, withN, HO1.out, HB2.out, ho3]
  rw [hfin]
  exact ⟨rfl, hx2.trans hf3⟩
 rintro t3 i3 p3 a3 w3 ho3 hU3 hr3 ⟨v3, xs3, hacc3⟩ hf3
 have hgo3 := pVal_goes s f _ _ _ t3 i3 p3 (by omega) (by omega) ho3
 obtain ⟨us, hus, rfl⟩ := hU3.list (by simp)
 obtain ⟨x0, x1, x2, x3, x4, x5, x6, x7, x8, x9, x10, x11, rfl⟩ := list12 hus
 simp only [List.take_succ_cons, List.take_zero, List.drop_succ_cons, List.drop_zero, List.cons_append, List.nil_append]
 have HO3 := Lib.hid ho3
 clear ho3 hus hU3
 have hx3 := hx2.trans hf3
 have hW3 := hx3.words hWA hw0 hb0 hv0
 clear hf3
 go_wp2_with fail
 go_end0
 have hfin : pList s (pVal s f) 5 i p = .ok (0, [t1] ++ [t3], i3, p3) := by simp [pList, pTwo, pOne, withN, HO1.out, HB2.out, HO3.out]
 rw [hfin]
 exact ⟨rfl, hr3, ⟨_, _, hacc3⟩, hx3⟩

set_option maxRecDepth 100000 in
set_option maxHeartbeats 2000000 in
theorem list_6 {s : ByteArray} {f lo b vb i p : Nat} {w : World} (H : ListPre s f lo b vb 6 i p w) :
  Calls Tryz.prog 133 #[.pointer (some ⟨b, 0, none⟩), .pointer (some ⟨vb, 0, none⟩)] w (LstEndsN lo b vb s 6 w (pList s (pVal s f) 6 i p)) := by
 have hs := H.size
 have hs2 := H.size
 unfold maxLen at hs2
 have hb0 := H.b0
 have hv0 := H.v0
 have hw0 := H.w0
 have hblo := H.blo
 have hbv := H.bv
 have hrA := H.rd
 have hiA := H.hi
 have hpA := H.hp
 have hfA := H.hpf
 have haA := H.acc
 have hWA := H.words
 have hxA := Fx.refl lo b vb w
 have ck := haA.box.c0
 have HV := Lib.hid H.val
 clear H
 go_enter Tryz.func133, Tryz.ntmps133
 go_wp2_with fail
 refine App0_region (d := 75) (lo := lo) (b := b) (vb := vb) (i := i) (p := p) (F := 157) (f := f) (m := mChan) (s := s) HV.out may_chan list_shape13 (by omega) (by simp) rfl rfl hrA (by omega) (by omega) (by omega) hWA haA (by simp; try omega) hb0 hv0 hw0 hblo hbv ?_ ?_
 ·intro j1 a1 w1 ho1 hdf1 hf1
  refine ⟨hdf1, ?_⟩
  have hfin : pList s (pVal s f) 6 i p = .error j1 := by simp [pList, pOne, withN, ho1]
  rw [hfin]
  exact ⟨rfl, hxA.trans hf1⟩
 rintro t1 i1 p1 a1 w1 ho1 hU1 hr1 ⟨v1, xs1, hacc1⟩ hf1
 have hgo1 := pVal_goes s f _ _ _ t1 i1 p1 (by omega) (by omega) ho1
 obtain ⟨us, hus, rfl⟩ := hU1.list (by simp)
 obtain ⟨x0, x1, x2, x3, x4, x5, x6, x7, x8, x9, x10, x11, rfl⟩ := list12 hus
 simp only [List.take_succ_cons, List.take_zero, List.drop_succ_cons, List.drop_zero, List.cons_append, List.nil_append]
 have HO1 := Lib.hid ho1
 clear ho1 hus hU1
 have hx1 := hxA.trans hf1
 have hW1 := hx1.words hWA hw0 hb0 hv0
 clear hf1
 go_wp2_with fail
 go_end0
 have hfin : pList s (pVal s f) 6 i p = .ok (0, [t1], i1, p1) := by simp [pList, pOne, withN, HO1.out]
 rw [hfin]
 exact ⟨rfl, hr1, ⟨_, _, hacc1⟩, hx1⟩

set_option maxRecDepth 100000 in
set_option maxHeartbeats 2000000 in
theorem list_7 {s : ByteArray} {f lo b vb i p : Nat} {w : World} (H : ListPre s f lo b vb 7 i p w) :
  Calls Tryz.prog 133 #[.pointer (some ⟨b, 0, none⟩), .pointer (some ⟨vb, 0, none⟩)] w (LstEndsN lo b vb s 7 w (pList s (pVal s f) 7 i p)) := by
 have hs := H.size
 have hs2 := H.size
 unfold maxLen at hs2
 have hb0 := H.b0
 have hv0 := H.v0
 have hw0 := H.w0
 have hblo := H.blo
 have hbv := H.bv
 have hrA := H.rd
 have hiA := H.hi
 have hpA := H.hp
 have hfA := H.hpf
 have haA := H.acc
 have hWA := H.words
 have hxA := Fx.refl lo b vb w
 have ck := haA.box.c0
 have HV := Lib.hid H.val
 clear H
 go_enter Tryz.func133, Tryz.ntmps133
 go_wp2_with fail
 refine App0_region (d := 89) (lo := lo) (b := b) (vb := vb) (i := i) (p := p) (F := 103) (f := f) (m := mAny) (s := s) HV.out may_any list_shape15 (by omega) (by simp) rfl rfl hrA (by omega) (by omega) (by omega) hWA haA (by simp; try omega) hb0 hv0 hw0 hblo hbv ?_ ?_
 ·intro j1 a1 w1 ho1 hdf1 hf1
  refine ⟨hdf1, ?_⟩
  have hfin : pList s (pVal s f) 7 i p = .error j1 := by simp [pList, pOne, withN, ho1]
  rw [hfin]
  exact ⟨rfl, hxA.trans hf1⟩
 rintro t1 i1 p1 a1 w1 ho1 hU1 hr1 ⟨v1, xs1, hacc1⟩ hf1
 have hgo1 := pVal_goes s f _ _ _ t1 i1 p1 (by omega) (by omega) ho1
 obtain ⟨us, hus, rfl⟩ := hU1.list (by simp)
 obtain ⟨x0, x1, x2, x3, x4, x5, x6, x7, x8, x9, x10, x11, rfl⟩ := list12 hus
 simp only [List.take_succ_cons, List.take_zero, List.drop_succ_cons, List.drop_zero, List.cons_append, List.nil_append]
 have HO1 := Lib.hid ho1
 clear ho1 hus hU1
 have hx1 := hxA.trans hf1
 have hW1 := hx1.words hWA hw0 hb0 hv0
 clear hf1
 go_wp2_with fail
 go_end0
 have hfin : pList s (pVal s f) 7 i p = .ok (0, [t1], i1, p1) := by simp [pList, pOne, withN, HO1.out]
 rw [hfin]
 exact ⟨rfl, hr1, ⟨_, _, hacc1⟩, hx1⟩

set_option maxRecDepth 100000 in
set_option maxHeartbeats 2000000 in
theorem list_4 {s : ByteArray} {f lo b vb i p : Nat} {w : World} (H : ListPre s f lo b vb 4 i p w) :
  Calls Tryz.prog 133 #[.pointer (some ⟨b, 0, none⟩), .pointer (some ⟨vb, 0, none⟩)] w (LstEndsN lo b vb s 4 w (pList s (pVal s f) 4 i p)) := by
 have hs := H.size
 have hs2 := H.size
 unfold maxLen at hs2
 have hb0 := H.b0
 have hv0 := H.v0
 have hw0 := H.w0
 have hblo := H.blo
 have hbv := H.bv
 have hrA := H.rd
 have hiA := H.hi
 have hpA := H.hp
 have hfA := H.hpf
 have haA := H.acc
 have hWA := H.words
 have hxA := Fx.refl lo b vb w
 have ck := haA.box.c0
 have HV := Lib.hid H.val
 clear H
 go_enter Tryz.func133, Tryz.ntmps133
 rcases hn1 : num s 9223372036854775807 i with j1 | ⟨n1, i1⟩
 ·have HN1 := Lib.hid hn1
  clear hn1
  go_wp2_with fail
  refine (number_any b s i p 9223372036854775807 _ hrA hs (by omega) (by omega) (by omega)).mono ?_
  rw [HN1.out]
  rintro e w1 ⟨rfl, hg1⟩
  refine ⟨rfl, ?_⟩
  have hfin : pList s (pVal s f) 4 i p = .error j1 := by simp [pList, pNum, HN1.out]
  rw [hfin]
  exact ⟨rfl, hxA.trans (Fx.gr haA.le hg1)⟩
 have hno1 := num_ok hn1 (by omega) (by omega)
 have HN1 := Lib.hid hn1
 clear hn1
 go_wp2_with fail
 refine (number_any b s i p 9223372036854775807 _ hrA hs (by omega) (by omega) (by omega)).mono ?_
 rw [HN1.out]
 rintro e w1 ⟨rfl, hr1, hg1⟩
 have hacc1 := haA.gr hg1 hblo hbv
 have cn1 := hacc1.box.c1
 have cf1 := hacc1.box.fz 1
 have hx1 := (hxA.trans (Fx.gr haA.le hg1)).trans (Fx.set ⟨vb, 1, none⟩ (.int .i64 (n1 : Int)) (.inr (.inr rfl)))
 have hW1 := hx1.words hWA hw0 hb0 hv0
 have hrr1 := hr1.far (q := ⟨vb, 1, none⟩) hbv (.int .i64 (n1 : Int))
 have hac1 := hacc1.setN (n1 : Int)
 clear hg1
 go_wp2_with fail
 go_end0
 have hfin : pList s (pVal s f) 4 i p = .ok ((n1 : Int), [], i1, p) := by simp [pList, pNum, withN, HN1.out]
 rw [hfin]
 exact ⟨rfl, hrr1, ⟨_, _, hac1⟩, hx1⟩

set_option maxRecDepth 100000 in
set_option maxHeartbeats 2000000 in
theorem list_13 {s : ByteArray} {f lo b vb i p : Nat} {w : World} (H : ListPre s f lo b vb 13 i p w) :
  Calls Tryz.prog 133 #[.pointer (some ⟨b, 0, none⟩), .pointer (some ⟨vb, 0, none⟩)] w (LstEndsN lo b vb s 13 w (pList s (pVal s f) 13 i p)) := by
 have hs := H.size
 have hs2 := H.size
 unfold maxLen at hs2
 have hb0 := H.b0
 have hv0 := H.v0
 have hw0 := H.w0
 have hblo := H.blo
 have hbv := H.bv
 have hrA := H.rd
 have hiA := H.hi
 have hpA := H.hp
 have hfA := H.hpf
 have haA := H.acc
 have hWA := H.words
 have hxA := Fx.refl lo b vb w
 have ck := haA.box.c0
 have HV := Lib.hid H.val
 clear H
 go_enter Tryz.func133, Tryz.ntmps133
 rcases hn1 : num s 9223372036854775807 i with j1 | ⟨n1, i1⟩
 ·have HN1 := Lib.hid hn1
  clear hn1
  go_wp2_with fail
  refine (number_any b s i p 9223372036854775807 _ hrA hs (by omega) (by omega) (by omega)).mono ?_
  rw [HN1.out]
  rintro e w1 ⟨rfl, hg1⟩
  refine ⟨rfl, ?_⟩
  have hfin : pList s (pVal s f) 13 i p = .error j1 := by simp [pList, pNum, HN1.out]
  rw [hfin]
  exact ⟨rfl, hxA.trans (Fx.gr haA.le hg1)⟩
 have hno1 := num_ok hn1 (by omega) (by omega)
 have HN1 := Lib.hid hn1
 clear hn1
 go_wp2_with fail
 refine (number_any b s i p 9223372036854775807 _ hrA hs (by omega) (by omega) (by omega)).mono ?_
 rw [HN1.out]
 rintro e w1 ⟨rfl, hr1, hg1⟩
 have hacc1 := haA.gr hg1 hblo hbv
 have cn1 := hacc1.box.c1
 have cf1 := hacc1.box.fz 1
 have hx1 := (hxA.trans (Fx.gr haA.le hg1)).trans (Fx.set ⟨vb, 1, none⟩ (.int .i64 (n1 : Int)) (.inr (.inr rfl)))
 have hW1 := hx1.words hWA hw0 hb0 hv0
 have hrr1 := hr1.far (q := ⟨vb, 1, none⟩) hbv (.int .i64 (n1 : Int))
 have hac1 := hacc1.setN (n1 : Int)
 clear hg1
 go_wp2_with fail
 go_end0
 have hfin : pList s (pVal s f) 13 i p = .ok ((n1 : Int), [], i1, p) := by simp [pList, pNum, withN, HN1.out]
 rw [hfin]
 exact ⟨rfl, hrr1, ⟨_, _, hac1⟩, hx1⟩

set_option maxRecDepth 100000 in
set_option maxHeartbeats 2000000 in
theorem list_9 {s : ByteArray} {f lo b vb i p : Nat} {w : World} (H : ListPre s f lo b vb 9 i p w) :
  Calls Tryz.prog 133 #[.pointer (some ⟨b, 0, none⟩), .pointer (some ⟨vb, 0, none⟩)] w (LstEndsN lo b vb s 9 w (pList s (pVal s f) 9 i p)) := by
 have hs := H.size
 have hs2 := H.size
 unfold maxLen at hs2
 have hb0 := H.b0
 have hv0 := H.v0
 have hw0 := H.w0
 have hblo := H.blo
 have hbv := H.bv
 have hrA := H.rd
 have hiA := H.hi
 have hpA := H.hp
 have hfA := H.hpf
 have haA := H.acc
 have hWA := H.words
 have hxA := Fx.refl lo b vb w
 have ck := haA.box.c0
 have HV := Lib.hid H.val
 clear H
 go_enter Tryz.func133, Tryz.ntmps133
 cases hb1 : isB s i 41
 ·have HB1 := Lib.hid hb1
  clear hb1
  go_wp2_with fail
  refine (next_any b s i p 41 _ hrA hs (by omega) hiA).mono ?_
  rintro e w1 ⟨rfl, nq, rfl⟩
  rw [HB1.out]
  have hr1 := hrA.drewN nq
  have hacc1 := haA.drewN nq
  have hx1 := hxA.trans (Fx.drewN nq)
  have hW1 := hWA.drewN nq
  go_wp2_with fail
  refine App0_region (d := 105) (lo := lo) (b := b) (vb := vb) (i := i) (p := p) (F := 158) (f := f) (m := mEv) (s := s) HV.out may_ev list_shape18 (by omega) (by simp) rfl rfl hr1 (by omega) (by omega) (by omega) hW1 hacc1 (by simp; try omega) hb0 hv0 hw0 hblo hbv ?_ ?_
  ·intro j2 a2 w2 ho2 hdf2 hf2
   refine ⟨hdf2, ?_⟩
   have hfin : pList s (pVal s f) 9 i p = .error j2 := by simp [pList, pOne, HB1.out, ho2]
   rw [hfin]
   exact ⟨rfl, hx1.trans hf2⟩
  rintro t2 i2 p2 a2 w2 ho2 hU2 hr2 ⟨v2, xs2, hacc2⟩ hf2
  have hgo2 := pVal_goes s f _ _ _ t2 i2 p2 (by omega) (by omega) ho2
  obtain ⟨us, hus, rfl⟩ := hU2.list (by simp)
  obtain ⟨x0, x1, x2, x3, x4, x5, x6, x7, x8, x9, x10, x11, rfl⟩ := list12 hus
  simp only [List.take_succ_cons, List.take_zero, List.drop_succ_cons, List.drop_zero, List.cons_append, List.nil_append]
  have HO2 := Lib.hid ho2
  clear ho2 hus hU2
  have hx2 := hx1.trans hf2
  have hW2 := hx2.words hWA hw0 hb0 hv0
  clear hf2
  go_wp2_with fail
  refine (more_any s f HV.out mEv 158 b vb lo _ _ may_ev hs hb0 hv0 hw0 hblo hbv 15 (by omega) [t2] i2 p2 _ _ _ hr2 (by omega) (by omega) (by omega) (by simp) hacc2 hW2).mono ?_
  intro e we he
  have hfin : pList s (pVal s f) 9 i p = withN 0 (pMore s (pVal s f) mEv 15 [t2] i2 p2) := by simp [pList, pOne, withN, HB1.out, HO2.out]
  have hE := LstEndsN.from hx2 (LstEnds.withN he)
  rw [← hfin] at hE
  rcases hq : pMore s (pVal s f) mEv 15 [t2] i2 p2 with jq | ⟨lq, iq, pq⟩
  ·rw [hq] at he
   obtain ⟨rfl, _⟩ := he
   exact ⟨rfl, hE⟩
  ·rw [hq] at he
   obtain ⟨rfl, _⟩ := he
   go_wp2_with fail
   go_end0
   exact hE
 ·have HB1 := Lib.hid hb1
  clear hb1
  go_wp2_with fail
  refine (next_any b s i p 41 _ hrA hs (by omega) hiA).mono ?_
  rintro e w1 ⟨rfl, nq, rfl⟩
  rw [HB1.out]
  go_wp2_with fail
  refine bodyPost_ret (results_none rfl _ _ _) rfl ?_
  have hfin : pList s (pVal s f) 9 i p = .ok (0, [], i, p) := by simp [pList, HB1.out]
  rw [hfin]
  exact ⟨rfl, hrA.drewN nq, ⟨_, _, haA.drewN nq⟩, hxA.trans (Fx.drewN nq)⟩

set_option maxRecDepth 100000 in
set_option maxHeartbeats 2000000 in
theorem list_10 {s : ByteArray} {f lo b vb i p : Nat} {w : World} (H : ListPre s f lo b vb 10 i p w) :
  Calls Tryz.prog 133 #[.pointer (some ⟨b, 0, none⟩), .pointer (some ⟨vb, 0, none⟩)] w (LstEndsN lo b vb s 10 w (pList s (pVal s f) 10 i p)) := by
 have hs := H.size
 have hs2 := H.size
 unfold maxLen at hs2
 have hb0 := H.b0
 have hv0 := H.v0
 have hw0 := H.w0
 have hblo := H.blo
 have hbv := H.bv
 have hrA := H.rd
 have hiA := H.hi
 have hpA := H.hp
 have hfA := H.hpf
 have haA := H.acc
 have hWA := H.words
 have hxA := Fx.refl lo b vb w
 have ck := haA.box.c0
 have HV := Lib.hid H.val
 clear H
 go_enter Tryz.func133, Tryz.ntmps133
 rcases hn1 : num s 63 i with j1 | ⟨n1, i1⟩
 ·have HN1 := Lib.hid hn1
  clear hn1
  go_wp2_with fail
  refine (number_any b s i p 63 _ hrA hs (by omega) (by omega) (by omega)).mono ?_
  rw [HN1.out]
  rintro e w1 ⟨rfl, hg1⟩
  refine ⟨rfl, ?_⟩
  have hfin : pList s (pVal s f) 10 i p = .error j1 := by simp [pList, pNum, HN1.out]
  rw [hfin]
  exact ⟨rfl, hxA.trans (Fx.gr haA.le hg1)⟩
 have hno1 := num_ok hn1 (by omega) (by omega)
 have HN1 := Lib.hid hn1
 clear hn1
 go_wp2_with fail
 refine (number_any b s i p 63 _ hrA hs (by omega) (by omega) (by omega)).mono ?_
 rw [HN1.out]
 rintro e w1 ⟨rfl, hr1, hg1⟩
 have hacc1 := haA.gr hg1 hblo hbv
 have cn1 := hacc1.box.c1
 have cf1 := hacc1.box.fz 1
 have hx1 := (hxA.trans (Fx.gr haA.le hg1)).trans (Fx.set ⟨vb, 1, none⟩ (.int .i64 (n1 : Int)) (.inr (.inr rfl)))
 have hW1 := hx1.words hWA hw0 hb0 hv0
 have hrr1 := hr1.far (q := ⟨vb, 1, none⟩) hbv (.int .i64 (n1 : Int))
 have hac1 := hacc1.setN (n1 : Int)
 clear hg1
 cases hb2 : isB s i1 44
 ·have HB2 := Lib.hid hb2
  clear hb2
  go_wp2_with fail
  refine (skip_no b s i1 p 44 _ hrr1 hs (by omega) (by omega) HB2.out).mono ?_
  rintro e w2 ⟨rfl, hg2⟩
  refine ⟨rfl, ?_⟩
  have hfin : pList s (pVal s f) 10 i p = .error i1 := by simp [pList, withN, pNum, HN1.out, HB2.out]
  rw [hfin]
  exact ⟨rfl, hx1.trans (Fx.gr hac1.le hg2)⟩
 have hlt2 := isB_lt (by omega) hb2
 have HB2 := Lib.hid hb2
 clear hb2
 go_wp2_with fail
 refine (skip_yes b s i1 p 44 _ hrr1 hs (by omega) (by omega) HB2.out).mono ?_
 rintro e w2 ⟨rfl, hr2, hg2⟩
 have hacc2 := hac1.gr hg2 hblo hbv
 have hx2 := hx1.trans (Fx.gr hac1.le hg2)
 have hW2 := hx2.words hWA hw0 hb0 hv0
 clear hg2
 go_wp2_with fail
 refine App0_region (d := 130) (lo := lo) (b := b) (vb := vb) (i := (i1 + 1)) (p := p) (F := 158) (f := f) (m := mEv) (s := s) HV.out may_ev list_shape23 (by omega) (by simp) rfl rfl hr2 (by omega) (by omega) (by omega) hW2 hacc2 (by simp; try omega) hb0 hv0 hw0 hblo hbv ?_ ?_
 ·intro j3 a3 w3 ho3 hdf3 hf3
  refine ⟨hdf3, ?_⟩
  have hfin : pList s (pVal s f) 10 i p = .error j3 := by simp [pList, pOne, withN, pNum, HN1.out, HB2.out, ho3]
  rw [hfin]
  exact ⟨rfl, hx2.trans hf3⟩
 rintro t3 i3 p3 a3 w3 ho3 hU3 hr3 ⟨v3, xs3, hacc3⟩ hf3
 have hgo3 := pVal_goes s f _ _ _ t3 i3 p3 (by omega) (by omega) ho3
 obtain ⟨us, hus, rfl⟩ := hU3.list (by simp)
 obtain ⟨x0, x1, x2, x3, x4, x5, x6, x7, x8, x9, x10, x11, rfl⟩ := list12 hus
 simp only [List.take_succ_cons, List.take_zero, List.drop_succ_cons, List.drop_zero, List.cons_append, List.nil_append]
 have HO3 := Lib.hid ho3
 clear ho3 hus hU3
 have hx3 := hx2.trans hf3
 have hW3 := hx3.words hWA hw0 hb0 hv0
 clear hf3
 go_wp2_with fail
 refine (more_any s f HV.out mAny 103 b vb lo _ _ may_any hs hb0 hv0 hw0 hblo hbv 8 (by omega) [t3] i3 p3 _ _ _ hr3 (by omega) (by omega) (by omega) (by simp) hacc3 hW3).mono ?_
 intro e we he
 have hfin : pList s (pVal s f) 10 i p = withN (n1 : Int) (pMore s (pVal s f) mAny 8 [t3] i3 p3) := by simp [pList, pOne, withN, pNum, HN1.out, HB2.out, HO3.out]
 have hE := LstEndsN.from hx3 (LstEnds.withN he)
 rw [← hfin] at hE
 rcases hq : pMore s (pVal s f) mAny 8 [t3] i3 p3 with jq | ⟨lq, iq, pq⟩
 ·rw [hq] at he
  obtain ⟨rfl, _⟩ := he
  exact ⟨rfl, hE⟩
 ·rw [hq] at he
  obtain ⟨rfl, _⟩ := he
  go_wp2_with fail
  go_end0
  exact hE

set_option maxRecDepth 100000 in
set_option maxHeartbeats 2000000 in
theorem list_11 {s : ByteArray} {f lo b vb i p : Nat} {w : World} (H : ListPre s f lo b vb 11 i p w) :
  Calls Tryz.prog 133 #[.pointer (some ⟨b, 0, none⟩), .pointer (some ⟨vb, 0, none⟩)] w (LstEndsN lo b vb s 11 w (pList s (pVal s f) 11 i p)) := by
 have hs := H.size
 have hs2 := H.size
 unfold maxLen at hs2
 have hb0 := H.b0
 have hv0 := H.v0
 have hw0 := H.w0
 have hblo := H.blo
 have hbv := H.bv
 have hrA := H.rd
 have hiA := H.hi
 have hpA := H.hp
 have hfA := H.hpf
 have haA := H.acc
 have hWA := H.words
 have hxA := Fx.refl lo b vb w
 have ck := haA.box.c0
 have HV := Lib.hid H.val
 clear H
 go_enter Tryz.func133, Tryz.ntmps133
 rcases hn1 : num s 63 i with j1 | ⟨n1, i1⟩
 ·have HN1 := Lib.hid hn1
  clear hn1
  go_wp2_with fail
  refine (number_any b s i p 63 _ hrA hs (by omega) (by omega) (by omega)).mono ?_
  rw [HN1.out]
  rintro e w1 ⟨rfl, hg1⟩
  refine ⟨rfl, ?_⟩
  have hfin : pList s (pVal s f) 11 i p = .error j1 := by simp [pList, pNum, HN1.out]
  rw [hfin]
  exact ⟨rfl, hxA.trans (Fx.gr haA.le hg1)⟩
 have hno1 := num_ok hn1 (by omega) (by omega)
 have HN1 := Lib.hid hn1
 clear hn1
 go_wp2_with fail
 refine (number_any b s i p 63 _ hrA hs (by omega) (by omega) (by omega)).mono ?_
 rw [HN1.out]
 rintro e w1 ⟨rfl, hr1, hg1⟩
 have hacc1 := haA.gr hg1 hblo hbv
 have cn1 := hacc1.box.c1
 have cf1 := hacc1.box.fz 1
 have hx1 := (hxA.trans (Fx.gr haA.le hg1)).trans (Fx.set ⟨vb, 1, none⟩ (.int .i64 (n1 : Int)) (.inr (.inr rfl)))
 have hW1 := hx1.words hWA hw0 hb0 hv0
 have hrr1 := hr1.far (q := ⟨vb, 1, none⟩) hbv (.int .i64 (n1 : Int))
 have hac1 := hacc1.setN (n1 : Int)
 clear hg1
 go_wp2_with fail
 refine (more_any s f HV.out mAny 103 b vb lo _ _ may_any hs hb0 hv0 hw0 hblo hbv 8 (by omega) [] i1 p _ _ _ hrr1 (by omega) (by omega) (by omega) (by simp) hac1 hW1).mono ?_
 intro e we he
 have hfin : pList s (pVal s f) 11 i p = withN (n1 : Int) (pMore s (pVal s f) mAny 8 [] i1 p) := by simp [pList, withN, pNum, HN1.out]
 have hE := LstEndsN.from hx1 (LstEnds.withN he)
 rw [← hfin] at hE
 rcases hq : pMore s (pVal s f) mAny 8 [] i1 p with jq | ⟨lq, iq, pq⟩
 ·rw [hq] at he
  obtain ⟨rfl, _⟩ := he
  exact ⟨rfl, hE⟩
 ·rw [hq] at he
  obtain ⟨rfl, _⟩ := he
  go_wp2_with fail
  go_end0
  exact hE

set_option maxRecDepth 100000 in
set_option maxHeartbeats 2000000 in
theorem list_12 {s : ByteArray} {f lo b vb i p : Nat} {w : World} (H : ListPre s f lo b vb 12 i p w) :
  Calls Tryz.prog 133 #[.pointer (some ⟨b, 0, none⟩), .pointer (some ⟨vb, 0, none⟩)] w (LstEndsN lo b vb s 12 w (pList s (pVal s f) 12 i p)) := by
 have hs := H.size
 have hs2 := H.size
 unfold maxLen at hs2
 have hb0 := H.b0
 have hv0 := H.v0
 have hw0 := H.w0
 have hblo := H.blo
 have hbv := H.bv
 have hrA := H.rd
 have hiA := H.hi
 have hpA := H.hp
 have hfA := H.hpf
 have haA := H.acc
 have hWA := H.words
 have hxA := Fx.refl lo b vb w
 have ck := haA.box.c0
 have HV := Lib.hid H.val
 clear H
 go_enter Tryz.func133, Tryz.ntmps133
 rcases hn1 : num s 63 i with j1 | ⟨n1, i1⟩
 ·have HN1 := Lib.hid hn1
  clear hn1
  go_wp2_with fail
  refine (number_any b s i p 63 _ hrA hs (by omega) (by omega) (by omega)).mono ?_
  rw [HN1.out]
  rintro e w1 ⟨rfl, hg1⟩
  refine ⟨rfl, ?_⟩
  have hfin : pList s (pVal s f) 12 i p = .error j1 := by simp [pList, pNum, HN1.out]
  rw [hfin]
  exact ⟨rfl, hxA.trans (Fx.gr haA.le hg1)⟩
 have hno1 := num_ok hn1 (by omega) (by omega)
 have HN1 := Lib.hid hn1
 clear hn1
 go_wp2_with fail
 refine (number_any b s i p 63 _ hrA hs (by omega) (by omega) (by omega)).mono ?_
 rw [HN1.out]
 rintro e w1 ⟨rfl, hr1, hg1⟩
 have hacc1 := haA.gr hg1 hblo hbv
 have cn1 := hacc1.box.c1
 have cf1 := hacc1.box.fz 1
 have hx1 := (hxA.trans (Fx.gr haA.le hg1)).trans (Fx.set ⟨vb, 1, none⟩ (.int .i64 (n1 : Int)) (.inr (.inr rfl)))
 have hW1 := hx1.words hWA hw0 hb0 hv0
 have hrr1 := hr1.far (q := ⟨vb, 1, none⟩) hbv (.int .i64 (n1 : Int))
 have hac1 := hacc1.setN (n1 : Int)
 clear hg1
 go_wp2_with fail
 refine (more_any s f HV.out mAny 103 b vb lo _ _ may_any hs hb0 hv0 hw0 hblo hbv 8 (by omega) [] i1 p _ _ _ hrr1 (by omega) (by omega) (by omega) (by simp) hac1 hW1).mono ?_
 intro e we he
 have hfin : pList s (pVal s f) 12 i p = withN (n1 : Int) (pMore s (pVal s f) mAny 8 [] i1 p) := by simp [pList, withN, pNum, HN1.out]
 have hE := LstEndsN.from hx1 (LstEnds.withN he)
 rw [← hfin] at hE
 rcases hq : pMore s (pVal s f) mAny 8 [] i1 p with jq | ⟨lq, iq, pq⟩
 ·rw [hq] at he
  obtain ⟨rfl, _⟩ := he
  exact ⟨rfl, hE⟩
 ·rw [hq] at he
  obtain ⟨rfl, _⟩ := he
  go_wp2_with fail
  go_end0
  exact hE
end Go.Proofs.YtjldbbcdhdfliaaGreatDoor
/-
 Walks over package valtext's reader: value, for every fuel.
-/
namespace Go.Proofs.YtjldbbcdhdfliaaGreatDoor
open Go.RowKit

theorem list_any {s : ByteArray} {f lo b vb i p : Nat} {k : Nat} {w : World} (hk : k < 14) (h1 : k ≠ 0) (h2 : k ≠ 1) (h3 : k ≠ 2) (h4 : k ≠ 8) (H : ListPre s f lo b vb k i p w) :
  Calls Tryz.prog 133 #[.pointer (some ⟨b, 0, none⟩), .pointer (some ⟨vb, 0, none⟩)] w (LstEndsN lo b vb s k w (pList s (pVal s f) k i p)) := by
 have : k = 3 ∨ k = 4 ∨ k = 5 ∨ k = 6 ∨ k = 7 ∨ k = 9 ∨ k = 10 ∨ k = 11 ∨ k = 12 ∨ k = 13 := by omega
 rcases this with rfl | rfl | rfl | rfl | rfl | rfl | rfl | rfl | rfl | rfl
 ·exact list_3 H
 ·exact list_4 H
 ·exact list_5 H
 ·exact list_6 H
 ·exact list_7 H
 ·exact list_9 H
 ·exact list_10 H
 ·exact list_11 H
 ·exact list_12 H
 ·exact list_13 H

theorem word_kind {s : ByteArray} {st : Nat} {m : Int → Bool} {k j : Nat} (h : word s st m = .ok (k, j)) : k < 14 ∧ k ≠ 0 ∧ k ≠ 2 := by
 have := word_goes h
 refine ⟨this.2.2.1, ?_, ?_⟩
 ·rintro rfl; exact absurd this.2.2.2.2 (by decide)
 ·rintro rfl; exact absurd this.2.2.2.2 (by decide)

theorem IsV_leaf {ok : Nat → Prop} {w : World} {k n : Int} (hk : Rng k) (h : Rng n) : IsV ok w (.mk k n []) (.agg #[.int .i64 k, .int .i64 n, .slice none 0 0]) := by
 rw [IsV]
 exact ⟨none, 0, rfl, hk, h, Nat.le_refl _, Nat.zero_le _, by rw [IsR]; trivial⟩

theorem fx_gr {b vb lo : Nat} {w w1 w2 : World} (h : Gr b w w1) (hf : Fx lo b vb w1 w2) (hv : w.heap.size ≤ vb) (hl : w.heap.size ≤ lo) : Gr b w w2 :=
 ⟨hf.os.trans h.os, hf.tape.trans h.tape, hf.output.trans h.output, Nat.le_trans h.size hf.size, fun k hk hr => (hf.block k (by omega) (fun e => hr (by rw [e])) (by omega)).trans (h.block k hk hr)⟩

set_option maxRecDepth 100000 in
set_option maxHeartbeats 4000000 in
theorem value_any (s : ByteArray) (hs : s.size ≤ maxLen) : ∀ f, ValC s f := by
 intro f
 have hs2 := hs
 unfold maxLen at hs2
 induction f with
 | zero =>
  intro m mf b i p w hm hr hi hp hpf hW hb0
  obtain rfl : p = 256 := by omega
  have c2 := hr.c2
  have hlt := hr.lt
  have c2' : ∀ o, (w.alloc o).cell? ⟨b, 2, none⟩ = some (.int .i64 256) := fun o => (hr.alloc o).c2
  clear c2
  go_enter Tryz.func102, Tryz.ntmps102
  go_wp2_with fail
  refine (fail_any b i _ (hr.alloc _).c1).mono ?_
  rintro e w1 ⟨rfl, rfl⟩
  refine ⟨rfl, ?_⟩
  rw [pVal]
  exact ⟨rfl, (Gr.refl b w).alloc _⟩
 | succ f ih =>
  intro m mf b i p w hm hr hi hp hpf hW hb0
  have hlt := hr.lt
  have HI := Lib.hid ih
  clear ih
  by_cases hp256 : 256 ≤ p
  ·obtain rfl : p = 256 := by omega
   have c2' : ∀ o, (w.alloc o).cell? ⟨b, 2, none⟩ = some (.int .i64 256) := fun o => (hr.alloc o).c2
   go_enter Tryz.func102, Tryz.ntmps102
   go_wp2_with fail
   refine (fail_any b i _ (hr.alloc _).c1).mono ?_
   rintro e w1 ⟨rfl, rfl⟩
   refine ⟨rfl, ?_⟩
   rw [pVal, if_pos (by omega)]
   exact ⟨rfl, (Gr.refl b w).alloc _⟩
  ·have HP : Hid (pVal s (f + 1) m i p = if isB s i 45 || dig s i then
     if m 2 then integer s i (p + 1) else .error i
     else match word s i m with
     | .error j => .error j
     | .ok (k, j) =>
      if k = 1 ∨ k = 8 then .ok (.mk k 0 [], j, p + 1)
      else if isB s j 40 then
       match pList s (pVal s f) k (j + 1) (p + 1) with
       | .error j' => .error j'
       | .ok (n, l, j', p') => if isB s j' 41 then .ok (.mk k n l, j' + 1, p') else .error j'
      else .error j) := by
    show _ = _
    rw [pVal, if_neg hp256]
    rfl
   have hen := hm.enters
   go_enter Tryz.func102, Tryz.ntmps102
   have c2' : ∀ o, (w.alloc o).cell? ⟨b, 2, none⟩ = some (.int .i64 p) := fun o => (hr.alloc o).c2
   have cf' : ∀ o, (w.alloc o).frozen? ⟨b, 2, none⟩ = false := fun o => (hr.alloc o).fz 2
   go_wp2_with fail
   have hr1 : Rd ((w.setCell ⟨b, 2, none⟩ (.int .i64 ((p : Int) + 1))).alloc (.cells #[.int .i64 0, .int .i64 0, .slice none 0 0] 27)) b s i (p + 1) := (hr.set2 (p + 1)).alloc _
   have hg1 := ((Gr.refl b w).set 2 (.int .i64 ((p : Int) + 1))).alloc (.cells #[.int .i64 0, .int .i64 0, .slice none 0 0] 27)
   have hx1 := Bx.new (w.setCell ⟨b, 2, none⟩ (.int .i64 ((p : Int) + 1))) 27 (.int .i64 0) (.int .i64 0) (.slice none 0 0)
   rw [show (w.setCell ⟨b, 2, none⟩ (.int .i64 ((p : Int) + 1))).heap.size = w.heap.size from by simp [World.setCell]] at hx1
   have hW1 := hW.gr hg1 hb0
   clear c2' cf'
   generalize (w.setCell ⟨b, 2, none⟩ (.int .i64 ((p : Int) + 1))).alloc (.cells #[.int .i64 0, .int .i64 0, .slice none 0 0] 27) = w1 at *
   refine (next_any b s i (p + 1) 45 _ hr1 hs (by omega) hi).mono ?_
   rintro e w2 ⟨rfl, n2, rfl⟩
   have hr2 := hr1.drewN n2
   have hg2 := hg1.drewN n2
   have hx2 := hx1.drewN n2
   have hW2 := hW1.drewN n2
   clear hr1 hg1 hx1 hW1
   generalize w1.drewN n2 = w2 at *
   cases hmi : isB s i 45
   ·cases hdi : dig s i
    ·
     have HB : Hid ((isB s i 45 || dig s i) = false) := by show _ = _; rw [hmi, hdi]; rfl
     have HM := Lib.hid hmi
     have HD := Lib.hid hdi
     clear hmi hdi
     go_wp2_with fail
     refine (digit_any b s i (p + 1) _ hr2 hs hi).mono ?_
     rintro e w3 ⟨rfl, n3, rfl⟩
     rw [HD.out]
     have hr3 := hr2.drewN n3
     have hg3 := hg2.drewN n3
     have hx3 := hx2.drewN n3
     have hW3 := hW2.drewN n3
     clear hr2 hg2 hx2 hW2
     generalize w2.drewN n3 = w3 at *
     rcases hwd : word s i m with j | ⟨k, j⟩
     ·have HWD := Lib.hid hwd
      clear hwd
      go_wp2_with fail
      refine (word_any b s i (p + 1) mf m _ hr3 hs hi hm hW3 hb0).mono ?_
      rw [HWD.out]
      rintro e w4 ⟨rfl, hg4⟩
      refine ⟨rfl, ?_⟩
      rw [HP.out, HB.out, HWD.out]
      exact ⟨rfl, hg3.trans hg4⟩
     ·have hkk := word_kind hwd
      have hgo := word_goes hwd
      have HWD := Lib.hid hwd
      clear hwd
      go_wp2_with fail
      refine (word_any b s i (p + 1) mf m _ hr3 hs hi hm hW3 hb0).mono ?_
      rw [HWD.out]
      rintro e w4 ⟨rfl, hr4, hg4⟩
      have hx4 := hx3.gr hg4 (by omega)
      have hg4' := hg3.trans hg4
      have hW4 := hW3.gr hg4 hb0
      clear hr3 hg3 hx3 hW3 hg4
      have hx4lt := hx4.lt
      have hb4 := hr4.lt
      by_cases hleaf : k = 1 ∨ k = 8
      ·have q0 := hx4.c0
       have q1 := hx4.c1
       have q2 := hx4.c2
       have f0 := hx4.fz
       have a0 : ∀ o, (w4.alloc o).cell? ⟨w.heap.size, 0, none⟩ = some (.int .i64 0) := fun o => (hx4.alloc o).c0
       have a1 : ∀ o, (w4.alloc o).cell? ⟨w.heap.size, 1, none⟩ = some (.int .i64 0) := fun o => (hx4.alloc o).c1
       have a2 : ∀ o, (w4.alloc o).cell? ⟨w.heap.size, 2, none⟩ = some (.slice none 0 0) := fun o => (hx4.alloc o).c2
       have af : ∀ o j, (w4.alloc o).frozen? ⟨w.heap.size, j, none⟩ = false := fun o j => (hx4.alloc o).fz j
       have hfin : pVal s (f + 1) m i p = .ok (.mk k 0 [], j, p + 1) := by
        rw [HP.out, HB.out, HWD.out]
        simp only [Bool.false_eq_true, if_false]
        rw [if_pos hleaf]
       have HF := Lib.hid hfin
       clear hfin
       rcases hleaf with rfl | rfl
       ·go_wp2_with fail
        have hz := fun o => (((hx4.set0 (.int .i64 1)).set1 (.int .i64 0)).set2 (.slice none 0 0)).alloc o
        refine bodyPost_ret (v := .agg #[.int .i64 1, .int .i64 0, .slice none 0 0]) (by simp [results, Tryz.results102, go_sem, (hz _).c0, (hz _).c1, (hz _).c2]) rfl ?_
        rw [HF.out]
        refine ⟨_, rfl, IsV_leaf (by unfold Rng; omega) (by unfold Rng; omega), ?_, ?_⟩
        ·exact (((hr4.far (q := ⟨w.heap.size, 0, none⟩) (by simp; omega) _).far (q := ⟨w.heap.size, 1, none⟩) (by simp; omega) _).far (q := ⟨w.heap.size, 2, none⟩) (by simp; omega) _).alloc _
        ·exact (((hg4'.setNew (q := ⟨w.heap.size, 0, none⟩) (Nat.le_refl _) _).setNew (q := ⟨w.heap.size, 1, none⟩) (Nat.le_refl _) _).setNew (q := ⟨w.heap.size, 2, none⟩) (Nat.le_refl _) _).alloc _
       ·go_wp2_with fail
        have hz := fun o => (((hx4.set0 (.int .i64 8)).set1 (.int .i64 0)).set2 (.slice none 0 0)).alloc o
        refine bodyPost_ret (v := .agg #[.int .i64 8, .int .i64 0, .slice none 0 0]) (by simp [results, Tryz.results102, go_sem, (hz _).c0, (hz _).c1, (hz _).c2]) rfl ?_
        rw [HF.out]
        refine ⟨_, rfl, IsV_leaf (by unfold Rng; omega) (by unfold Rng; omega), ?_, ?_⟩
        ·exact (((hr4.far (q := ⟨w.heap.size, 0, none⟩) (by simp; omega) _).far (q := ⟨w.heap.size, 1, none⟩) (by simp; omega) _).far (q := ⟨w.heap.size, 2, none⟩) (by simp; omega) _).alloc _
        ·exact (((hg4'.setNew (q := ⟨w.heap.size, 0, none⟩) (Nat.le_refl _) _).setNew (q := ⟨w.heap.size, 1, none⟩) (Nat.le_refl _) _).setNew (q := ⟨w.heap.size, 2, none⟩) (Nat.le_refl _) _).alloc _
      ·have e1 : ((k : Int) == 1) = false := by rw [beq_eq_false_iff_ne]; omega
       have e8 : ((k : Int) == 8) = false := by rw [beq_eq_false_iff_ne]; omega
       have HPW : Hid (pVal s (f + 1) m i p = if isB s j 40 then
         match pList s (pVal s f) k (j + 1) (p + 1) with
         | .error j' => .error j'
         | .ok (n, l, j', p') => if isB s j' 41 then .ok (.mk k n l, j' + 1, p') else .error j'
         else .error j) := by
        show _ = _
        rw [HP.out, HB.out, HWD.out]
        simp only [Bool.false_eq_true, if_false]
        rw [if_neg hleaf]
       have hvbx := Bx.new w4 27 (.int .i64 (k : Int)) (.int .i64 0) (.slice none 0 0)
       have hr5 := hr4.alloc (.cells #[.int .i64 (k : Int), .int .i64 0, .slice none 0 0] 27)
       have hg5 := hg4'.alloc (.cells #[.int .i64 (k : Int), .int .i64 0, .slice none 0 0] 27)
       have hx5 := hx4.alloc (.cells #[.int .i64 (k : Int), .int .i64 0, .slice none 0 0] 27)
       have hW5 := hW4.alloc (.cells #[.int .i64 (k : Int), .int .i64 0, .slice none 0 0] 27)
       have hacc5 : Acc (w4.heap.size + 1) (w4.alloc (.cells #[.int .i64 (k : Int), .int .i64 0, .slice none 0 0] 27)) w4.heap.size k 0 [] (.slice none 0 0) [] := ⟨hvbx, World.ownsRow_nil _ _ _ _, rfl, by omega, by simp⟩
       have h0lt := hW4.lt
       cases hop : isB s j 40
       ·have HO := Lib.hid hop
        clear hop
        go_wp2_with fail
        refine (skip_no b s j (p + 1) 40 _ hr5 hs (by omega) (by omega) HO.out).mono ?_
        rintro e w6 ⟨rfl, hg6⟩
        refine ⟨rfl, ?_⟩
        rw [HPW.out, HO.out]
        exact ⟨rfl, hg5.trans hg6⟩
       ·have hjlt := isB_lt (by omega) hop
        have HO := Lib.hid hop
        clear hop
        go_wp2_with fail
        refine (skip_yes b s j (p + 1) 40 _ hr5 hs (by omega) (by omega) HO.out).mono ?_
        rintro e w6 ⟨rfl, hr6, hg6⟩
        have hacc6 := hacc5.gr hg6 (by omega) (by omega)
        have hx6 := hx5.gr hg6 (by omega)
        have hW6 := hW5.gr hg6 hb0
        have hg6' := hg5.trans hg6
        clear hr5 hg5 hx5 hW5 hacc5 hvbx hr4 hg4' hx4 hW4 hg6
        generalize hvbn : w4.heap.size = vb at *
        have HVB := Lib.hid hvbn
        clear hvbn
        have hL : ListPre s f (vb + 1) b vb k (j + 1) (p + 1) w6 := ⟨HI.out, hs, hb0, by omega, by omega, by omega, by omega, hr6, by omega, by omega, by omega, hacc6, hW6⟩
        rcases hpl : pList s (pVal s f) k (j + 1) (p + 1) with j' | ⟨n, l, j', p'⟩
        ·have HL := Lib.hid hpl
         clear hpl
         go_wp2_with fail
         refine (list_any hkk.1 hkk.2.1 (by omega) hkk.2.2 (by omega) hL).mono ?_
         rw [HL.out]
         rintro e w7 ⟨rfl, hf7⟩
         refine ⟨rfl, ?_⟩
         rw [HPW.out, HO.out, HL.out]
         exact ⟨rfl, fx_gr hg6' hf7 (by omega) (by omega)⟩
        ·have hgl := pList_goes (pVal_goes s f) (by omega) (by omega) hpl
         have HL := Lib.hid hpl
         clear hpl
         go_wp2_with fail
         refine (list_any hkk.1 hkk.2.1 (by omega) hkk.2.2 (by omega) hL).mono ?_
         rw [HL.out]
         rintro e w7 ⟨rfl, hr7, ⟨v7, xs7, hacc7⟩, hf7⟩
         have hg7 := fx_gr hg6' hf7 (by omega) (by omega)
         have hx7 : Bx w7 w.heap.size 27 (.int .i64 0) (.int .i64 0) (.slice none 0 0) := (hf7.block _ (by omega) (by omega) (by omega)).trans hx6
         clear hr6 hg6' hx6 hW6 hacc6 hL hf7
         cases hcl : isB s j' 41
         ·have HC := Lib.hid hcl
          clear hcl
          go_wp2_with fail
          refine (skip_no b s j' p' 41 _ hr7 hs (by omega) (by omega) HC.out).mono ?_
          rintro e w8 ⟨rfl, hg8⟩
          refine ⟨rfl, ?_⟩
          rw [HPW.out, HO.out, HL.out]
          simp only [if_true, HC.out, Bool.false_eq_true, if_false]
          exact ⟨rfl, hg7.trans hg8⟩
         ·have HC := Lib.hid hcl
          clear hcl
          go_wp2_with fail
          refine (skip_yes b s j' p' 41 _ hr7 hs (by omega) (by omega) HC.out).mono ?_
          rintro e w8 ⟨rfl, hr8, hg8⟩
          have hacc8 := hacc7.gr hg8 (by omega) (by omega)
          have hx8 := hx7.gr hg8 (by omega)
          obtain ⟨va, vcap, rfl⟩ := hacc8.form
          have q0 := hx8.c0
          have q1 := hx8.c1
          have q2 := hx8.c2
          have f0 := hx8.fz
          have z0 := hacc8.box.c0
          have z1 := hacc8.box.c1
          have z2 := hacc8.box.c2
          have hle8 := hacc8.le
          go_wp2_with fail
          have hz := ((hx8.set0 (.int .i64 k)).set1 (.int .i64 n)).set2 (.slice va l.length vcap)
          refine bodyPost_ret (v := .agg #[.int .i64 k, .int .i64 n, .slice va l.length vcap]) (by simp [results, Tryz.results102, go_sem, hz.c0, hz.c1, hz.c2]) rfl ?_
          rw [HPW.out, HO.out, HL.out]
          simp only [if_true, HC.out]
          refine ⟨_, rfl, ?_, ?_, ?_⟩
          ·have hv8 := hacc8.isV (by unfold Rng; omega) (by unfold Rng; omega) (fun g => vb + 1 ≤ g ∧ g < w8.heap.size) (fun g h1 h2 => ⟨h1, h2⟩)
           refine (hv8.keep ?_).more ?_
           ·intro g hg o
            exact World.cell?_of_block (w := w8) (by rw [Below.heap_setCell _ _ _ _ (by simp; omega), Below.heap_setCell _ _ _ _ (by simp; omega), Below.heap_setCell _ _ _ _ (by simp; omega)])
           ·intro g hg
            exact ⟨by omega, by simpa [World.setCell] using hg.2⟩
          ·exact ((hr8.far (q := ⟨w.heap.size, 0, none⟩) (by simp; omega) _).far (q := ⟨w.heap.size, 1, none⟩) (by simp; omega) _).far (q := ⟨w.heap.size, 2, none⟩) (by simp; omega) _
          ·exact (((hg7.trans hg8).setNew (q := ⟨w.heap.size, 0, none⟩) (Nat.le_refl _) _).setNew (q := ⟨w.heap.size, 1, none⟩) (Nat.le_refl _) _).setNew (q := ⟨w.heap.size, 2, none⟩) (Nat.le_refl _) _
    ·
     have HB : Hid ((isB s i 45 || dig s i) = true) := by show _ = _; rw [hmi, hdi]; rfl
     have HD := Lib.hid hdi
     clear hmi hdi
     go_wp2_with fail
     refine (digit_any b s i (p + 1) _ hr2 hs hi).mono ?_
     rintro e w3 ⟨rfl, n3, rfl⟩
     rw [HD.out]
     have hr3 := hr2.drewN n3
     have hg3 := hg2.drewN n3
     have hx3 := hx2.drewN n3
     clear hr2 hg2 hx2 hW2
     generalize w2.drewN n3 = w3 at *
     cases hm2 : m 2
     ·have H2 := Lib.hid hm2
      go_wp2_with fail
      refine (hm.calls 2 _).mono ?_
      rintro e w4 ⟨rfl, rfl⟩
      rw [H2.out]
      go_wp2_with fail
      refine (fail_any b i _ hr3.c1).mono ?_
      rintro e w4 ⟨rfl, rfl⟩
      refine ⟨rfl, ?_⟩
      rw [HP.out, HB.out, H2.out]
      exact ⟨rfl, hg3⟩
     ·have H2 := Lib.hid hm2
      have HPI : Hid (pVal s (f + 1) m i p = integer s i (p + 1)) := by
       show _ = _
       rw [HP.out, HB.out, H2.out]
       rfl
      rcases hin : integer s i (p + 1) with j | ⟨t, j, p2⟩
      ·have HN := Lib.hid hin
       clear hin
       go_wp2_with fail
       refine (hm.calls 2 _).mono ?_
       rintro e w4 ⟨rfl, rfl⟩
       rw [H2.out]
       go_wp2_with fail
       refine (integer_any b s i (p + 1) _ hr3 hs hi).mono ?_
       rw [HN.out]
       rintro e w4 ⟨rfl, hg4⟩
       refine ⟨rfl, ?_⟩
       rw [HPI.out, HN.out]
       exact ⟨rfl, hg3.trans hg4⟩
      ·have HN := Lib.hid hin
       clear hin
       go_wp2_with fail
       refine (hm.calls 2 _).mono ?_
       rintro e w4 ⟨rfl, rfl⟩
       rw [H2.out]
       go_wp2_with fail
       refine (integer_any b s i (p + 1) _ hr3 hs hi).mono ?_
       rw [HN.out]
       rintro e w4 ⟨v4, rfl, hv4, hr4, hg4⟩
       obtain ⟨k4, n4, a4, l4, c4, rfl⟩ := hv4.form
       have hx4 := hx3.gr hg4 (by omega)
       have q0 := hx4.c0
       have q1 := hx4.c1
       have q2 := hx4.c2
       have f0 := hx4.fz
       have hlow := hx3.lt
       go_wp2_with fail
       have hz := ((hx4.set0 (.int .i64 k4)).set1 (.int .i64 n4)).set2 (.slice a4 l4 c4)
       refine bodyPost_ret (v := .agg #[.int .i64 k4, .int .i64 n4, .slice a4 l4 c4]) (by simp [results, Tryz.results102, go_sem, hz.c0, hz.c1, hz.c2]) rfl ?_
       rw [HPI.out, HN.out]
       refine ⟨_, rfl, ?_, ?_, ?_⟩
       ·refine (hv4.keep ?_).more ?_
        ·intro g hg o
         exact World.cell?_of_block (w := w4) (by rw [Below.heap_setCell _ _ _ _ (by simp; omega), Below.heap_setCell _ _ _ _ (by simp; omega), Below.heap_setCell _ _ _ _ (by simp; omega)])
        ·intro g hg
         exact ⟨by omega, by simpa [World.setCell] using hg.2⟩
       ·exact ((hr4.far (q := ⟨w.heap.size, 0, none⟩) (by simp; omega) _).far (q := ⟨w.heap.size, 1, none⟩) (by simp; omega) _).far (q := ⟨w.heap.size, 2, none⟩) (by simp; omega) _
       ·exact (((hg3.trans hg4).setNew (q := ⟨w.heap.size, 0, none⟩) (Nat.le_refl _) _).setNew (q := ⟨w.heap.size, 1, none⟩) (Nat.le_refl _) _).setNew (q := ⟨w.heap.size, 2, none⟩) (Nat.le_refl _) _
   ·
    have HB : Hid ((isB s i 45 || dig s i) = true) := by show _ = _; rw [hmi]; rfl
    clear hmi
    cases hm2 : m 2
    ·have H2 := Lib.hid hm2
     go_wp2_with fail
     refine (hm.calls 2 _).mono ?_
     rintro e w4 ⟨rfl, rfl⟩
     rw [H2.out]
     go_wp2_with fail
     refine (fail_any b i _ hr2.c1).mono ?_
     rintro e w4 ⟨rfl, rfl⟩
     refine ⟨rfl, ?_⟩
     rw [HP.out, HB.out, H2.out]
     exact ⟨rfl, hg2⟩
    ·have H2 := Lib.hid hm2
     have HPI : Hid (pVal s (f + 1) m i p = integer s i (p + 1)) := by
      show _ = _
      rw [HP.out, HB.out, H2.out]
      rfl
     rcases hin : integer s i (p + 1) with j | ⟨t, j, p2⟩
     ·have HN := Lib.hid hin
      clear hin
      go_wp2_with fail
      refine (hm.calls 2 _).mono ?_
      rintro e w4 ⟨rfl, rfl⟩
      rw [H2.out]
      go_wp2_with fail
      refine (integer_any b s i (p + 1) _ hr2 hs hi).mono ?_
      rw [HN.out]
      rintro e w4 ⟨rfl, hg4⟩
      refine ⟨rfl, ?_⟩
      rw [HPI.out, HN.out]
      exact ⟨rfl, hg2.trans hg4⟩
     ·have HN := Lib.hid hin
      clear hin
      go_wp2_with fail
      refine (hm.calls 2 _).mono ?_
      rintro e w4 ⟨rfl, rfl⟩
      rw [H2.out]
      go_wp2_with fail
      refine (integer_any b s i (p + 1) _ hr2 hs hi).mono ?_
      rw [HN.out]
      rintro e w4 ⟨v4, rfl, hv4, hr4, hg4⟩
      obtain ⟨k4, n4, a4, l4, c4, rfl⟩ := hv4.form
      have hx4 := hx2.gr hg4 (by omega)
      have q0 := hx4.c0
      have q1 := hx4.c1
      have q2 := hx4.c2
      have f0 := hx4.fz
      have hlow := hx2.lt
      go_wp2_with fail
      have hz := ((hx4.set0 (.int .i64 k4)).set1 (.int .i64 n4)).set2 (.slice a4 l4 c4)
      refine bodyPost_ret (v := .agg #[.int .i64 k4, .int .i64 n4, .slice a4 l4 c4]) (by simp [results, Tryz.results102, go_sem, hz.c0, hz.c1, hz.c2]) rfl ?_
      rw [HPI.out, HN.out]
      refine ⟨_, rfl, ?_, ?_, ?_⟩
      ·refine (hv4.keep ?_).more ?_
       ·intro g hg o
        exact World.cell?_of_block (w := w4) (by rw [Below.heap_setCell _ _ _ _ (by simp; omega), Below.heap_setCell _ _ _ _ (by simp; omega), Below.heap_setCell _ _ _ _ (by simp; omega)])
       ·intro g hg
        exact ⟨by omega, by simpa [World.setCell] using hg.2⟩
      ·exact ((hr4.far (q := ⟨w.heap.size, 0, none⟩) (by simp; omega) _).far (q := ⟨w.heap.size, 1, none⟩) (by simp; omega) _).far (q := ⟨w.heap.size, 2, none⟩) (by simp; omega) _
      ·exact (((hg2.trans hg4).setNew (q := ⟨w.heap.size, 0, none⟩) (Nat.le_refl _) _).setNew (q := ⟨w.heap.size, 1, none⟩) (Nat.le_refl _) _).setNew (q := ⟨w.heap.size, 2, none⟩) (Nat.le_refl _) _
end Go.Proofs.YtjldbbcdhdfliaaGreatDoor
/-
 Walks over package valtext: Parse, with the panic that says where a text is wrong, recovered.
-/
namespace Go.Proofs.YtjldbbcdhdfliaaGreatDoor
open Go.RowKit

theorem assert_wrong (i : Int) (w : World) : (Instr.typeAssert (.iface 164 (.int .i64 i)) 20 164 true).run Tryz.prog w = .ok (.tuple #[.int .i64 i, .bool true]) w := by kernel_rfl

set_option maxRecDepth 100000 in
set_option maxHeartbeats 1000000 in
theorem catch_wrong (bv ba be : Nat) (i : Nat) (older : List PanicEntry) (w : World) (v0 v1 v2 v3 v4 : Value) (hx : Bx w bv 27 v0 v1 v2) (c3 : w.cell? ⟨ba, 0, none⟩ = some v3) (f3 : w.frozen? ⟨ba, 0, none⟩ = false) (c4 : w.cell? ⟨be, 0, none⟩ = some v4) (f4 : w.frozen? ⟨be, 0, none⟩ = false) (h1 : ¬ ba = bv) (h2 : ¬ be = bv) (h3 : ¬ be = ba) :
  CallsD Tryz.prog 101 #[.pointer (some ⟨bv, 0, none⟩), .pointer (some ⟨ba, 0, none⟩), .pointer (some ⟨be, 0, none⟩)] (.panicking ({ v := .iface 164 (.int .i64 i), recovered := false } :: older)) w fun e u' w' =>
   e = .returned (.tuple #[]) ∧ u' = .panicking ({ v := .iface 164 (.int .i64 i), recovered := true } :: older) ∧ w' = ((((w.setCell ⟨bv, 0, none⟩ (.int .i64 0)).setCell ⟨bv, 1, none⟩ (.int .i64 0)).setCell ⟨bv, 2, none⟩ (.slice none 0 0)).setCell ⟨ba, 0, none⟩ (.int .i64 i)).setCell ⟨be, 0, none⟩ (.int .i64 50) := by
 have q0 := hx.c0
 have q1 := hx.c1
 have q2 := hx.c2
 have qf := hx.fz
 clear hx
 refine callsD_of_wpS Tryz.func101 rfl fun c₀ cs hu => ?_
 apply wpS_seq
 apply wpS_region
 simp [wpOpsS, go_sem, recoverD, hu, Tryz.ntmps101, Exit.thenS]
 refine wpS_of_wp ?_
 simp only [Array.replicate_succ, Array.replicate_zero, List.push_toArray, List.append_toArray, List.nil_append, List.cons_append, List.setIfInBounds_toArray, List.set_cons_succ, List.set_cons_zero]
 have hta := fun wx => assert_wrong i wx
 go_wp2_with fail
 simp [bodyPostS, results, Tryz.results101]

set_option maxRecDepth 100000 in
set_option maxHeartbeats 1000000 in
theorem catch_none (bv ba be : Nat) (w : World) :
  CallsD Tryz.prog 101 #[.pointer (some ⟨bv, 0, none⟩), .pointer (some ⟨ba, 0, none⟩), .pointer (some ⟨be, 0, none⟩)] .returning w fun e u' w' =>
   e = .returned (.tuple #[]) ∧ u' = .returning ∧ w' = w := by
 refine callsD_of_wpS Tryz.func101 rfl fun c₀ cs hu => ?_
 apply wpS_seq
 apply wpS_region
 simp [wpOpsS, go_sem, recoverD, hu, Tryz.ntmps101, Exit.thenS]
 refine wpS_of_wp ?_
 simp only [Array.replicate_succ, Array.replicate_zero, List.push_toArray, List.append_toArray, List.nil_append, List.cons_append, List.setIfInBounds_toArray, List.set_cons_succ, List.set_cons_zero]
 go_wp2_with fail
 cases c₀
 simp_all [bodyPostS, results, Tryz.results101]

/-- The value of a text, or where it is wrong. -/
def parse (s : ByteArray) : Except Nat VT :=
 match pVal s 256 mAny 0 0 with
 | .error j => .error j
 | .ok (t, i, _) => if i < s.size then .error i else .ok t
def ParseEnds (w : World) (r : Except Nat VT) (e : Ending) (w' : World) : Prop :=
 match r with
 | .error j => e = .returned (.tuple #[.agg #[.int .i64 0, .int .i64 0, .slice none 0 0], .int .i64 (j : Nat), .int .i64 50]) ∧ Below w.heap.size w w'
 | .ok t => ∃ v, e = .returned (.tuple #[v, .int .i64 0, .int .i64 0]) ∧ IsV (fun g => w.heap.size ≤ g ∧ g < w'.heap.size) w' t v ∧ Below w.heap.size w w'

/-- A block of one cell that is known whole. -/
def B1 (w : World) (g : Nat) (t : TypeId) (v : Value) : Prop := w.heap[g]? = some (.cells #[v] t (0, 0))
section
variable {w w' : World} {g : Nat} {t : TypeId} {v : Value}
theorem B1.lt (h : B1 w g t v) : g < w.heap.size := by
 rcases Nat.lt_or_ge g w.heap.size with hlt | hge
 ·exact hlt
 ·unfold B1 at h; rw [Array.getElem?_eq_none hge] at h; cases h
theorem B1.new (w : World) (t : TypeId) (v : Value) : B1 (w.alloc (.cells #[v] t)) w.heap.size t v := heap_alloc_new w _
theorem B1.c (h : B1 w g t v) : w.cell? ⟨g, 0, none⟩ = some v := by unfold B1 at h; simp [World.cell?, h]
theorem B1.fz (h : B1 w g t v) (o : Nat) : w.frozen? ⟨g, o, none⟩ = false := by unfold B1 at h; simp [World.frozen?, h]
theorem B1.drew (h : B1 w g t v) : B1 w.drew g t v := h
theorem B1.drewN (h : B1 w g t v) (n : Nat) : B1 (w.drewN n) g t v := h
theorem B1.alloc (h : B1 w g t v) (o : Obj) : B1 (w.alloc o) g t v := (Below.heap_alloc w o g h.lt).trans h
theorem B1.set (h : B1 w g t v) (u : Value) : B1 (w.setCell ⟨g, 0, none⟩ u) g t u := by
 unfold B1 at h ⊢
 simp [World.setCell, Array.getElem?_modify, h]
theorem B1.far (h : B1 w g t v) {q : Addr} (hq : g ≠ q.block) (u : Value) : B1 (w.setCell q u) g t v := (Below.heap_setCell w q u g hq).trans h
theorem B1.belowAll (h : B1 w g t v) (hb : Below w.heap.size w w') : B1 w' g t v := (hb.block g h.lt).trans h
theorem B1.gr {b : Nat} (h : B1 w g t v) (hb : Gr b w w') (hg : g ≠ b) : B1 w' g t v := (hb.block g h.lt (fun e => hg (by injection e))).trans h
end
theorem Gr.belowOf {b B : Nat} {w w' : World} (h : Gr b w w') (hb : B ≤ b) (hB : B ≤ w.heap.size) : Below B w w' :=
 ⟨h.os, h.tape, h.output, h.size, fun k hk => h.block k (by omega) (fun e => by injection e; omega)⟩

theorem parse_start (w : World) (s : ByteArray) (hW : HasWords w) (W0 : World) (hW0 : W0 = ((((w.alloc (.cells #[.int .i64 0, .int .i64 0, .slice none 0 0] 27)).alloc (.cells #[.int .i64 0] 3)).alloc (.cells #[.int .i64 0] 30)).alloc (.cells #[.string s, .int .i64 0, .int .i64 0] 168))) :
  Rd W0 (w.heap.size + 1 + 1 + 1) s 0 0 ∧ Bx W0 w.heap.size 27 (.int .i64 0) (.int .i64 0) (.slice none 0 0) ∧ B1 W0 (w.heap.size + 1) 3 (.int .i64 0) ∧ B1 W0 (w.heap.size + 1 + 1) 30 (.int .i64 0) ∧ Below w.heap.size w W0 ∧ HasWords W0 := by
 subst hW0
 have s1 : (w.alloc (.cells #[.int .i64 0, .int .i64 0, .slice none 0 0] 27)).heap.size = w.heap.size + 1 := by simp
 have s2 : ((w.alloc (.cells #[.int .i64 0, .int .i64 0, .slice none 0 0] 27)).alloc (.cells #[.int .i64 0] 3)).heap.size = w.heap.size + 1 + 1 := by simp
 have s3 : (((w.alloc (.cells #[.int .i64 0, .int .i64 0, .slice none 0 0] 27)).alloc (.cells #[.int .i64 0] 3)).alloc (.cells #[.int .i64 0] 30)).heap.size = w.heap.size + 1 + 1 + 1 := by simp
 refine ⟨?_, (((Bx.new w 27 _ _ _).alloc _).alloc _).alloc _, ?_, ?_, ?_, (((hW.alloc _).alloc _).alloc _).alloc _⟩
 ·have := Bx.new (((w.alloc (.cells #[.int .i64 0, .int .i64 0, .slice none 0 0] 27)).alloc (.cells #[.int .i64 0] 3)).alloc (.cells #[.int .i64 0] 30)) 168 (.string s) (.int .i64 0) (.int .i64 0)
  rw [s3] at this
  exact this
 ·have := ((B1.new (w.alloc (.cells #[.int .i64 0, .int .i64 0, .slice none 0 0] 27)) 3 (.int .i64 0)).alloc (.cells #[.int .i64 0] 30)).alloc (.cells #[.string s, .int .i64 0, .int .i64 0] 168)
  rw [s1] at this
  exact this
 ·have := (B1.new ((w.alloc (.cells #[.int .i64 0, .int .i64 0, .slice none 0 0] 27)).alloc (.cells #[.int .i64 0] 3)) 30 (.int .i64 0)).alloc (.cells #[.string s, .int .i64 0, .int .i64 0] 168)
  rw [s2] at this
  exact this
 ·exact (((below_alloc _ _).alloc (by simp) _).alloc (by simp; omega) _).alloc (by simp; omega) _

set_option maxRecDepth 100000 in
set_option maxHeartbeats 2000000 in
theorem Parse_any (s : ByteArray) (hs : s.size ≤ maxLen) (w : World) (hW : HasWords w) : Calls Tryz.prog 78 #[.string s] w (ParseEnds w (parse s)) := by
 have hs2 := hs
 unfold maxLen at hs2
 have h0 := hW.lt
 have hmf : ∀ (fn : Fn) (first cap : Array Value) (w : World), (Instr.makeFunc fn first cap).run Tryz.prog w = .ok (.func fn first cap) w := fun _ _ _ _ => rfl
 rcases hp : pVal s 256 mAny 0 0 with j | ⟨t, i, p⟩
 ·have HP := Lib.hid hp
  clear hp
  have HR : Hid (parse s = .error j) := by show _ = _; unfold parse; rw [HP.out]
  go_enter_defers Tryz.func78, Tryz.ntmps78
  go_wp2_with fail
  obtain ⟨W0, hW0⟩ : ∃ W0, W0 = ((((w.alloc (.cells #[.int .i64 0, .int .i64 0, .slice none 0 0] 27)).alloc (.cells #[.int .i64 0] 3)).alloc (.cells #[.int .i64 0] 30)).alloc (.cells #[.string s, .int .i64 0, .int .i64 0] 168)) := ⟨_, rfl⟩
  obtain ⟨hr, hx, ha, he, hbl, hW1⟩ := parse_start w s hW W0 hW0
  rw [← hW0]
  clear hW0
  have hlt := hr.lt
  refine (value_any s hs 256 mAny 103 _ 0 0 _ may_any hr (by omega) (by omega) (by omega) hW1 (by omega)).mono ?_
  rw [HP.out]
  rintro e w1 ⟨rfl, hg⟩
  have hx1 := hx.gr hg (by omega)
  have ha1 := ha.gr hg (by omega)
  have he1 := he.gr hg (by omega)
  have hb1 : Below w.heap.size w w1 := hbl.trans (hg.belowOf (by omega) hbl.size)
  show bodyPostD _ _ _ _ _ _
  refine leaves_cons (f := 101) (args := #[.pointer (some ⟨w.heap.size, 0, none⟩), .pointer (some ⟨w.heap.size + 1, 0, none⟩), .pointer (some ⟨w.heap.size + 1 + 1, 0, none⟩)]) (by simp) (by simp [go_sem]) ?_
  refine (catch_wrong w.heap.size (w.heap.size + 1) (w.heap.size + 1 + 1) j [] _ _ _ _ _ _ hx1 ha1.c (ha1.fz 0) he1.c (he1.fz 0) (by omega) (by omega) (by omega)).mono ?_
  rintro e u' w2 ⟨rfl, rfl, rfl⟩
  have hx9 := ((((hx1.set0 (.int .i64 0)).set1 (.int .i64 0)).set2 (.slice none 0 0)).far (q := ⟨w.heap.size + 1, 0, none⟩) (by simp) (.int .i64 (j : Nat))).far (q := ⟨w.heap.size + 1 + 1, 0, none⟩) (by simp; omega) (.int .i64 50)
  have ha9 := (((((ha1.far (q := ⟨w.heap.size, 0, none⟩) (by simp) (.int .i64 0)).far (q := ⟨w.heap.size, 1, none⟩) (by simp) (.int .i64 0)).far (q := ⟨w.heap.size, 2, none⟩) (by simp) (.slice none 0 0)).set (.int .i64 (j : Nat))).far (q := ⟨w.heap.size + 1 + 1, 0, none⟩) (by simp) (.int .i64 50))
  have he9 := (((((he1.far (q := ⟨w.heap.size, 0, none⟩) (by simp; omega) (.int .i64 0)).far (q := ⟨w.heap.size, 1, none⟩) (by simp; omega) (.int .i64 0)).far (q := ⟨w.heap.size, 2, none⟩) (by simp; omega) (.slice none 0 0)).far (q := ⟨w.heap.size + 1, 0, none⟩) (by simp) (.int .i64 (j : Nat))).set (.int .i64 50))
  refine ⟨.tuple #[.agg #[.int .i64 0, .int .i64 0, .slice none 0 0], .int .i64 (j : Nat), .int .i64 50], by simp [results, Tryz.results78, go_sem, hx9.c0, hx9.c1, hx9.c2, ha9.c, he9.c], ?_⟩
  rw [HR.out]
  exact ⟨rfl, (((((hb1.setCell (p := ⟨w.heap.size, 0, none⟩) (Nat.le_refl _) _).setCell (p := ⟨w.heap.size, 1, none⟩) (Nat.le_refl _) _).setCell (p := ⟨w.heap.size, 2, none⟩) (Nat.le_refl _) _).setCell (p := ⟨w.heap.size + 1, 0, none⟩) (by simp) _).setCell (p := ⟨w.heap.size + 1 + 1, 0, none⟩) (by simp; omega) _)⟩
 ·have HP := Lib.hid hp
  have hgo := pVal_goes s 256 mAny 0 0 t i p (by omega) (by omega) hp
  clear hp
  by_cases hi : i < s.size
  ·have HR : Hid (parse s = .error i) := by show _ = _; unfold parse; rw [HP.out]; simp only; rw [if_pos hi]
   go_enter_defers Tryz.func78, Tryz.ntmps78
   go_wp2_with fail
   obtain ⟨W0, hW0⟩ : ∃ W0, W0 = ((((w.alloc (.cells #[.int .i64 0, .int .i64 0, .slice none 0 0] 27)).alloc (.cells #[.int .i64 0] 3)).alloc (.cells #[.int .i64 0] 30)).alloc (.cells #[.string s, .int .i64 0, .int .i64 0] 168)) := ⟨_, rfl⟩
   obtain ⟨hr, hx, ha, he, hbl, hW1⟩ := parse_start w s hW W0 hW0
   rw [← hW0]
   clear hW0
   have hlt := hr.lt
   refine (value_any s hs 256 mAny 103 _ 0 0 _ may_any hr (by omega) (by omega) (by omega) hW1 (by omega)).mono ?_
   rw [HP.out]
   rintro e w1 ⟨v1, rfl, hv1, hr1, hg⟩
   obtain ⟨k1, n1, a1, l1, c1, rfl⟩ := hv1.form
   have hx1 := hx.gr hg (by omega)
   have ha1 := ha.gr hg (by omega)
   have he1 := he.gr hg (by omega)
   have hb1 : Below w.heap.size w w1 := hbl.trans (hg.belowOf (by omega) hbl.size)
   have q0 := hx1.c0
   have q1 := hx1.c1
   have q2 := hx1.c2
   have qf := hx1.fz
   have d1 := hr1.c1
   have hr2 := ((hr1.far (q := ⟨w.heap.size, 0, none⟩) (by simp; omega) (.int .i64 k1)).far (q := ⟨w.heap.size, 1, none⟩) (by simp; omega) (.int .i64 n1)).far (q := ⟨w.heap.size, 2, none⟩) (by simp; omega) (.slice a1 l1 c1)
   have hx2 := ((hx1.set0 (.int .i64 k1)).set1 (.int .i64 n1)).set2 (.slice a1 l1 c1)
   have ha2 := ((ha1.far (q := ⟨w.heap.size, 0, none⟩) (by simp) (.int .i64 k1)).far (q := ⟨w.heap.size, 1, none⟩) (by simp) (.int .i64 n1)).far (q := ⟨w.heap.size, 2, none⟩) (by simp) (.slice a1 l1 c1)
   have he2 := ((he1.far (q := ⟨w.heap.size, 0, none⟩) (by simp; omega) (.int .i64 k1)).far (q := ⟨w.heap.size, 1, none⟩) (by simp; omega) (.int .i64 n1)).far (q := ⟨w.heap.size, 2, none⟩) (by simp; omega) (.slice a1 l1 c1)
   have hb2 := ((hb1.setCell (p := ⟨w.heap.size, 0, none⟩) (Nat.le_refl _) (.int .i64 k1)).setCell (p := ⟨w.heap.size, 1, none⟩) (Nat.le_refl _) (.int .i64 n1)).setCell (p := ⟨w.heap.size, 2, none⟩) (Nat.le_refl _) (.slice a1 l1 c1)
   have d2 := hr2.c1
   go_wp2_with fail
   refine (fail_any _ i _ d2).mono ?_
   rintro e w2 ⟨rfl, rfl⟩
   show bodyPostD _ _ _ _ _ _
   refine leaves_cons (f := 101) (args := #[.pointer (some ⟨w.heap.size, 0, none⟩), .pointer (some ⟨w.heap.size + 1, 0, none⟩), .pointer (some ⟨w.heap.size + 1 + 1, 0, none⟩)]) (by simp) (by simp [go_sem]) ?_
   refine (catch_wrong w.heap.size (w.heap.size + 1) (w.heap.size + 1 + 1) i [] _ _ _ _ _ _ hx2 ha2.c (ha2.fz 0) he2.c (he2.fz 0) (by omega) (by omega) (by omega)).mono ?_
   rintro e u' w2 ⟨rfl, rfl, rfl⟩
   have hx9 := ((((hx2.set0 (.int .i64 0)).set1 (.int .i64 0)).set2 (.slice none 0 0)).far (q := ⟨w.heap.size + 1, 0, none⟩) (by simp) (.int .i64 (i : Nat))).far (q := ⟨w.heap.size + 1 + 1, 0, none⟩) (by simp; omega) (.int .i64 50)
   have ha9 := (((((ha2.far (q := ⟨w.heap.size, 0, none⟩) (by simp) (.int .i64 0)).far (q := ⟨w.heap.size, 1, none⟩) (by simp) (.int .i64 0)).far (q := ⟨w.heap.size, 2, none⟩) (by simp) (.slice none 0 0)).set (.int .i64 (i : Nat))).far (q := ⟨w.heap.size + 1 + 1, 0, none⟩) (by simp) (.int .i64 50))
   have he9 := (((((he2.far (q := ⟨w.heap.size, 0, none⟩) (by simp; omega) (.int .i64 0)).far (q := ⟨w.heap.size, 1, none⟩) (by simp; omega) (.int .i64 0)).far (q := ⟨w.heap.size, 2, none⟩) (by simp; omega) (.slice none 0 0)).far (q := ⟨w.heap.size + 1, 0, none⟩) (by simp) (.int .i64 (i : Nat))).set (.int .i64 50))
   refine ⟨.tuple #[.agg #[.int .i64 0, .int .i64 0, .slice none 0 0], .int .i64 (i : Nat), .int .i64 50], by simp [results, Tryz.results78, go_sem, hx9.c0, hx9.c1, hx9.c2, ha9.c, he9.c], ?_⟩
   rw [HR.out]
   exact ⟨rfl, (((((hb2.setCell (p := ⟨w.heap.size, 0, none⟩) (Nat.le_refl _) _).setCell (p := ⟨w.heap.size, 1, none⟩) (Nat.le_refl _) _).setCell (p := ⟨w.heap.size, 2, none⟩) (Nat.le_refl _) _).setCell (p := ⟨w.heap.size + 1, 0, none⟩) (by simp) _).setCell (p := ⟨w.heap.size + 1 + 1, 0, none⟩) (by simp; omega) _)⟩
  ·have HR : Hid (parse s = .ok t) := by show _ = _; unfold parse; rw [HP.out]; simp only; rw [if_neg hi]
   go_enter_defers Tryz.func78, Tryz.ntmps78
   go_wp2_with fail
   obtain ⟨W0, hW0⟩ : ∃ W0, W0 = ((((w.alloc (.cells #[.int .i64 0, .int .i64 0, .slice none 0 0] 27)).alloc (.cells #[.int .i64 0] 3)).alloc (.cells #[.int .i64 0] 30)).alloc (.cells #[.string s, .int .i64 0, .int .i64 0] 168)) := ⟨_, rfl⟩
   obtain ⟨hr, hx, ha, he, hbl, hW1⟩ := parse_start w s hW W0 hW0
   rw [← hW0]
   clear hW0
   have hlt := hr.lt
   refine (value_any s hs 256 mAny 103 _ 0 0 _ may_any hr (by omega) (by omega) (by omega) hW1 (by omega)).mono ?_
   rw [HP.out]
   rintro e w1 ⟨v1, rfl, hv1, hr1, hg⟩
   obtain ⟨k1, n1, a1, l1, c1, rfl⟩ := hv1.form
   have hx1 := hx.gr hg (by omega)
   have ha1 := ha.gr hg (by omega)
   have he1 := he.gr hg (by omega)
   have hb1 : Below w.heap.size w w1 := hbl.trans (hg.belowOf (by omega) hbl.size)
   have q0 := hx1.c0
   have q1 := hx1.c1
   have q2 := hx1.c2
   have qf := hx1.fz
   have d1 := hr1.c1
   have qa := ha1.c
   have qaf := ha1.fz 0
   have qe := he1.c
   have qef := he1.fz 0
   go_wp2_with fail
   have hx9 := (((((((hx1.set0 (.int .i64 k1)).set1 (.int .i64 n1)).set2 (.slice a1 l1 c1)).set0 (.int .i64 k1)).set1 (.int .i64 n1)).set2 (.slice a1 l1 c1)).far (q := ⟨w.heap.size + 1, 0, none⟩) (by simp) (.int .i64 0)).far (q := ⟨w.heap.size + 1 + 1, 0, none⟩) (by simp; omega) (.int .i64 0)
   have ha9 := (((((((ha1.far (q := ⟨w.heap.size, 0, none⟩) (by simp) (.int .i64 k1)).far (q := ⟨w.heap.size, 1, none⟩) (by simp) (.int .i64 n1)).far (q := ⟨w.heap.size, 2, none⟩) (by simp) (.slice a1 l1 c1)).far (q := ⟨w.heap.size, 0, none⟩) (by simp) (.int .i64 k1)).far (q := ⟨w.heap.size, 1, none⟩) (by simp) (.int .i64 n1)).far (q := ⟨w.heap.size, 2, none⟩) (by simp) (.slice a1 l1 c1)).set (.int .i64 0)).far (q := ⟨w.heap.size + 1 + 1, 0, none⟩) (by simp) (.int .i64 0)
   have he9 := (((((((he1.far (q := ⟨w.heap.size, 0, none⟩) (by simp; omega) (.int .i64 k1)).far (q := ⟨w.heap.size, 1, none⟩) (by simp; omega) (.int .i64 n1)).far (q := ⟨w.heap.size, 2, none⟩) (by simp; omega) (.slice a1 l1 c1)).far (q := ⟨w.heap.size, 0, none⟩) (by simp; omega) (.int .i64 k1)).far (q := ⟨w.heap.size, 1, none⟩) (by simp; omega) (.int .i64 n1)).far (q := ⟨w.heap.size, 2, none⟩) (by simp; omega) (.slice a1 l1 c1)).far (q := ⟨w.heap.size + 1, 0, none⟩) (by simp) (.int .i64 0)).set (.int .i64 0)
   have hb9 := (((((((hb1.setCell (p := ⟨w.heap.size, 0, none⟩) (Nat.le_refl _) (.int .i64 k1)).setCell (p := ⟨w.heap.size, 1, none⟩) (Nat.le_refl _) (.int .i64 n1)).setCell (p := ⟨w.heap.size, 2, none⟩) (Nat.le_refl _) (.slice a1 l1 c1)).setCell (p := ⟨w.heap.size, 0, none⟩) (Nat.le_refl _) (.int .i64 k1)).setCell (p := ⟨w.heap.size, 1, none⟩) (Nat.le_refl _) (.int .i64 n1)).setCell (p := ⟨w.heap.size, 2, none⟩) (Nat.le_refl _) (.slice a1 l1 c1)).setCell (p := ⟨w.heap.size + 1, 0, none⟩) (by simp) (.int .i64 0)).setCell (p := ⟨w.heap.size + 1 + 1, 0, none⟩) (by simp; omega) (.int .i64 0)
   refine leaves_cons (f := 101) (args := #[.pointer (some ⟨w.heap.size, 0, none⟩), .pointer (some ⟨w.heap.size + 1, 0, none⟩), .pointer (some ⟨w.heap.size + 1 + 1, 0, none⟩)]) (by simp) (by simp [go_sem]) ?_
   refine (catch_none w.heap.size (w.heap.size + 1) (w.heap.size + 1 + 1) _).mono ?_
   rintro e u' w2 ⟨rfl, rfl, rfl⟩
   refine ⟨.tuple #[.agg #[.int .i64 k1, .int .i64 n1, .slice a1 l1 c1], .int .i64 0, .int .i64 0], by simp [results, Tryz.results78, go_sem, hx9.c0, hx9.c1, hx9.c2, ha9.c, he9.c], ?_⟩
   rw [HR.out]
   refine ⟨_, rfl, (hv1.keep ?_).more ?_, hb9⟩
   ·intro g hg o
    refine World.cell?_of_block (w := w1) ?_
    rw [Below.heap_setCell _ _ _ _ (by simp; omega), Below.heap_setCell _ _ _ _ (by simp; omega), Below.heap_setCell _ _ _ _ (by simp; omega), Below.heap_setCell _ _ _ _ (by simp; omega), Below.heap_setCell _ _ _ _ (by simp; omega), Below.heap_setCell _ _ _ _ (by simp; omega), Below.heap_setCell _ _ _ _ (by simp; omega), Below.heap_setCell _ _ _ _ (by simp; omega)]
   ·intro g hg
    exact ⟨by omega, by simpa [World.setCell] using hg.2⟩
end Go.Proofs.YtjldbbcdhdfliaaGreatDoor
/-
 Walks over package valtext's Word and Kind, and the reference's.
-/
namespace Go.Proofs.YtjldbbcdhdfliaaGreatDoor
open Go.RowKit

def hasW (k : Int) : Bool := decide (1 ≤ k) && decide (k ≤ 13) && !decide (k = 2)
def wordT (k : Int) : ByteArray := if hasW k then wdB k.toNat else ⟨#[]⟩
theorem word_cell {w : World} (hW : HasWords w) (j : Nat) (hj : j < 14) : w.cell? ⟨0, j, none⟩ = some (.string (wdB j)) := by
 obtain ⟨t, fr, hx⟩ := hW
 have h : j = 0 ∨ j = 1 ∨ j = 2 ∨ j = 3 ∨ j = 4 ∨ j = 5 ∨ j = 6 ∨ j = 7 ∨ j = 8 ∨ j = 9 ∨ j = 10 ∨ j = 11 ∨ j = 12 ∨ j = 13 := by omega
 simp only [World.cell?, hx]
 rcases h with rfl | rfl | rfl | rfl | rfl | rfl | rfl | rfl | rfl | rfl | rfl | rfl | rfl | rfl <;> rfl

/-! The reference's. -/
theorem refwords_any (w : World) : Calls Tryz.prog 118 #[] w fun e w' => e = .returned (.slice (some ⟨w.heap.size, 0, none⟩) 14 14) ∧ w' = w.alloc (.cells wordCells 9) := by
 go_enter Tryz.func118, Tryz.ntmps118
 go_wp2_with fail
 go_ret
 exact ⟨rfl, rfl⟩

set_option maxHeartbeats 1000000 in
theorem refWord_any (k : Int) (w : World) :
  Calls Tryz.prog 134 #[.int .i64 k] w fun e w' => e = .returned (.tuple #[.string (wordT k), .bool (hasW k)]) ∧ Below w.heap.size w w' := by
 by_cases h1 : k < 1
 ·have HF : Hid (hasW k = false) := by show _ = _; simp [hasW]; omega
  go_enter Tryz.func134, Tryz.ntmps134
  go_wp2_with fail
  go_ret2
  exact ⟨by rw [wordT, HF.out]; rfl, Below.refl _ _⟩
 ·by_cases h13 : 13 < k
  ·have HF : Hid (hasW k = false) := by show _ = _; simp [hasW]; omega
   go_enter Tryz.func134, Tryz.ntmps134
   go_wp2_with fail
   go_ret2
   exact ⟨by rw [wordT, HF.out]; rfl, Below.refl _ _⟩
  ·by_cases h2 : k = 2
   ·subst h2
    go_enter Tryz.func134, Tryz.ntmps134
    go_wp2_with fail
    go_ret2
    exact ⟨rfl, Below.refl _ _⟩
   ·obtain ⟨j, rfl⟩ := Int.eq_ofNat_of_zero_le (show 0 ≤ k by omega)
    have e2 : ((j : Int) == 2) = false := by rw [beq_eq_false_iff_ne]; exact h2
    have HH : Hid (hasW j = true) := by show _ = _; simp [hasW]; omega
    have hc : (w.alloc (.cells wordCells 9)).cell? ⟨w.heap.size, j, none⟩ = some (.string (wdB j)) := by
     have h : j = 0 ∨ j = 1 ∨ j = 2 ∨ j = 3 ∨ j = 4 ∨ j = 5 ∨ j = 6 ∨ j = 7 ∨ j = 8 ∨ j = 9 ∨ j = 10 ∨ j = 11 ∨ j = 12 ∨ j = 13 := by omega
     rw [World.cell?_alloc_new]
     rcases h with rfl | rfl | rfl | rfl | rfl | rfl | rfl | rfl | rfl | rfl | rfl | rfl | rfl | rfl <;> rfl
    go_enter Tryz.func134, Tryz.ntmps134
    go_wp2_with fail
    refine (refwords_any _).mono ?_
    rintro e w1 ⟨rfl, rfl⟩
    go_wp2_with fail
    go_ret2
    exact ⟨by rw [wordT, HH.out]; rfl, below_alloc _ _⟩
end Go.Proofs.YtjldbbcdhdfliaaGreatDoor
