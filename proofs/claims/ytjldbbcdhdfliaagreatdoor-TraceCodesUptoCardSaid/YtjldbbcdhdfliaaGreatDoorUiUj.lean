/-
 Walks over the reference of layer 23: Right. Printed by gen_ui.py.
-/
import Derived.Test.YtjldbbcdhdfliaaGreatDoorNnNe
import Derived.Test.YtjldbbcdhdfliaaGreatDoorTj
import Derived.Test.YtjldbbcdhdfliaaGreatDoorSiz
import Derived.Test.YtjldbbcdhdfliaaGreatDoorToTp
import Derived.Lib.QuietBelow
import Derived.Deep.QuietTactic
import Derived.BigQuiet
namespace Go.Proofs.YtjldbbcdhdfliaaGreatDoor
open Go.RowKit Go.Sort

theorem nm_at {W : World} {g : Nat} {k : Int} (h : W.heap[g]? = some (.cells (nmC k) 85 (0, 0))) {i : Nat} (hi : i < 5) : W.cell? ⟨g, i, none⟩ = some (.bool (decide (i ∈ rowE k))) := by
 match i, hi with
 | 0, _ | 1, _ | 2, _ | 3, _ | 4, _ => simp [World.cell?, h, nmC]
theorem nu_at {W : World} {g : Nat} {x : Ev} (h : W.heap[g]? = some (.cells #[.int .i64 x.sy, .int .i64 x.br, .int .i64 x.pa, .int .i64 x.n] 87 (0, 0))) {i : Nat} (hi : i < 4) : W.cell? ⟨g, i, none⟩ = some (.int .i64 (x.fld i)) := by
 match i, hi with
 | 0, _ | 1, _ | 2, _ | 3, _ => simp [World.cell?, h, Ev.fld]
theorem okI_fld {x : Ev} {i : Nat} (hi : i < 4) : okI x i = if decide (i ∈ rowE x.k) then decide (leastE i ≤ x.fld i) else decide (x.fld i = 0) := by
 match i, hi with
 | 0, _ | 1, _ | 2, _ | 3, _ => rfl
theorem right_last {x : Ev} (hk : hasE x.k = true) (h1 : ¬ x.st < 0) (h2 : ¬ x.th < 0) (h : ∀ i, i < 4 → okI x i = true) : rightE x = vOk (lsB x.k 4) x.v := by
 unfold rightE
 rw [hk, show fldOk x 0 = true from h 0 (by omega), show fldOk x 1 = true from h 1 (by omega), show fldOk x 2 = true from h 2 (by omega), show fldOk x 3 = true from h 3 (by omega)]
 have e1 : decide (0 ≤ x.st) = true := by simp; omega
 have e2 : decide (0 ≤ x.th) = true := by simp; omega
 rw [e1, e2]
 simp
theorem right_head {x : Ev} (h : x.k < 1 ∨ 9 < x.k ∨ x.st < 0 ∨ x.th < 0) : rightE x = false := by
 unfold rightE
 rcases h with h | h | h | h
 ·have : hasE x.k = false := by unfold hasE; simp; omega
  rw [this]; simp
 ·have : hasE x.k = false := by unfold hasE; simp; omega
  rw [this]; simp
 ·have : decide (0 ≤ x.st) = false := by simp; omega
  rw [this]; simp
 ·have : decide (0 ≤ x.th) = false := by simp; omega
  rw [this]; simp
theorem nnR_shape : Shape (ropsOf Tryz.f45 4) nnRK nnRE := ⟨by kernel_rfl, by kernel_rfl⟩
theorem val_form {ok : Nat → Prop} {w : World} {k n kk nn : Int} {l : List VT} {aa : Option Addr} {len cap : Nat} (h : IsV ok w (.mk k n l) (.agg #[.int .i64 kk, .int .i64 nn, .slice aa len cap])) : kk = k ∧ nn = n ∧ len = l.length := by
 rw [IsV] at h
 obtain ⟨a, c, he, _⟩ := h
 simp only [Value.agg.injEq, Array.mk.injEq, List.cons.injEq, Value.int.injEq, Value.slice.injEq, true_and, and_true] at he
 obtain ⟨rfl, rfl, rfl, rfl, rfl⟩ := he
 exact ⟨rfl, rfl, rfl⟩
set_option maxRecDepth 100000 in
set_option maxHeartbeats 8000000 in
theorem rRightE_any (x : Ev) (v : Value) (w : World) (hx : IsE (· < w.heap.size) w x v) (hnd : nd x.v ≤ 2000000) : Calls Tryz.prog 45 #[v] w fun e w' => e = .returned (.bool (rightE x)) ∧ Below w.heap.size w w' := by
 obtain ⟨kk, nn, a, len, cap, rfl, hv, hrg⟩ := hx
 obtain ⟨R, hR⟩ : ∃ R, rightE x = R := ⟨_, rfl⟩
 have HR := Lib.hid hR
 rw [hR]
 clear hR
 have hb1 := below_alloc w (.cells (evC x kk nn a len cap) 29)
 have hbe : BE (w.alloc (.cells (evC x kk nn a len cap) 29)) w.heap.size (evC x kk nn a len cap) := heap_alloc_new _ _
 have hv1 := hv.later hb1
 unfold evC at hb1 hbe hv1 ⊢
 clear hv hrg
 by_cases hbad : x.k < 1 ∨ 9 < x.k ∨ x.st < 0 ∨ x.th < 0
 ·have e : R = false := by rw [← HR.out]; exact right_head hbad
  subst e
  by_cases h1 : x.k < 1
  case' pos =>
   have hd1 : decide (x.k < 1) = true := by simpa using h1
   clear hbad h1
  case' neg =>
   have hd1 : decide (x.k < 1) = false := by simpa using h1
   by_cases h2 : 9 < x.k
   case' pos =>
    have hd2 : decide (9 < x.k) = true := by simpa using h2
    clear hbad h1 h2
   case' neg =>
    have hd2 : decide (9 < x.k) = false := by simpa using h2
    by_cases h3 : x.st < 0
    case' pos =>
     have hd3 : decide (x.st < 0) = true := by simpa using h3
     clear hbad h1 h2 h3
    case' neg =>
     have hd3 : decide (x.st < 0) = false := by simpa using h3
     have hd4 : decide (x.th < 0) = true := by simp; omega
     clear hbad h1 h2 h3
  all_goals
   go_enter Tryz.func45, Tryz.ntmps45
   go_upto_region 1 with fail
   generalize w.alloc (.cells #[.int .i64 x.k, .int .i64 x.st, .int .i64 x.th, .int .i64 x.sy, .int .i64 x.br, .int .i64 x.pa, .int .i64 x.n, .int .i64 kk, .int .i64 nn, .slice a len cap] 29) = w1 at *
   obtain ⟨c0, c1, c2, c3, c4, c5, c6, c7, c8, c9⟩ := hbe.c
   go_wp2_with fail
   go_ret
   exact ⟨rfl, hb1⟩
 ·have hk : hasE x.k = true := by unfold hasE; simp; omega
  have h1 : ¬ x.st < 0 := by omega
  have h2 : ¬ x.th < 0 := by omega
  have hd1 : decide (x.k < 1) = false := by simp; omega
  have hd2 : decide (9 < x.k) = false := by simp; omega
  have hd3 : decide (x.st < 0) = false := by simp; omega
  have hd4 : decide (x.th < 0) = false := by simp; omega
  have HLAST := Lib.hid (fun h => right_last hk h1 h2 h)
  clear hbad hk h1 h2
  go_enter Tryz.func45, Tryz.ntmps45
  go_upto_region 1 with fail
  generalize w.alloc (.cells #[.int .i64 x.k, .int .i64 x.st, .int .i64 x.th, .int .i64 x.sy, .int .i64 x.br, .int .i64 x.pa, .int .i64 x.n, .int .i64 kk, .int .i64 nn, .slice a len cap] 29) = w1 at *
  obtain ⟨c0, c1, c2, c3, c4, c5, c6, c7, c8, c9⟩ := hbe.c
  go_upto_region 4 with fail
  clear c0 c1 c2 c3 c4 c5 c6 c7 c8 c9 hd1 hd2 hd3 hd4
  refine nnR_region (x := x) (kk := kk) (nn := nn) (al := a) (ll := len) (cl := cap) (xb := w.heap.size) nnR_shape (by simp) rfl rfl hbe ?_
  intro a3 w3 g4 g5 hU h4 h5 hz4 hz5 hm4 hm5 hb3
  obtain ⟨us, hus, rfl⟩ := hU.list (by simp)
  obtain ⟨x0, us0, e0, hus0⟩ := list_cons4 hus
  subst e0
  obtain ⟨x1, us1, e1, hus1⟩ := list_cons4 hus0
  subst e1
  obtain ⟨x2, us2, e2, hus2⟩ := list_cons4 hus1
  subst e2
  obtain ⟨x3, us3, e3, hus3⟩ := list_cons4 hus2
  subst e3
  obtain ⟨x4, us4, e4, hus4⟩ := list_cons4 hus3
  subst e4
  obtain ⟨x5, us5, e5, hus5⟩ := list_cons4 hus4
  subst e5
  obtain ⟨x6, us6, e6, hus6⟩ := list_cons4 hus5
  subst e6
  obtain ⟨x7, us7, e7, hus7⟩ := list_cons4 hus6
  subst e7
  obtain ⟨x8, us8, e8, hus8⟩ := list_cons4 hus7
  subst e8
  obtain ⟨x9, us9, e9, hus9⟩ := list_cons4 hus8
  subst e9
  obtain ⟨x10, us10, e10, hus10⟩ := list_cons4 hus9
  subst e10
  obtain ⟨x11, us11, e11, hus11⟩ := list_cons4 hus10
  subst e11
  obtain ⟨x12, us12, e12, hus12⟩ := list_cons4 hus11
  subst e12
  obtain ⟨x13, us13, e13, hus13⟩ := list_cons4 hus12
  subst e13
  obtain ⟨x14, us14, e14, hus14⟩ := list_cons4 hus13
  subst e14
  obtain ⟨x15, us15, e15, hus15⟩ := list_cons4 hus14
  subst e15
  obtain ⟨x16, us16, e16, hus16⟩ := list_cons4 hus15
  subst e16
  obtain ⟨x17, us17, e17, hus17⟩ := list_cons4 hus16
  subst e17
  obtain ⟨x18, us18, e18, hus18⟩ := list_cons4 hus17
  subst e18
  obtain ⟨x19, us19, e19, hus19⟩ := list_cons4 hus18
  subst e19
  obtain ⟨x20, us20, e20, hus20⟩ := list_cons4 hus19
  subst e20
  obtain ⟨x21, us21, e21, hus21⟩ := list_cons4 hus20
  subst e21
  obtain ⟨x22, us22, e22, hus22⟩ := list_cons4 hus21
  subst e22
  obtain ⟨x23, us23, e23, hus23⟩ := list_cons4 hus22
  subst e23
  obtain ⟨x24, us24, e24, hus24⟩ := list_cons4 hus23
  subst e24
  obtain ⟨x25, us25, e25, hus25⟩ := list_cons4 hus24
  subst e25
  have en := List.eq_nil_of_length_eq_zero hus25
  subst en
  have e40 : x0 = .pointer (some ⟨g4, 0, none⟩) := h4
  have e50 : x1 = .pointer (some ⟨g5, 0, none⟩) := h5
  subst e40 e50
  simp only [List.take_succ_cons, List.take_zero, List.drop_succ_cons, List.drop_zero, List.cons_append, List.nil_append]
  clear hU h4 h5 hus hus0 hus1 hus2 hus3 hus4 hus5 hus6 hus7 hus8 hus9 hus10 hus11 hus12 hus13 hus14 hus15 hus16 hus17 hus18 hus19 hus20 hus21 hus22 hus23 hus24 hus25
  have hbe3 := BE.belowAll hbe hb3
  have hv3 := hv1.later hb3
  have hbw := hb1.trans (hb3.mono hb1.size)
  have HM4 := Lib.hid hm4
  have HM5 := Lib.hid hm5
  clear hbe hv1 hb1 hb3 hm4 hm5 hz4 hz5
  go_wp2_with fail
  go_loop [6] (fun i => ∃ j : Nat, i = .int .i64 (j : Nat) ∧ j ≤ 4 ∧ ∀ m, m < j → okI x m = true) (fun i => 4 - (intOf i).toNat)
  case atStart => exact ⟨0, rfl, by omega, fun m hm => by omega⟩
  case round =>
   obtain ⟨j, rfl, hj, hok⟩ := hrel
   have HOK := Lib.hid hok
   clear hok
   by_cases hlt : j < 4
   ·have hd1 : decide ((j : Int) < 4) = true := by simp; omega
    have hj5 : j < 5 := by omega
    have hj5' : (j : Int) < 5 := by omega
    have hj4 : (j : Int) < 4 := by omega
    have cn := nm_at HM4.out hj5
    have cl := nu_at HM5.out hlt
    have HO := Lib.hid (okI_fld (x := x) hlt)
    obtain ⟨bn, hbn⟩ : ∃ b, decide (j ∈ rowE x.k) = b := ⟨_, rfl⟩
    obtain ⟨F, hF⟩ : ∃ F, x.fld j = F := ⟨_, rfl⟩
    have HO2 : Hid (okI x j = if bn then decide (leastE j ≤ F) else decide (F = 0)) := by
     show _ = _
     rw [HO.out, hbn, hF]
    rw [hbn] at cn
    rw [hF] at cl
    clear hbn hF HO
    by_cases h2 : j = 2
    ·subst h2
     have HL : leastE 2 = -1 := rfl
     have HLL := Lib.hid HL
     clear HL
     cases bn
     ·by_cases hF0 : F = 0
      ·have hq : (F != 0) = false := by simpa using hF0
       have HNX : Hid (okI x 2 = true) := by show _ = _; rw [HO2.out]; simp [hF0]
       clear hF0
       go_wp2_with fail
       go_round
       case rel => exact ⟨2 + 1, by go_num, by omega, ok_succ HOK.out HNX.out⟩
       case measure => simp [intOf]
      ·have hq : (F != 0) = true := by simpa using hF0
       have e : R = false := by rw [← HR.out]; exact right_no (i := 2) (by omega) (by rw [HO2.out]; simp [hF0])
       subst e
       clear hF0
       go_wp2_with fail
       go_ret
       exact ⟨rfl, hbw⟩
     ·by_cases hFl : F < -1
      ·have hq : decide (F < -1) = true := by simpa using hFl
       have e : R = false := by rw [← HR.out]; exact right_no (i := 2) (by omega) (by rw [HO2.out, HLL.out]; simp; omega)
       subst e
       clear hFl
       go_wp2_with fail
       go_ret
       exact ⟨rfl, hbw⟩
      ·have hq : decide (F < -1) = false := by simpa using hFl
       have HNX : Hid (okI x 2 = true) := by show _ = _; rw [HO2.out, HLL.out]; simp; omega
       clear hFl
       go_wp2_with fail
       go_round
       case rel => exact ⟨2 + 1, by go_num, by omega, ok_succ HOK.out HNX.out⟩
       case measure => simp [intOf]
    ·have hd2 : ((j : Int) == 2) = false := by simp; omega
     have HLL : Hid (leastE j = 0) := by show _ = _; unfold leastE; rw [if_neg h2]
     cases bn
     ·by_cases hF0 : F = 0
      ·have hq : (F != 0) = false := by simpa using hF0
       have HNX : Hid (okI x j = true) := by show _ = _; rw [HO2.out]; simp [hF0]
       clear hF0
       go_wp2_with fail
       go_round
       case rel => exact ⟨j + 1, by go_num, by omega, ok_succ HOK.out HNX.out⟩
       case measure => simp [intOf]; omega
      ·have hq : (F != 0) = true := by simpa using hF0
       have e : R = false := by rw [← HR.out]; exact right_no (i := j) (by omega) (by rw [HO2.out]; simp [hF0])
       subst e
       clear hF0
       go_wp2_with fail
       go_ret
       exact ⟨rfl, hbw⟩
     ·by_cases hFl : F < 0
      ·have hq : decide (F < 0) = true := by simpa using hFl
       have e : R = false := by rw [← HR.out]; exact right_no (i := j) (by omega) (by rw [HO2.out, HLL.out]; simp; omega)
       subst e
       clear hFl
       go_wp2_with fail
       go_ret
       exact ⟨rfl, hbw⟩
      ·have hq : decide (F < 0) = false := by simpa using hFl
       have HNX : Hid (okI x j = true) := by show _ = _; rw [HO2.out, HLL.out]; simp; omega
       clear hFl
       go_wp2_with fail
       go_round
       case rel => exact ⟨j + 1, by go_num, by omega, ok_succ HOK.out HNX.out⟩
       case measure => simp [intOf]; omega
   ·obtain rfl : j = 4 := by omega
    have hd1 : decide (((4 : Nat) : Int) < 4) = false := by decide
    have c44 := nm_at HM4.out (i := 4) (by omega)
    have HL2 := Lib.hid (HLAST.out HOK.out)
    obtain ⟨b4, hb4⟩ : ∃ b, decide (4 ∈ rowE x.k) = b := ⟨_, rfl⟩
    have HL3 : Hid (R = vOk b4 x.v) := by
     show _ = _
     rw [← HR.out, HL2.out]
     unfold lsB
     rw [hb4]
    rw [hb4] at c44
    obtain ⟨c0, c1, c2, c3, c4, c5, c6, c7, c8, c9⟩ := BE.c hbe3
    clear hb4 HL2 HLAST c0 c1 c2 c3 c4 c5 c6
    cases b4
    ·obtain ⟨t, ht⟩ : ∃ t, x.v = t := ⟨_, rfl⟩
     rw [ht] at hv3
     have HL4 : Hid (R = vOk false t) := by
      show _ = _
      rw [HL3.out, ht]
     clear ht HL3
     obtain ⟨k', n', l⟩ := t
     obtain ⟨e1, e2, e3⟩ := val_form hv3
     subst e1 e2 e3
     have hcases : (kk = 0 ∧ nn = 0 ∧ l.length = 0) ∨ (kk = 0 ∧ nn = 0 ∧ ¬ l.length = 0) ∨ (kk = 0 ∧ ¬ nn = 0) ∨ ¬ kk = 0 := by omega
     rcases hcases with ⟨h1, h2, h3⟩ | ⟨h1, h2, h3⟩ | ⟨h1, h2⟩ | h1
     ·have e : R = true := by rw [HL4.out]; simp [vOk, h1, h2, List.eq_nil_of_length_eq_zero h3]
      have hd3 : ((l.length : Int) == 0) = true := by rw [h3]; rfl
      have hd4 : (l.length == 0) = true := by rw [h3]; rfl
      have hd5 : (kk == 0) = true := by simpa using h1
      have hd6 : (nn == 0) = true := by simpa using h2
      subst e
      clear h1 h2 h3 hv3 hbe3
      go_wp2_with fail
      go_ret
      exact ⟨rfl, hbw⟩
     ·have hne : ¬ l = [] := fun e => h3 (by rw [e]; rfl)
      have e : R = false := by rw [HL4.out]; simp [vOk, hne]
      have hd3 : ((l.length : Int) == 0) = false := by simp only [beq_eq_false_iff_ne, ne_eq]; omega
      have hd4 : (l.length == 0) = false := by simp only [beq_eq_false_iff_ne, ne_eq]; omega
      have hd5 : (kk == 0) = true := by simpa using h1
      have hd6 : (nn == 0) = true := by simpa using h2
      subst e
      clear h1 h2 h3 hne hv3 hbe3
      go_wp2_with fail
      go_ret
      exact ⟨rfl, hbw⟩
     ·have e : R = false := by rw [HL4.out]; simp [vOk, h2]
      have hd5 : (kk == 0) = true := by simpa using h1
      have hd6 : (nn == 0) = false := by simpa using h2
      subst e
      clear h1 h2 hv3 hbe3
      go_wp2_with fail
      go_ret
      exact ⟨rfl, hbw⟩
     ·have e : R = false := by rw [HL4.out]; simp [vOk, h1]
      have hd5 : (kk == 0) = false := by simpa using h1
      subst e
      clear h1 hv3 hbe3
      go_wp2_with fail
      go_ret
      exact ⟨rfl, hbw⟩
    ·have HL4 : Hid (R = right x.v) := HL3.out
     clear hbe3
     go_wp2_with fail
     refine (rRight_any x.v _ _ hv3 hnd).mono ?_
     rw [← HL4.out]
     rintro e w4 ⟨rfl, hb4⟩
     go_wp2_with fail
     go_ret
     exact ⟨rfl, hbw.trans (hb4.mono hbw.size)⟩
end Go.Proofs.YtjldbbcdhdfliaaGreatDoor
/-
 Walks over the reference of layer 23: Check. Printed by gen_uj.py.
-/
namespace Go.Proofs.YtjldbbcdhdfliaaGreatDoor
open Go.RowKit Go.Sort

theorem isE_regrownC {x : Ev} {v : Value} {w : World} (h : IsE (· < w.heap.size) w x v) (d : Nat) (os : Array Obj) : IsE (· < (grow (redrawn w d) os).heap.size) (grow (redrawn w d) os) x v := h.later (below_regrown w d os)
theorem okW_succ {l : List Ev} {q : Nat} (h : ∀ i, i < q → wrongAt l i = false) (hq : wrongAt l q = false) : ∀ i, i < q + 1 → wrongAt l i = false := by
 intro i hi
 rcases Nat.lt_or_ge i q with h1 | h1
 ·exact h i h1
 ·obtain rfl : i = q := by omega
  exact hq
set_option maxRecDepth 100000 in
set_option maxHeartbeats 4000000 in
theorem rCheckE_any (l : List Ev) (hl : l.length ≤ 1000000) (b1 : Option Addr) (cap : Nat) (w : World) (hE1 : IsEs (· < w.heap.size) w l b1) (hnd : ∀ x ∈ l, nd x.v ≤ 2000000) :
  Calls Tryz.prog 15 #[.slice b1 l.length cap] w fun e w' => e = .returned (CkV l) ∧ Below w.heap.size w w' := by
 obtain ⟨C, hC⟩ : ∃ C, CkV l = C := ⟨_, rfl⟩
 have HC := Lib.hid hC
 rw [hC]
 clear hC
 obtain ⟨n, hn⟩ : ∃ n, l.length = n := ⟨_, rfl⟩
 have HN := Lib.hid hn
 rw [hn] at hl ⊢
 clear hn
 have HE1 := Lib.hid hE1
 have HND := Lib.hid hnd
 clear hE1 hnd
 go_enter Tryz.func15, Tryz.ntmps15
 go_wp2_with fail
 go_loopw [4] (fun i wr => ∃ j : Nat, i = .int .i64 (j : Nat) ∧ j ≤ n ∧ (∀ m, m < j → wrongAt l m = false) ∧ Below w.heap.size w wr) (fun i _ => n - (intOf i).toNat)
 case atStart => exact ⟨0, rfl, Nat.zero_le _, fun m hm => by omega, Below.refl _ _⟩
 case round =>
  obtain ⟨j, rfl, hj, hok, hb⟩ := hrel
  have HOK := Lib.hid hok
  clear hok
  by_cases hlt : j < n
  ·have hd1 : decide (j < n) = true := by simpa using hlt
   have hlt2 : (j : Int) < (n : Int) := by omega
   obtain ⟨x, hx⟩ : ∃ x, l[j]? = some x := ⟨l[j]'(by have := HN.out; omega), List.getElem?_eq_getElem _⟩
   have hndx := HND.out x (List.mem_of_getElem? hx)
   obtain ⟨g1, o1, kk, nn, a1, len1, cap1, ha1, hg1, hc1, hv1, hr1⟩ := HE1.out j x hx
   subst ha1
   have hi1 : IsE (· < wr.heap.size) wr x (.agg #[.int .i64 x.k, .int .i64 x.st, .int .i64 x.th, .int .i64 x.sy, .int .i64 x.br, .int .i64 x.pa, .int .i64 x.n, .int .i64 kk, .int .i64 nn, .slice a1 len1 cap1]) := IsE.more (w := wr) ⟨kk, nn, a1, len1, cap1, rfl, hv1.below hb, hr1⟩ fun g hg => Nat.lt_of_lt_of_le hg hb.size
   have p0 := fun d os => cell_regrown (show wr.cell? ⟨g1, o1 + j * 10, none⟩ = some (.int .i64 x.k) from (hb.cell (p := ⟨g1, o1 + j * 10, none⟩) hg1).trans (hc1 0 (.int .i64 x.k) rfl)) d os
   have p1 := fun d os => cell_regrown (show wr.cell? ⟨g1, o1 + j * 10 + 1, none⟩ = some (.int .i64 x.st) from (hb.cell (p := ⟨g1, o1 + j * 10 + 1, none⟩) hg1).trans (hc1 1 (.int .i64 x.st) rfl)) d os
   have p2 := fun d os => cell_regrown (show wr.cell? ⟨g1, o1 + j * 10 + 2, none⟩ = some (.int .i64 x.th) from (hb.cell (p := ⟨g1, o1 + j * 10 + 2, none⟩) hg1).trans (hc1 2 (.int .i64 x.th) rfl)) d os
   have p3 := fun d os => cell_regrown (show wr.cell? ⟨g1, o1 + j * 10 + 3, none⟩ = some (.int .i64 x.sy) from (hb.cell (p := ⟨g1, o1 + j * 10 + 3, none⟩) hg1).trans (hc1 3 (.int .i64 x.sy) rfl)) d os
   have p4 := fun d os => cell_regrown (show wr.cell? ⟨g1, o1 + j * 10 + 4, none⟩ = some (.int .i64 x.br) from (hb.cell (p := ⟨g1, o1 + j * 10 + 4, none⟩) hg1).trans (hc1 4 (.int .i64 x.br) rfl)) d os
   have p5 := fun d os => cell_regrown (show wr.cell? ⟨g1, o1 + j * 10 + 5, none⟩ = some (.int .i64 x.pa) from (hb.cell (p := ⟨g1, o1 + j * 10 + 5, none⟩) hg1).trans (hc1 5 (.int .i64 x.pa) rfl)) d os
   have p6 := fun d os => cell_regrown (show wr.cell? ⟨g1, o1 + j * 10 + 6, none⟩ = some (.int .i64 x.n) from (hb.cell (p := ⟨g1, o1 + j * 10 + 6, none⟩) hg1).trans (hc1 6 (.int .i64 x.n) rfl)) d os
   have p7 := fun d os => cell_regrown (show wr.cell? ⟨g1, o1 + j * 10 + 7, none⟩ = some (.int .i64 kk) from (hb.cell (p := ⟨g1, o1 + j * 10 + 7, none⟩) hg1).trans (hc1 7 (.int .i64 kk) rfl)) d os
   have p8 := fun d os => cell_regrown (show wr.cell? ⟨g1, o1 + j * 10 + 8, none⟩ = some (.int .i64 nn) from (hb.cell (p := ⟨g1, o1 + j * 10 + 8, none⟩) hg1).trans (hc1 8 (.int .i64 nn) rfl)) d os
   have p9 := fun d os => cell_regrown (show wr.cell? ⟨g1, o1 + j * 10 + 9, none⟩ = some (.slice a1 len1 cap1) from (hb.cell (p := ⟨g1, o1 + j * 10 + 9, none⟩) hg1).trans (hc1 9 (.slice a1 len1 cap1) rfl)) d os
   have cR : ∀ d os, Calls Tryz.prog 45 #[.agg #[.int .i64 x.k, .int .i64 x.st, .int .i64 x.th, .int .i64 x.sy, .int .i64 x.br, .int .i64 x.pa, .int .i64 x.n, .int .i64 kk, .int .i64 nn, .slice a1 len1 cap1]] (grow (redrawn wr d) os) fun e w'' => e = .returned (.bool (rightE x)) ∧ ∃ p : Regrown, w'' = grow (redrawn wr p.d) p.os := fun d os => Calls.regrown_of (rRightE_any x _ _ (isE_regrownC hi1 d os) hndx)
   have HX := Lib.hid hx
   clear hc1 hv1 hr1 hi1 hx hndx
   cases hr : rightE x
   ·have HW := Lib.hid (wrong_bad HX.out hr)
    rw [hr] at cR
    clear hr
    go_upto_region 4 with fail
    refine wp_region_quiet_below (by kernel_rfl) (by kernel_rfl) ?_
    repeat (go_big_quiet_step (exact cR _ _))
    refine wpQuiet_nil ?_
    intro _ hw'
    obtain ⟨⟨dq, osq⟩, hw''⟩ := hw'
    subst hw''
    have hb3 := below_regrown wr dq osq
    have hb4 := hb.trans (hb3.mono hb.size)
    clear p0 p1 p2 p3 p4 p5 p6 p7 p8 p9 cR hb3
    generalize grow (redrawn wr dq) osq = w3 at *
    obtain rfl : C = .tuple #[.int .i64 (j : Nat), .int .i64 230] := by
     rw [← HC.out]
     unfold CkV
     rw [firstW_some (k := j) (by have := HN.out; omega) HW.out HOK.out]
    go_wp2_with fail
    go_ret2
    exact ⟨rfl, hb4⟩
   ·rw [hr] at cR
    rcases Nat.eq_zero_or_pos j with hk0 | hkp
    ·have HW : Hid (wrongAt l j = false) := by show _ = _; subst hk0; exact wrong_zero HX.out hr
     have hd2 : decide ((0 : Int) < (j : Int)) = false := by simp; omega
     have hd3 : decide (0 < j) = false := by simp; omega
     clear hr hk0
     go_upto_region 4 with fail
     refine wp_region_quiet_below (by kernel_rfl) (by kernel_rfl) ?_
     repeat (go_big_quiet_step (exact cR _ _))
     refine wpQuiet_nil ?_
     intro _ hw'
     obtain ⟨⟨dq, osq⟩, hw''⟩ := hw'
     subst hw''
     have hb3 := below_regrown wr dq osq
     have hb4 := hb.trans (hb3.mono hb.size)
     clear p0 p1 p2 p3 p4 p5 p6 p7 p8 p9 cR hb3
     generalize grow (redrawn wr dq) osq = w3 at *
     go_wp2_with fail
     go_roundw
     case rel => first | exact ⟨j + 1, by go_num, by omega, okW_succ HOK.out HW.out, hb4⟩ | ((repeat apply Exists.intro); exact ⟨⟨j + 1, by go_num, by omega, okW_succ HOK.out HW.out, hb4⟩, rfl⟩)
     case measure => simp [intOf]; omega
    ·obtain ⟨i, hj1⟩ : ∃ i, j = i + 1 := ⟨j - 1, by omega⟩
     obtain ⟨z, hz⟩ : ∃ z, l[i]? = some z := ⟨l[i]'(by have := HN.out; omega), List.getElem?_eq_getElem _⟩
     have hws : wrongAt l j = decide (x.st < z.st) := by have h1 := HX.out; subst hj1; exact wrong_succ h1 hz hr
     have hd2 : decide ((0 : Int) < (j : Int)) = true := by simp; omega
     have hd3 : decide (0 < j) = true := by simpa using hkp
     have hsub : IntKind.i64.wrap ((j : Int) - 1) = (i : Int) := by rw [hj1]; exact (IntWalk.i64_in _ (by omega)).trans (by omega)
     have hjl : i < n := by omega
     have hjl2 : (i : Int) < (n : Int) := by omega
     obtain ⟨g3, o3, kk3, nn3, a3, len3, cap3, ha3, hg3, hcel3, hv3, hrg3⟩ := HE1.out i z hz
     injection ha3 with ha3
     injection ha3 with ha3 ho3 _
     subst ha3 ho3
     have z0 := fun d os => cell_regrown (show wr.cell? ⟨g1, o1 + i * 10 + 1, none⟩ = some (.int .i64 z.st) from (hb.cell (p := ⟨g1, o1 + i * 10 + 1, none⟩) hg1).trans (hcel3 1 (.int .i64 z.st) rfl)) d os
     clear hr hj1 hz hcel3 hv3 hrg3 hg3
     by_cases hzs : x.st < z.st
     ·have hd4 : decide (x.st < z.st) = true := by simpa using hzs
      have HW : Hid (wrongAt l j = true) := by show _ = _; rw [hws, hd4]
      clear hws hzs
      go_upto_region 4 with fail
      refine wp_region_quiet_below (by kernel_rfl) (by kernel_rfl) ?_
      repeat (go_big_quiet_step (exact cR _ _))
      refine wpQuiet_nil ?_
      intro _ hw'
      obtain ⟨⟨dq, osq⟩, hw''⟩ := hw'
      subst hw''
      have hb3 := below_regrown wr dq osq
      have hb4 := hb.trans (hb3.mono hb.size)
      clear p0 p1 p2 p3 p4 p5 p6 p7 p8 p9 cR hb3
      generalize grow (redrawn wr dq) osq = w3 at *
      obtain rfl : C = .tuple #[.int .i64 (j : Nat), .int .i64 230] := by
       rw [← HC.out]
       unfold CkV
       rw [firstW_some (k := j) (by have := HN.out; omega) HW.out HOK.out]
      go_wp2_with fail
      go_ret2
      exact ⟨rfl, hb4⟩
     ·have hd4 : decide (x.st < z.st) = false := by simpa using hzs
      have HW : Hid (wrongAt l j = false) := by show _ = _; rw [hws, hd4]
      clear hws hzs
      go_upto_region 4 with fail
      refine wp_region_quiet_below (by kernel_rfl) (by kernel_rfl) ?_
      repeat (go_big_quiet_step (exact cR _ _))
      refine wpQuiet_nil ?_
      intro _ hw'
      obtain ⟨⟨dq, osq⟩, hw''⟩ := hw'
      subst hw''
      have hb3 := below_regrown wr dq osq
      have hb4 := hb.trans (hb3.mono hb.size)
      clear p0 p1 p2 p3 p4 p5 p6 p7 p8 p9 cR hb3
      generalize grow (redrawn wr dq) osq = w3 at *
      go_wp2_with fail
      go_roundw
      case rel => first | exact ⟨j + 1, by go_num, by omega, okW_succ HOK.out HW.out, hb4⟩ | ((repeat apply Exists.intro); exact ⟨⟨j + 1, by go_num, by omega, okW_succ HOK.out HW.out, hb4⟩, rfl⟩)
      case measure => simp [intOf]; omega
  ·have hd1 : decide (j < n) = false := by simpa using hlt
   obtain rfl : C = .tuple #[.int .i64 0, .int .i64 0] := by
    rw [← HC.out]
    unfold CkV
    rw [firstW_none (fun k hk => HOK.out k (by have := HN.out; omega))]
   go_wp2_with fail
   go_ret2
   exact ⟨rfl, hb⟩
end Go.Proofs.YtjldbbcdhdfliaaGreatDoor
