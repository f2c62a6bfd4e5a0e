/-
 Walks over package trace: raise, the fields' functions, validVal, kind, number.
-/
import Derived.Test.YtjldbbcdhdfliaaGreatDoorTa
import Derived.Test.YtjldbbcdhdfliaaGreatDoorBText
import Derived.Test.YtjldbbcdhdfliaaGreatDoorShelf
import Derived.LoopTactic
import Derived.WalkSpells
import Derived.Test.YtjldbbcdhdfliaaGreatDoorHoTn
import Derived.Lib.AtoiErrMem
namespace Go.Proofs.YtjldbbcdhdfliaaGreatDoor
open Go.RowKit

/-- The error that is raised. -/
def Fault : Ending := .panicked [{ v := .iface 119 (.agg #[.int .i64 230]), recovered := false }]
/-- What the package-level variables hold. -/
structure EnvT (w : World) : Prop where
 env : Env w
 esy : ∃ ev, w.cell? ⟨2, 0, none⟩ = some ev ∧ (ev = .nilIface ∨ ∃ te pe, ev = .iface te pe)
 era : ∃ ev, w.cell? ⟨3, 0, none⟩ = some ev ∧ (ev = .nilIface ∨ ∃ te pe, ev = .iface te pe)
theorem EnvT.below {B : Nat} {w w' : World} (h : EnvT w) (hb : Below B w w') (hB : 5 ≤ B) : EnvT w' := by
 refine ⟨h.env.below hb hB, ?_, ?_⟩
 ·obtain ⟨ev, h1, h2⟩ := h.esy
  exact ⟨ev, (hb.cell (p := ⟨2, 0, none⟩) (by show 2 < B; omega)).trans h1, h2⟩
 ·obtain ⟨ev, h1, h2⟩ := h.era
  exact ⟨ev, (hb.cell (p := ⟨3, 0, none⟩) (by show 3 < B; omega)).trans h1, h2⟩
theorem EnvT.belowAll {w w' : World} (h : EnvT w) (hb : Below w.heap.size w w') : EnvT w' := h.below hb h.env.size

set_option maxHeartbeats 400000 in
theorem raise_any (w : World) : Calls Tryz.prog 47 #[.int .i64 230] w fun e w' => e = Fault ∧ w = w' := by
 go_enter Tryz.func47, Tryz.ntmps47
 go_wp2
 exact ⟨rfl, rfl, rfl⟩
set_option maxHeartbeats 400000 in
theorem at0_any (b : Nat) (w : World) : Calls Tryz.prog 69 #[.pointer (some ⟨b, 0, none⟩)] w fun e w' => e = .returned (.pointer (some ⟨b, 3, none⟩)) ∧ w = w' := by
 go_enter Tryz.func69, Tryz.ntmps69
 go_wp2_with fail
 go_ret
 exact ⟨rfl, rfl⟩
set_option maxHeartbeats 400000 in
theorem at1_any (b : Nat) (w : World) : Calls Tryz.prog 70 #[.pointer (some ⟨b, 0, none⟩)] w fun e w' => e = .returned (.pointer (some ⟨b, 4, none⟩)) ∧ w = w' := by
 go_enter Tryz.func70, Tryz.ntmps70
 go_wp2_with fail
 go_ret
 exact ⟨rfl, rfl⟩
set_option maxHeartbeats 400000 in
theorem at2_any (b : Nat) (w : World) : Calls Tryz.prog 71 #[.pointer (some ⟨b, 0, none⟩)] w fun e w' => e = .returned (.pointer (some ⟨b, 5, none⟩)) ∧ w = w' := by
 go_enter Tryz.func71, Tryz.ntmps71
 go_wp2_with fail
 go_ret
 exact ⟨rfl, rfl⟩
set_option maxHeartbeats 400000 in
theorem at3_any (b : Nat) (w : World) : Calls Tryz.prog 72 #[.pointer (some ⟨b, 0, none⟩)] w fun e w' => e = .returned (.pointer (some ⟨b, 6, none⟩)) ∧ w = w' := by
 go_enter Tryz.func72, Tryz.ntmps72
 go_wp2_with fail
 go_ret
 exact ⟨rfl, rfl⟩
/-- Is a value right, or, where it is not listed, none? -/
def vOk (listed : Bool) (t : VT) : Bool := if listed then right t else match t with | .mk k n l => decide (k = 0) && decide (n = 0) && decide (l.length = 0)
set_option maxRecDepth 100000 in
set_option maxHeartbeats 1000000 in
theorem validVal_any (t : VT) (v : Value) (ls : Bool) (w : World) (hv : IsV (· < w.heap.size) w t v) : Calls Tryz.prog 85 #[v, .bool ls] w fun e w' => e = .returned (.bool (vOk ls t)) ∧ Below w.heap.size w w' := by
 obtain ⟨k, n, l⟩ := t
 have hv0 := hv
 rw [IsV] at hv
 obtain ⟨a, cap, rfl, hk, hn, hlc, hcm, -⟩ := hv
 cases ls
 ·obtain ⟨x, hx⟩ : ∃ x, vOk false (.mk k n l) = x := ⟨_, rfl⟩
  have HX := Lib.hid hx
  rw [hx]
  unfold vOk at hx
  simp only [Bool.false_eq_true, if_false] at hx
  by_cases h1 : k = 0
  ·by_cases h2 : n = 0
   ·have hd1 : (k == 0) = true := by simpa using h1
    have hd2 : (n == 0) = true := by simpa using h2
    by_cases h3 : l.length = 0
    ·have hx2 : x = true := by rw [← hx, h1, h2, h3]; rfl
     have hd3 : ((l.length : Int) == 0) = true := by rw [h3]; rfl
     have hd4 : (l.length == 0) = true := by rw [h3]; rfl
     subst h1 h2 hx2
     clear hx hd1 hd2
     go_enter Tryz.func85, Tryz.ntmps85
     go_wp2_with fail
     go_ret
     exact ⟨rfl, below_alloc _ _⟩
    ·have hx2 : x = false := by rw [← hx]; simp [h3]
     have hd3 : ((l.length : Int) == 0) = false := by simp only [beq_eq_false_iff_ne, ne_eq]; omega
     have hd4 : (l.length == 0) = false := by simp only [beq_eq_false_iff_ne, ne_eq]; omega
     subst h1 h2 hx2
     clear hx hd1 hd2
     go_enter Tryz.func85, Tryz.ntmps85
     go_wp2_with fail
     go_ret
     exact ⟨rfl, below_alloc _ _⟩
   ·have hx2 : x = false := by rw [← hx]; simp [h2]
    have hd2 : (n == 0) = false := by simpa using h2
    subst h1 hx2
    clear hx
    go_enter Tryz.func85, Tryz.ntmps85
    go_wp2_with fail
    go_ret
    exact ⟨rfl, below_alloc _ _⟩
  ·have hx2 : x = false := by rw [← hx]; simp [h1]
   have hd1 : (k == 0) = false := by simpa using h1
   subst hx2
   clear hx
   go_enter Tryz.func85, Tryz.ntmps85
   go_wp2_with fail
   go_ret
   exact ⟨rfl, below_alloc _ _⟩
 ·rw [show vOk true (.mk k n l) = right (.mk k n l) from rfl]
  obtain ⟨r, hr⟩ : ∃ r, right (.mk k n l) = r := ⟨_, rfl⟩
  have HR := Lib.hid hr
  rw [hr]
  clear hr
  cases r
  all_goals
   go_enter Tryz.func85, Tryz.ntmps85
   go_wp2_with fail
   refine (Check_any _ _ _ (hv0.later (below_alloc _ _))).mono ?_
   rw [HR.out]
   rintro e w1 ⟨rfl, hb1⟩
   go_wp2_with fail
   go_ret
   exact ⟨rfl, (below_alloc _ _).trans (hb1.mono (by simp))⟩

theorem TabT.mapc {w : World} {b mb : Nat} (h : TabT w b mb) : w.cell? ⟨b, 15, none⟩ = some (.map (some mb)) := by simp [World.cell?, h.c]
def kEGo (s : ByteArray) : Nat → Nat → Option Nat
 | 0, _ => none
 | f + 1, j => if (wdEB j).toList == s.toList then some j else kEGo s f (j + 1)
/-- The Kind of a word. -/
def kindE (s : ByteArray) : Option Nat := kEGo s 9 1
/-- How a call ends that finds a number or raises. -/
def NumEndsT (r : Option Nat) (w : World) (e : Ending) (w' : World) : Prop := (match r with
 | some n => e = .returned (.int .i64 (n : Nat))
 | none => e = Fault) ∧ Below w.heap.size w w'
set_option maxRecDepth 100000 in
set_option maxHeartbeats 1000000 in
theorem kind_any (b mb : Nat) (s : ByteArray) (w : World) (hT : TabT w b mb) : Calls Tryz.prog 76 #[.pointer (some ⟨b, 0, none⟩), .string s] w (NumEndsT (kindE s) w) := by
 have hm := hT.mapc
 have HM := Lib.hid hT.m
 go_enter Tryz.func76, Tryz.ntmps76
 go_wp2_with fail
 go_loop [5] (fun i => ∃ j : Nat, i = .int .i64 (j : Nat) ∧ 1 ≤ j ∧ j ≤ 10 ∧ kindE s = kEGo s (10 - j) j) (fun i => 10 - (intOf i).toNat)
 case atStart => exact ⟨1, rfl, by omega, by omega, rfl⟩
 case round =>
  obtain ⟨j, rfl, h1, h10, hk⟩ := hrel
  have HK := Lib.hid hk
  clear hk
  by_cases h9 : j ≤ 9
  ·have hd1 : decide ((j : Int) ≤ 9) = true := by simp; omega
   have hlk := HM.out.look (k := (j : Int)) (by unfold Rng; omega)
   have hwe : wordE (j : Int) = wdEB j := by
    unfold wordE hasE
    rw [if_pos (by simp; omega)]
    simp
   rw [hwe] at hlk
   clear hwe
   obtain ⟨x, hx⟩ : ∃ x, ((wdEB j).toList == s.toList) = x := ⟨_, rfl⟩
   have HX := Lib.hid hx
   cases x
   ·go_wp2_with fail
    go_round
    case rel => exact ⟨j + 1, by go_num, by omega, by omega, by rw [HK.out, show 10 - j = (10 - (j + 1)) + 1 from by omega, kEGo, HX.out]; rfl⟩
    case measure => simp [intOf]; omega
   ·have HR : Hid (kindE s = some j) := by
     show _ = _
     rw [HK.out, show 10 - j = (10 - (j + 1)) + 1 from by omega, kEGo, HX.out]
     rfl
    go_wp2_with fail
    go_ret
    unfold NumEndsT
    rw [HR.out]
    exact ⟨rfl, Below.refl _ _⟩
  ·have hd1 : decide ((j : Int) ≤ 9) = false := by simp; omega
   have HR : Hid (kindE s = none) := by
    show _ = _
    rw [HK.out, show 10 - j = 0 from by omega, kEGo]
   go_wp2_with fail
   refine (raise_any _).mono ?_
   rintro e w' ⟨rfl, rfl⟩
   refine ⟨rfl, ?_⟩
   unfold NumEndsT
   rw [HR.out]
   exact ⟨rfl, Below.refl _ _⟩
end Go.Proofs.YtjldbbcdhdfliaaGreatDoor
/-
 Walks over package trace: number.
-/
namespace Go.Proofs.YtjldbbcdhdfliaaGreatDoor
open Go.RowKit

theorem at_list {s : ByteArray} {j : Nat} (hj : j < s.size) : s.data.toList[j]? = some s[j] := by
 rw [List.getElem?_eq_getElem (by simpa using hj)]
 rfl
theorem take_all {s : ByteArray} {j : Nat} (hj : j < s.size) (h : (s.data.toList.take j).all isDg = true) (hd : isDg s[j] = true) : (s.data.toList.take (j + 1)).all isDg = true := by
 rw [List.take_add_one, at_list hj]
 simp only [Option.toList_some, List.all_append, h, List.all_cons, List.all_nil, hd, Bool.and_self]
theorem num_none {s : ByteArray} {j : Nat} (hj : j < s.size) (hd : isDg s[j] = false) : numL s.data.toList = none := by
 unfold numL
 rw [if_neg]
 rintro ⟨_, _, h, _⟩
 rw [List.all_eq_true] at h
 have := h s[j] (List.mem_of_getElem? (at_list hj))
 rw [hd] at this
 cases this
set_option maxRecDepth 100000 in
set_option maxHeartbeats 2000000 in
theorem tnumber_any (s : ByteArray) (hs : s.size ≤ 10000000) (w : World) (hE : EnvT w) : Calls Tryz.prog 75 #[.string s] w (NumEndsT (numL s.data.toList) w) := by
 have hsz : s.data.toList.length = s.size := by simp
 by_cases h0 : s.size = 0
 ·have HN : Hid (numL s.data.toList = none) := by
   show _ = _
   have : s.data.toList = [] := List.eq_nil_of_length_eq_zero (by omega)
   rw [this]
   rfl
  have he : s.toList = [] := by
   rw [ByteArray.toList_eq]
   exact List.eq_nil_of_length_eq_zero (by omega)
  have he1 : s.toList.isEmpty = true := by rw [he]; rfl
  clear hsz
  go_enter Tryz.func75, Tryz.ntmps75
  go_wp2_with fail
  refine (raise_any _).mono ?_
  rintro e w' ⟨rfl, rfl⟩
  refine ⟨rfl, ?_⟩
  unfold NumEndsT
  rw [HN.out]
  exact ⟨rfl, Below.refl _ _⟩
 ·have hp0 : 0 < s.size := by omega
  have he : ¬ s.toList = [] := by
   rw [ByteArray.toList_eq]
   intro e
   rw [e] at hsz
   simp at hsz
   omega
  have he1 : s.toList.isEmpty = false := by simpa using he
  have hne : s.data.toList ≠ [] := by rw [← ByteArray.toList_eq]; exact he
  by_cases hz : 1 < s.size ∧ (s[0].toNat : Int) = 48
  ·have HN : Hid (numL s.data.toList = none) := by
    show _ = _
    unfold numL
    rw [if_neg]
    rintro ⟨_, h, _⟩
    refine h (by omega) ?_
    rw [List.head?_eq_getElem?, at_list hp0]
    have : s[0].toNat = 48 := by omega
    rw [UInt8.toNat_inj.1 (show s[0].toNat = (48 : UInt8).toNat from this)]
   have hd1 : decide (1 < (s.size : Int)) = true := by simp; omega
   have hd2 : ((s[0].toNat : Int) == 48) = true := by simpa using hz.2
   clear hsz hne
   go_enter Tryz.func75, Tryz.ntmps75
   go_wp2_with fail
   refine (raise_any _).mono ?_
   rintro e w' ⟨rfl, rfl⟩
   refine ⟨rfl, ?_⟩
   unfold NumEndsT
   rw [HN.out]
   exact ⟨rfl, Below.refl _ _⟩
  ·have hhd : 1 < s.data.toList.length → s.data.toList.head? ≠ some 48 := by
    intro h1 h2
    rw [List.head?_eq_getElem?, at_list hp0] at h2
    injection h2 with h2
    exact hz ⟨by omega, by rw [h2]; rfl⟩
   have HHD := Lib.hid hhd
   have HNE := Lib.hid hne
   have HSZ := Lib.hid hsz
   clear hhd hne hsz
   by_cases h1 : 1 < s.size
   case' pos =>
    have hd1 : decide (1 < (s.size : Int)) = true := by simp; omega
    have hd2 : ((s[0].toNat : Int) == 48) = false := by
     simp only [beq_eq_false_iff_ne, ne_eq]
     exact fun h => hz ⟨h1, h⟩
    clear hz
    go_enter Tryz.func75, Tryz.ntmps75
    go_wp2_with fail
   case' neg =>
    have hd1 : decide (1 < (s.size : Int)) = false := by simp; omega
    clear hz
    go_enter Tryz.func75, Tryz.ntmps75
    go_wp2_with fail
   all_goals
    clear he he1
    go_loop [3] (fun i => ∃ j : Nat, i = .int .i64 (j : Nat) ∧ j ≤ s.size ∧ (s.data.toList.take j).all isDg = true) (fun i => s.size - (intOf i).toNat)
    case atStart => exact ⟨0, rfl, by omega, by simp⟩
    case round =>
     obtain ⟨j, rfl, hj, hall⟩ := hrel
     have HALL := Lib.hid hall
     clear hall
     by_cases hlt : j < s.size
     ·have hd3 : decide (j < s.size) = true := by simpa using hlt
      by_cases hg : isDg s[j] = true
      ·have hg2 := hg
       unfold isDg at hg2
       simp at hg2
       have q1 : decide ((s[j].toNat : Int) < 48) = false := by simp; omega
       have q2 : decide (57 < (s[j].toNat : Int)) = false := by simp; omega
       have HG := Lib.hid hg
       clear hg hg2
       go_wp2_with fail
       go_round
       case rel => exact ⟨j + 1, by go_num, by omega, take_all hlt HALL.out HG.out⟩
       case measure => simp [intOf]; omega
      ·have hg1 : isDg s[j] = false := by simpa using hg
       have HN := Lib.hid (num_none hlt hg1)
       have hg2 : (s[j].toNat : Int) < 48 ∨ 57 < (s[j].toNat : Int) := by
        unfold isDg at hg
        simp at hg
        omega
       clear hg hg1
       rcases hg2 with q | q
       case' inl =>
        have q1 : decide ((s[j].toNat : Int) < 48) = true := by simpa using q
        go_wp2_with fail
       case' inr =>
        have q1 : decide ((s[j].toNat : Int) < 48) = false := by simp; omega
        have q2 : decide (57 < (s[j].toNat : Int)) = true := by simpa using q
        go_wp2_with fail
       all_goals
        refine (raise_any _).mono ?_
        rintro e w' ⟨rfl, rfl⟩
        refine ⟨rfl, ?_⟩
        unfold NumEndsT
        rw [HN.out]
        exact ⟨rfl, Below.refl _ _⟩
     ·obtain rfl : j = s.size := by omega
      have hall : s.data.toList.all isDg = true := by
       have := HALL.out
       rwa [List.take_of_length_le (by rw [HSZ.out]; omega)] at this
      obtain ⟨hi1, hi2⟩ := int_digits HNE.out hall
      by_cases hv : valD s.data.toList ≤ 9223372036854775807
      ·have HN : Hid (numL s.data.toList = some (valD s.data.toList)) := by
        show _ = _
        unfold numL
        rw [if_pos ⟨HNE.out, HHD.out, hall, hv⟩]
       have HP := Lib.hid (hi1 hv)
       clear hi1 hi2 hall
       generalize valD s.data.toList = n at *
       go_wp2_with fail
       refine (Tryz.strconv_ParseInt_10_at64_ok s (by omega) (n : Int) HP.out _).mono ?_
       rintro e w1 ⟨rfl, hw1⟩
       have hb1 : Below w.heap.size w w1 := by
        rcases hw1 with rfl | ⟨t, rfl⟩
        ·exact Below.refl _ _
        ·exact Lib.bytesWorld_below w _ t
       clear hw1
       go_wp2_with fail
       go_ret
       unfold NumEndsT
       rw [HN.out]
       exact ⟨rfl, hb1⟩
      ·have HN : Hid (numL s.data.toList = none) := by
        show _ = _
        unfold numL
        rw [if_neg (fun h => hv h.2.2.2)]
       have HP := Lib.hid (hi2 hv)
       clear hi1 hi2 hall hv
       obtain ⟨ev, hev, hif⟩ := hE.era
       go_wp2_with fail
       refine (Tryz.strconv_ParseInt_10_at64_range s (by omega) HP.out ev _ hev hif).mono ?_
       rintro e w1 ⟨N, rfl, hN, -, hb1⟩
       go_wp2_with fail
       refine (raise_any _).mono ?_
       rintro e w' ⟨rfl, rfl⟩
       refine ⟨rfl, ?_⟩
       unfold NumEndsT
       rw [HN.out]
       exact ⟨rfl, hb1⟩
end Go.Proofs.YtjldbbcdhdfliaaGreatDoor
