/-
  Walks over package val: small, Size, event, shaped, shapes, valid, Check, equal, Same, Int.
-/
import Derived.Test.YtkahboomahhdoaaDoorVal1
import Derived.BigGuardPart
import Derived.StillTailTactics
namespace Go.Proofs.YtkahboomahhdoaaDoor
open Go.RowKit

def small (t : VT) : Bool := decide (cnt t 0 ≤ 256)
def isEv (k : Int) : Bool := decide (5 ≤ k) && decide (k ≤ 13)
def VT.kd : VT → Int | .mk k _ _ => k
def fstKd (l : List VT) : Int := match l with | t :: _ => t.kd | [] => 0
/-- One part's shape, by its numbers: len: how many values; fk: the first one's Kind; ev: are all events? -/
def shpN (k n : Int) (len : Nat) (fk : Int) (ev : Bool) : Bool :=
  if k = 1 ∨ k = 8 then decide (n = 0) && decide (len = 0)
  else if k = 2 then decide (len = 0)
  else if k = 3 then decide (n = 0) && decide (len = 2)
  else if k = 4 ∨ k = 13 then decide (0 ≤ n) && decide (len = 0)
  else if k = 5 then decide (n = 0) && decide (len = 2) && decide (fk = 4)
  else if k = 6 then decide (n = 0) && decide (len = 1) && decide (fk = 4)
  else if k = 7 then decide (n = 0) && decide (len = 1)
  else if k = 9 then ev && decide (n = 0) && decide (len ≤ 16)
  else if k = 10 then decide (0 ≤ n) && decide (n ≤ 63) && decide (1 ≤ len) && decide (len ≤ 9) && isEv fk
  else if k = 11 ∨ k = 12 then decide (0 ≤ n) && decide (n ≤ 63) && decide (len ≤ 8)
  else false
def shp (k n : Int) (l : List VT) : Bool := shpN k n l.length (fstKd l) (l.all fun t => isEv t.kd)
mutual
def shps : VT → Bool
  | .mk k n l => shp k n l && shpsL l
def shpsL : List VT → Bool
  | [] => true
  | t :: r => shps t && shpsL r
end
def right (t : VT) : Bool := small t && shps t

mutual
def eqT : VT → VT → Bool
  | .mk k n l, .mk k' n' l' => decide (k = k') && decide (n = n') && decide (l.length = l'.length) && eqL l l'
def eqL : List VT → List VT → Bool
  | t :: r, t' :: r' => eqT t t' && eqL r r'
  | [], _ => true
  | _ :: _, [] => true
end

set_option maxHeartbeats 400000 in
theorem small_any (t : VT) (v : Value) (w : World) (hv : IsV (· < w.heap.size) w t v) :
    Calls Tryd.prog 46 #[v] w fun e w' => e = .returned (.bool (small t)) ∧ Below w.heap.size w w' := by
  obtain ⟨kd, nn, l⟩ := t
  have hv' := hv
  rw [IsV] at hv
  obtain ⟨a, cap, rfl, -⟩ := hv
  go_enter Tryd.func46, Tryd.ntmps46
  go_wp2_with fail
  refine (count_any _ _ _ 0 _ (Nat.le_refl _) (by omega) ((hv'.below ((Below.refl _ _).alloc (Nat.le_refl _) _)).lift (by simp))).mono ?_
  rintro e w1 ⟨rfl, hb1⟩
  go_wp2_with fail
  go_ret
  refine ⟨ret_bool ?_, ((Below.refl _ _).alloc (Nat.le_refl _) _).trans (hb1.mono (by simp))⟩
  unfold small
  rw [decide_eq_decide]
  omega

set_option maxHeartbeats 400000 in
theorem Size_any (t : VT) (v : Value) (w : World) (hv : IsV (· < w.heap.size) w t v) :
    Calls Tryd.prog 24 #[v] w fun e w' => e = .returned (.int .i64 (cnt t 0 : Nat)) ∧ Below w.heap.size w w' := by
  obtain ⟨kd, nn, l⟩ := t
  have hv' := hv
  rw [IsV] at hv
  obtain ⟨a, cap, rfl, -⟩ := hv
  go_enter Tryd.func24, Tryd.ntmps24
  go_wp2_with fail
  refine (count_any _ _ _ 0 _ (Nat.le_refl _) (by omega) ((hv'.below ((Below.refl _ _).alloc (Nat.le_refl _) _)).lift (by simp))).mono ?_
  rintro e w1 ⟨rfl, hb1⟩
  go_wp2_with fail
  go_ret
  exact ⟨rfl, ((Below.refl _ _).alloc (Nat.le_refl _) _).trans (hb1.mono (by simp))⟩

set_option maxHeartbeats 400000 in
theorem vevent_any (k : Int) (w : World) (f : Nat) (hf : f = 101 ∨ f = 80) :
    Calls Tryd.prog f #[.int .i64 k] w fun e w' => e = .returned (.bool (isEv k)) ∧ w = w' := by
  rcases hf with rfl | rfl
  · by_cases h5 : 5 ≤ k
    · go_enter Tryd.func101, Tryd.ntmps101
      go_wp2_with fail
      go_ret
      exact ⟨ret_bool (by simp [isEv, h5]), rfl⟩
    · go_enter Tryd.func101, Tryd.ntmps101
      go_wp2_with fail
      go_ret
      exact ⟨ret_bool (by simp [isEv]; omega), rfl⟩
  · by_cases h5 : 5 ≤ k
    · go_enter Tryd.func80, Tryd.ntmps80
      go_wp2_with fail
      go_ret
      exact ⟨ret_bool (by simp [isEv, h5]), rfl⟩
    · go_enter Tryd.func80, Tryd.ntmps80
      go_wp2_with fail
      go_ret
      exact ⟨ret_bool (by simp [isEv]; omega), rfl⟩

set_option maxHeartbeats 400000 in
theorem vInt_any (n : Int) (w : World) :
    Calls Tryd.prog 77 #[.int .i64 n] w fun e w' => e = .returned (.agg #[.int .i64 2, .int .i64 n, .slice none 0 0]) ∧ Below w.heap.size w w' := by
  go_enter Tryd.func77, Tryd.ntmps77
  go_wp2_with fail
  exact bodyPost_ret (v := .agg #[.int .i64 2, .int .i64 n, .slice none 0 0]) (by simp [results, Tryd.results77, go_sem]) rfl ⟨rfl, (Below.refl _ _).alloc (Nat.le_refl _) _⟩
end Go.Proofs.YtkahboomahhdoaaDoor
