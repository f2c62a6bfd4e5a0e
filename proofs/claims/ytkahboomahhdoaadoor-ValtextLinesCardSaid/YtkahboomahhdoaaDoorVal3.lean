/-
  Walks over package val: shaped.
-/
import Derived.Test.YtkahboomahhdoaaDoorVal2
namespace Go.Proofs.YtkahboomahhdoaaDoor
open Go.RowKit

theorem all_drop {l : List VT} {f : VT → Bool} {j : Nat} (h : j < l.length) : (l.drop j).all f = (f l[j] && (l.drop (j + 1)).all f) := by
  rw [List.drop_eq_getElem_cons h, List.all_cons]

set_option maxHeartbeats 1000000 in
theorem shaped_no (k n : Int) (l : List VT) (a : Option Addr) (cap : Nat) (w : World) (_hl : l.length ≤ cap) (_hcap : cap ≤ maxLen)
    (hk : ∀ i : Int, 1 ≤ i → i ≤ 13 → k ≠ i) :
    Calls Tryd.prog 93 #[.agg #[.int .i64 k, .int .i64 n, .slice a l.length cap]] w fun e w' => e = .returned (.bool (shp k n l)) ∧ Below w.heap.size w w' := by
  unfold maxLen at _hcap
  have e1 : (k == 1) = false := beq_eq_false_iff_ne.2 (hk 1 (by omega) (by omega))
  have e2 : (k == 2) = false := beq_eq_false_iff_ne.2 (hk 2 (by omega) (by omega))
  have e3 : (k == 3) = false := beq_eq_false_iff_ne.2 (hk 3 (by omega) (by omega))
  have e4 : (k == 4) = false := beq_eq_false_iff_ne.2 (hk 4 (by omega) (by omega))
  have e5 : (k == 5) = false := beq_eq_false_iff_ne.2 (hk 5 (by omega) (by omega))
  have e6 : (k == 6) = false := beq_eq_false_iff_ne.2 (hk 6 (by omega) (by omega))
  have e7 : (k == 7) = false := beq_eq_false_iff_ne.2 (hk 7 (by omega) (by omega))
  have e8 : (k == 8) = false := beq_eq_false_iff_ne.2 (hk 8 (by omega) (by omega))
  have e9 : (k == 9) = false := beq_eq_false_iff_ne.2 (hk 9 (by omega) (by omega))
  have e10 : (k == 10) = false := beq_eq_false_iff_ne.2 (hk 10 (by omega) (by omega))
  have e11 : (k == 11) = false := beq_eq_false_iff_ne.2 (hk 11 (by omega) (by omega))
  have e12 : (k == 12) = false := beq_eq_false_iff_ne.2 (hk 12 (by omega) (by omega))
  have e13 : (k == 13) = false := beq_eq_false_iff_ne.2 (hk 13 (by omega) (by omega))
  have HE : Hid (false = shp k n l) := by
    unfold shp shpN
    rw [if_neg, if_neg, if_neg, if_neg, if_neg, if_neg, if_neg, if_neg, if_neg, if_neg]
    · exact rfl
    all_goals (have := hk 1 (by omega) (by omega); have := hk 2 (by omega) (by omega); have := hk 3 (by omega) (by omega); have := hk 4 (by omega) (by omega); have := hk 5 (by omega) (by omega); have := hk 6 (by omega) (by omega); have := hk 7 (by omega) (by omega); have := hk 8 (by omega) (by omega); have := hk 9 (by omega) (by omega); have := hk 10 (by omega) (by omega); have := hk 11 (by omega) (by omega); have := hk 12 (by omega) (by omega); have := hk 13 (by omega) (by omega); omega)
  clear hk
  go_enter Tryd.func93, Tryd.ntmps93
  go_wp2_with fail
  go_ret
  exact ⟨ret_bool HE.out, (Below.refl _ _).alloc (Nat.le_refl _) _⟩

set_option maxHeartbeats 1000000 in
theorem shaped_plain (k n : Int) (l : List VT) (a : Option Addr) (cap : Nat) (w : World) (_hl : l.length ≤ cap) (_hcap : cap ≤ maxLen)
    (hk : k = 1 ∨ k = 8 ∨ k = 2 ∨ k = 3 ∨ k = 4 ∨ k = 13 ∨ k = 7 ∨ k = 11 ∨ k = 12) :
    Calls Tryd.prog 93 #[.agg #[.int .i64 k, .int .i64 n, .slice a l.length cap]] w fun e w' => e = .returned (.bool (shp k n l)) ∧ Below w.heap.size w w' := by
  unfold maxLen at _hcap
  unfold shp
  generalize fstKd l = fk
  generalize (l.all fun t => isEv t.kd) = ev
  generalize l.length = len at *
  rcases hk with rfl | rfl | rfl | rfl | rfl | rfl | rfl | rfl | rfl
  all_goals
    go_enter Tryd.func93, Tryd.ntmps93
    go_wp2_with fail
    all_goals go_ret
    all_goals refine ⟨ret_bool ?_, (Below.refl _ _).alloc (Nat.le_refl _) _⟩
    all_goals (rw [Bool.eq_iff_iff]; simp [shpN]; try omega)

theorem fstKd_zero {l : List VT} {t : VT} {k n : Int} {ll : List VT} (h : 0 < l.length) (hl : l[0] = t) (ht : t = .mk k n ll) : fstKd l = k := by
  cases l with
  | nil => simp at h
  | cons x r => simp at hl; subst hl; subst ht; rfl

set_option maxHeartbeats 1000000 in
theorem shaped_first (k n : Int) (l : List VT) (a : Option Addr) (cap : Nat) (w : World) (_hl : l.length ≤ cap) (_hcap : cap ≤ maxLen)
    (hrow : IsR (· < w.heap.size) w l a 0) (hk : k = 5 ∨ k = 6 ∨ k = 10) :
    Calls Tryd.prog 93 #[.agg #[.int .i64 k, .int .i64 n, .slice a l.length cap]] w fun e w' => e = .returned (.bool (shp k n l)) ∧ Below w.heap.size w w' := by
  unfold maxLen at _hcap
  unfold shp
  generalize (l.all fun t => isEv t.kd) = ev
  by_cases h0 : 0 < l.length
  · obtain ⟨kk, n2, ll, g, o, a', cap', hlj, rfl, hg, c0, c1, c2, ht⟩ := hrow.at_ h0
    have hf := fstKd_zero h0 rfl hlj
    rw [hf]
    clear hf hlj c1 c2 ht
    rw [Nat.zero_mul, Nat.add_zero] at c0
    have hc0 : ∀ o', (w.alloc o').cell? ⟨g, o, none⟩ = some (.int .i64 kk) := fun o' => (World.cell?_alloc_lt w o' ⟨g, o, none⟩ hg).trans c0
    generalize l.length = len at *
    rcases hk with rfl | rfl | rfl
    all_goals
      go_enter Tryd.func93, Tryd.ntmps93
      go_wp2_with (go_at_call 101; refine (vevent_any _ _ _ (.inl rfl)).mono ?_; rintro e w' ⟨rfl, rfl⟩)
      all_goals go_ret
      all_goals refine ⟨ret_bool ?_, (Below.refl _ _).alloc (Nat.le_refl _) _⟩
      all_goals (rw [Bool.eq_iff_iff]; simp [shpN]; try omega)
  · have h1 : l.length = 0 := by omega
    rw [h1] at *
    rcases hk with rfl | rfl | rfl
    all_goals
      go_enter Tryd.func93, Tryd.ntmps93
      go_wp2_with fail
      all_goals go_ret
      all_goals refine ⟨ret_bool ?_, (Below.refl _ _).alloc (Nat.le_refl _) _⟩
      all_goals (rw [Bool.eq_iff_iff]; simp [shpN])
end Go.Proofs.YtkahboomahhdoaaDoor
