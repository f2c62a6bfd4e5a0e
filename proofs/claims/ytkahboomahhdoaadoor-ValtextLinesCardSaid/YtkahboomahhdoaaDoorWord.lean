/-
  Walks over package valtext's Word and Kind, and the reference's.
-/
import Derived.Test.YtkahboomahhdoaaDoorParse
namespace Go.Proofs.YtkahboomahhdoaaDoor
open Go.RowKit

def hasW (k : Int) : Bool := decide (1 ≤ k) && decide (k ≤ 13) && !decide (k = 2)
def wordT (k : Int) : ByteArray := if hasW k then wdB k.toNat else ⟨#[]⟩
theorem wdB_empty (j : Nat) (hj : j < 14) : (wdB j).toList.isEmpty = !hasW j := by
  have h : j = 0 ∨ j = 1 ∨ j = 2 ∨ j = 3 ∨ j = 4 ∨ j = 5 ∨ j = 6 ∨ j = 7 ∨ j = 8 ∨ j = 9 ∨ j = 10 ∨ j = 11 ∨ j = 12 ∨ j = 13 := by omega
  rcases h with rfl | rfl | rfl | rfl | rfl | rfl | rfl | rfl | rfl | rfl | rfl | rfl | rfl | rfl <;> simp [wdB, wdl, hasW, ByteArray.toList_eq]
theorem word_cell {w : World} (hW : HasWords w) (j : Nat) (hj : j < 14) : w.cell? ⟨0, j, none⟩ = some (.string (wdB j)) := by
  obtain ⟨t, fr, hx⟩ := hW
  have h : j = 0 ∨ j = 1 ∨ j = 2 ∨ j = 3 ∨ j = 4 ∨ j = 5 ∨ j = 6 ∨ j = 7 ∨ j = 8 ∨ j = 9 ∨ j = 10 ∨ j = 11 ∨ j = 12 ∨ j = 13 := by omega
  simp only [World.cell?, hx]
  rcases h with rfl | rfl | rfl | rfl | rfl | rfl | rfl | rfl | rfl | rfl | rfl | rfl | rfl | rfl <;> rfl

set_option maxHeartbeats 1000000 in
theorem Word_any (k : Int) (w : World) (hW : HasWords w) :
    Calls Tryd.prog 16 #[.int .i64 k] w fun e w' => e = .returned (.tuple #[.string (wordT k), .bool (hasW k)]) ∧ w = w' := by
  by_cases h0 : k < 0
  · have HF : Hid (hasW k = false) := by show _ = _; simp [hasW]; omega
    go_enter Tryd.func16, Tryd.ntmps16
    go_wp2_with fail
    go_ret2
    exact ⟨by rw [wordT, HF.out]; rfl, rfl⟩
  · by_cases h14 : 14 ≤ k
    · have HF : Hid (hasW k = false) := by show _ = _; simp [hasW]; omega
      go_enter Tryd.func16, Tryd.ntmps16
      go_wp2_with fail
      go_ret2
      exact ⟨by rw [wordT, HF.out]; rfl, rfl⟩
    · obtain ⟨j, rfl⟩ := Int.eq_ofNat_of_zero_le (show 0 ≤ k by omega)
      have hj : j < 14 := by omega
      have hc := word_cell hW j hj
      have he := wdB_empty j hj
      clear hW
      cases hh : hasW j
      · rw [hh] at he
        have HH := Lib.hid hh
        clear hh
        go_enter Tryd.func16, Tryd.ntmps16
        go_wp2_with fail
        go_ret2
        exact ⟨by rw [wordT, HH.out]; rfl, rfl⟩
      · rw [hh] at he
        have HH := Lib.hid hh
        clear hh
        go_enter Tryd.func16, Tryd.ntmps16
        go_wp2_with fail
        go_ret2
        exact ⟨by rw [wordT, HH.out]; rfl, rfl⟩

def kmatch (s : ByteArray) (j : Nat) : Bool := hasW j && ((wdB j).toList == s.toList)
def kindGo (s : ByteArray) : Nat → Nat → Option Nat
  | 0, _ => none
  | f + 1, j => if kmatch s j then some j else kindGo s f (j + 1)
def kindT (s : ByteArray) : Option Nat := kindGo s 14 0
def kindV (r : Option Nat) : Value := match r with
  | some k => .tuple #[.int .i64 k, .bool true]
  | none => .tuple #[.int .i64 0, .bool false]

set_option maxHeartbeats 1000000 in
theorem Kind_any (s : ByteArray) (w : World) (hW : HasWords w) :
    Calls Tryd.prog 18 #[.string s] w fun e w' => e = .returned (kindV (kindT s)) ∧ w = w' := by
  obtain ⟨t, fr, hw0⟩ := hW
  have HW := Lib.hid hw0
  clear hw0
  go_enter Tryd.func18, Tryd.ntmps18
  go_wp2_with (refine wpList_load_row rfl 74 _ rfl 0 rfl t _ fr _ HW.out Tryd.underlying74 rfl (by kernel_rfl) ?_)
  go_loop [4, 5, 7] (fun _ _ i => ∃ j : Nat, j ≤ 14 ∧ i = .int .i64 j ∧ kindT s = kindGo s (14 - j) j) (fun _ _ i => 14 - (intOf i).toNat)
  case atStart => exact ⟨0, by omega, rfl, rfl⟩
  case round =>
    obtain ⟨j, hj, rfl, hq⟩ := hrel
    have HQ := Lib.hid hq
    clear hq
    by_cases hlt : j < 14
    · have hix := fun wx => index_words j hlt wx
      have he := wdB_empty j hlt
      have HQ2 : Hid (kindT s = if kmatch s j then some j else kindGo s (14 - (j + 1)) (j + 1)) := by
        show _ = _
        rw [HQ.out, show 14 - j = (14 - (j + 1)) + 1 from by omega, kindGo]
      cases hh : hasW j
      · rw [hh] at he
        have HM : Hid (kmatch s j = false) := by show _ = _; rw [kmatch, hh]; rfl
        clear hh
        go_wp2_with fail
        go_round
        case rel => exact ⟨j + 1, by omega, by go_num, by rw [HQ2.out, HM.out]; rfl⟩
        case measure => simp [intOf]; omega
      · rw [hh] at he
        cases hm : (wdB j).toList == s.toList
        · have HM : Hid (kmatch s j = false) := by show _ = _; rw [kmatch, hh, hm]; rfl
          clear hh
          go_wp2_with fail
          go_round
          case rel => exact ⟨j + 1, by omega, by go_num, by rw [HQ2.out, HM.out]; rfl⟩
          case measure => simp [intOf]; omega
        · have HM : Hid (kmatch s j = true) := by show _ = _; rw [kmatch, hh, hm]; rfl
          clear hh
          go_wp2_with fail
          go_ret2
          exact ⟨by rw [HQ2.out, HM.out]; rfl, rfl⟩
    · go_wp2_with fail
      go_ret2
      exact ⟨by rw [HQ.out, show 14 - j = 0 from by omega, kindGo]; rfl, rfl⟩

/-! The reference's. -/
theorem refwords_any (w : World) : Calls Tryd.prog 38 #[] w fun e w' => e = .returned (.slice (some ⟨w.heap.size, 0, none⟩) 14 14) ∧ w' = w.alloc (.cells wordCells 9) := by
  go_enter Tryd.func38, Tryd.ntmps38
  go_wp2_with fail
  go_ret
  exact ⟨rfl, rfl⟩

set_option maxHeartbeats 1000000 in
theorem refWord_any (k : Int) (w : World) :
    Calls Tryd.prog 17 #[.int .i64 k] w fun e w' => e = .returned (.tuple #[.string (wordT k), .bool (hasW k)]) ∧ Below w.heap.size w w' := by
  by_cases h1 : k < 1
  · have HF : Hid (hasW k = false) := by show _ = _; simp [hasW]; omega
    go_enter Tryd.func17, Tryd.ntmps17
    go_wp2_with fail
    go_ret2
    exact ⟨by rw [wordT, HF.out]; rfl, Below.refl _ _⟩
  · by_cases h13 : 13 < k
    · have HF : Hid (hasW k = false) := by show _ = _; simp [hasW]; omega
      go_enter Tryd.func17, Tryd.ntmps17
      go_wp2_with fail
      go_ret2
      exact ⟨by rw [wordT, HF.out]; rfl, Below.refl _ _⟩
    · by_cases h2 : k = 2
      · subst h2
        go_enter Tryd.func17, Tryd.ntmps17
        go_wp2_with fail
        go_ret2
        exact ⟨rfl, Below.refl _ _⟩
      · obtain ⟨j, rfl⟩ := Int.eq_ofNat_of_zero_le (show 0 ≤ k by omega)
        have e2 : ((j : Int) == 2) = false := by rw [beq_eq_false_iff_ne]; exact h2
        have HH : Hid (hasW j = true) := by show _ = _; simp [hasW]; omega
        have hc : (w.alloc (.cells wordCells 9)).cell? ⟨w.heap.size, j, none⟩ = some (.string (wdB j)) := by
          have h : j = 0 ∨ j = 1 ∨ j = 2 ∨ j = 3 ∨ j = 4 ∨ j = 5 ∨ j = 6 ∨ j = 7 ∨ j = 8 ∨ j = 9 ∨ j = 10 ∨ j = 11 ∨ j = 12 ∨ j = 13 := by omega
          rw [World.cell?_alloc_new]
          rcases h with rfl | rfl | rfl | rfl | rfl | rfl | rfl | rfl | rfl | rfl | rfl | rfl | rfl | rfl <;> rfl
        go_enter Tryd.func17, Tryd.ntmps17
        go_wp2_with fail
        refine (refwords_any _).mono ?_
        rintro e w1 ⟨rfl, rfl⟩
        go_wp2_with fail
        go_ret2
        exact ⟨by rw [wordT, HH.out]; rfl, below_alloc _ _⟩
end Go.Proofs.YtkahboomahhdoaaDoor
