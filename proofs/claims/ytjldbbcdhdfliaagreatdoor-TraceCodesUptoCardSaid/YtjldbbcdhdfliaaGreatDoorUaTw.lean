/-
 Walks over the reference of layer 23: names, numbers, Name.
-/
import Derived.Test.YtjldbbcdhdfliaaGreatDoorTa
import Derived.LoopTactic
import Derived.StillTailTactics
import Derived.Laws.OwnMore
import Derived.Test.YtjldbbcdhdfliaaGreatDoorRows
import Derived.Lib.SplitLaws
namespace Go.Proofs.YtjldbbcdhdfliaaGreatDoor
open Go.RowKit

/-- Which fields a Kind names, as an array. -/
def nmC (k : Int) : Array Value := #[.bool (decide (0 ∈ rowE k)), .bool (decide (1 ∈ rowE k)), .bool (decide (2 ∈ rowE k)), .bool (decide (3 ∈ rowE k)), .bool (decide (4 ∈ rowE k))]
theorem nmC_none {k : Int} (h : ¬ (1 ≤ k ∧ k ≤ 8)) : nmC k = #[.bool false, .bool false, .bool false, .bool false, .bool false] := by
 unfold nmC
 have : rowE k = [] := by
  unfold rowE
  rw [if_neg (by omega), if_neg (by omega), if_neg (by omega), if_neg (by omega), if_neg (by omega), if_neg (by omega)]
 rw [this]
 rfl
set_option maxRecDepth 100000 in
set_option maxHeartbeats 2000000 in
theorem rnames_any (k : Int) (w : World) : Calls Tryz.prog 39 #[.int .i64 k] w fun e w' => e = .returned (.agg (nmC k)) ∧ Below w.heap.size w w' := by
 by_cases h : 1 ≤ k ∧ k ≤ 8
 ·have : k = 1 ∨ k = 2 ∨ k = 3 ∨ k = 4 ∨ k = 5 ∨ k = 6 ∨ k = 7 ∨ k = 8 := by omega
  rcases this with rfl | rfl | rfl | rfl | rfl | rfl | rfl | rfl
  all_goals
   go_enter Tryz.func39, Tryz.ntmps39
   go_wp2_with fail
   exact bodyPost_ret (v := .agg (nmC _)) (by simp [results, Tryz.results39, go_sem]; rfl) rfl ⟨rfl, below_alloc _ _⟩
 ·have h1 : (k == 1) = false := by simp; omega
  have h2 : (k == 2) = false := by simp; omega
  have h3 : (k == 3) = false := by simp; omega
  have h4 : (k == 4) = false := by simp; omega
  have h5 : (k == 5) = false := by simp; omega
  have h6 : (k == 6) = false := by simp; omega
  have h7 : (k == 7) = false := by simp; omega
  have h8 : (k == 8) = false := by simp; omega
  have HN := Lib.hid (nmC_none h)
  clear h
  go_enter Tryz.func39, Tryz.ntmps39
  go_wp2_with fail
  exact bodyPost_ret (v := .agg #[.bool false, .bool false, .bool false, .bool false, .bool false]) (by simp [results, Tryz.results39, go_sem]) rfl ⟨by rw [HN.out], below_alloc _ _⟩
set_option maxRecDepth 100000 in
set_option maxHeartbeats 1000000 in
theorem rnumbers_any (c0 c1 c2 a b c d c7 c8 : Int) (p : Option Addr) (n m : Nat) (w : World) : Calls Tryz.prog 41 #[.agg #[.int .i64 c0, .int .i64 c1, .int .i64 c2, .int .i64 a, .int .i64 b, .int .i64 c, .int .i64 d, .int .i64 c7, .int .i64 c8, .slice p n m]] w fun e w' => e = .returned (.agg #[.int .i64 a, .int .i64 b, .int .i64 c, .int .i64 d]) ∧ Below w.heap.size w w' := by
 go_enter Tryz.func41, Tryz.ntmps41
 go_wp2_with fail
 exact bodyPost_ret (v := .agg #[.int .i64 a, .int .i64 b, .int .i64 c, .int .i64 d]) (by simp [results, Tryz.results41, go_sem]) rfl ⟨rfl, (below_alloc _ _).trans ((below_alloc _ _).mono (by simp))⟩
end Go.Proofs.YtjldbbcdhdfliaaGreatDoor
/-
 A text's words as lists (layer 23). Plain.
-/
namespace Go.Proofs.YtjldbbcdhdfliaaGreatDoor

end Go.Proofs.YtjldbbcdhdfliaaGreatDoor
