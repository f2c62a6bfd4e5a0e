/-
  Walks over the reference of layer 23: names, numbers, Name.
-/
import Derived.Test.YtjldbbcdhdfliaaGreatDoorTa
import Derived.LoopTactic
import Derived.StillTailTactics
import Derived.Laws.OwnMore
import Derived.Test.YtjldbbcdhdfliaaGreatDoorRows
import Derived.Lib.SplitLaws
namespace Go.Proofs.YtjldbbcdhdfliaaGreatDoor
open Go.RowKit

/-- Which fields a Kind names, as an array. -/
def nmC (k : Int) : Array Value := #[.bool (decide (0 ∈ rowE k)), .bool (decide (1 ∈ rowE k)), .bool (decide (2 ∈ rowE k)), .bool (decide (3 ∈ rowE k)), .bool (decide (4 ∈ rowE k))]
theorem nmC_none {k : Int} (h : ¬ (1 ≤ k ∧ k ≤ 8)) : nmC k = #[.bool false, .bool false, .bool false, .bool false, .bool false] := by
  unfold nmC
  have : rowE k = [] := by
    unfold rowE
    rw [if_neg (by omega), if_neg (by omega), if_neg (by omega), if_neg (by omega), if_neg (by omega), if_neg (by omega)]
  rw [this]
  rfl
set_option maxRecDepth 100000 in
set_option maxHeartbeats 2000000 in
theorem rnames_any (k : Int) (w : World) : Calls Tryz.prog 39 #[.int .i64 k] w fun e w' => e = .returned (.agg (nmC k)) ∧ Below w.heap.size w w' := by
  by_cases h : 1 ≤ k ∧ k ≤ 8
  · have : k = 1 ∨ k = 2 ∨ k = 3 ∨ k = 4 ∨ k = 5 ∨ k = 6 ∨ k = 7 ∨ k = 8 := by omega
    rcases this with rfl | rfl | rfl | rfl | rfl | rfl | rfl | rfl
    all_goals
      go_enter Tryz.func39, Tryz.ntmps39
      go_wp2_with fail
      exact bodyPost_ret (v := .agg (nmC _)) (by simp [results, Tryz.results39, go_sem]; rfl) rfl ⟨rfl, below_alloc _ _⟩
  · have h1 : (k == 1) = false := by simp; omega
    have h2 : (k == 2) = false := by simp; omega
    have h3 : (k == 3) = false := by simp; omega
    have h4 : (k == 4) = false := by simp; omega
    have h5 : (k == 5) = false := by simp; omega
    have h6 : (k == 6) = false := by simp; omega
    have h7 : (k == 7) = false := by simp; omega
    have h8 : (k == 8) = false := by simp; omega
    have HN := Lib.hid (nmC_none h)
    clear h
    go_enter Tryz.func39, Tryz.ntmps39
    go_wp2_with fail
    exact bodyPost_ret (v := .agg #[.bool false, .bool false, .bool false, .bool false, .bool false]) (by simp [results, Tryz.results39, go_sem]) rfl ⟨by rw [HN.out], below_alloc _ _⟩
set_option maxRecDepth 100000 in
set_option maxHeartbeats 1000000 in
theorem rnumbers_any (c0 c1 c2 a b c d c7 c8 : Int) (p : Option Addr) (n m : Nat) (w : World) : Calls Tryz.prog 41 #[.agg #[.int .i64 c0, .int .i64 c1, .int .i64 c2, .int .i64 a, .int .i64 b, .int .i64 c, .int .i64 d, .int .i64 c7, .int .i64 c8, .slice p n m]] w fun e w' => e = .returned (.agg #[.int .i64 a, .int .i64 b, .int .i64 c, .int .i64 d]) ∧ Below w.heap.size w w' := by
  go_enter Tryz.func41, Tryz.ntmps41
  go_wp2_with fail
  exact bodyPost_ret (v := .agg #[.int .i64 a, .int .i64 b, .int .i64 c, .int .i64 d]) (by simp [results, Tryz.results41, go_sem]) rfl ⟨rfl, (below_alloc _ _).trans ((below_alloc _ _).mono (by simp))⟩
theorem word_out {k : Int} (h : ¬ (1 ≤ k ∧ k ≤ 9)) : wordE k = ⟨#[]⟩ := by
  unfold wordE hasE
  rw [if_neg]
  simp
  omega
set_option maxRecDepth 100000 in
set_option maxHeartbeats 2000000 in
theorem rName_any (k : Int) (w : World) : Calls Tryz.prog 38 #[.int .i64 k] w fun e w' => e = .returned (.string (wordE k)) ∧ Below w.heap.size w w' := by
  by_cases h : 1 ≤ k ∧ k ≤ 9
  · have : k = 1 ∨ k = 2 ∨ k = 3 ∨ k = 4 ∨ k = 5 ∨ k = 6 ∨ k = 7 ∨ k = 8 ∨ k = 9 := by omega
    rcases this with rfl | rfl | rfl | rfl | rfl | rfl | rfl | rfl | rfl
    all_goals
      go_enter Tryz.func38, Tryz.ntmps38
      go_wp2_with fail
      go_ret
      exact ⟨rfl, below_alloc _ _⟩
  · have HN := Lib.hid (word_out h)
    by_cases h1 : k < 1
    · have hd1 : decide (k < 1) = true := by simpa using h1
      go_enter Tryz.func38, Tryz.ntmps38
      go_wp2_with fail
      go_ret
      refine ⟨?_, Below.refl _ _⟩
      show Ending.returned (.string ⟨#[]⟩) = _
      rw [HN.out]
    · have hd1 : decide (k < 1) = false := by simpa using h1
      have hd2 : decide (9 < k) = true := by simp; omega
      go_enter Tryz.func38, Tryz.ntmps38
      go_wp2_with fail
      go_ret
      refine ⟨?_, Below.refl _ _⟩
      show Ending.returned (.string ⟨#[]⟩) = _
      rw [HN.out]
end Go.Proofs.YtjldbbcdhdfliaaGreatDoor
/-
  A text's words as lists (layer 23). Plain.
-/
namespace Go.Proofs.YtjldbbcdhdfliaaGreatDoor

/-- A text's words, one blank between, as lists. -/
def wordsL : List UInt8 → List (List UInt8)
  | [] => [[]]
  | c :: r => if c = 32 then [] :: wordsL r else match wordsL r with
    | x :: xs => (c :: x) :: xs
    | [] => [[c]]
theorem wordsL_ne : ∀ l, wordsL l ≠ []
  | [] => by simp [wordsL]
  | c :: r => by
    unfold wordsL
    split
    · simp
    · split <;> simp
theorem wordsL_blank (r : List UInt8) : wordsL (32 :: r) = [] :: wordsL r := by simp [wordsL]
theorem wordsL_cons {c : UInt8} {r x : List UInt8} {xs : List (List UInt8)} (h : c ≠ 32) (hr : wordsL r = x :: xs) : wordsL (c :: r) = (c :: x) :: xs := by
  simp [wordsL, h, hr]
theorem wordsL_split : ∀ (s : List UInt8) (k : Nat), Lib.count s [32] = k → Lib.splitK [32] 0 k s = wordsL s
  | [], k, h => by
    have : k = 0 := by rw [← h]; rw [Lib.count_one]; rfl
    subst this
    rfl
  | b :: r, k, h => by
    by_cases hb : b = 32
    · subst hb
      rw [Lib.count_cons_eq] at h
      obtain ⟨j, rfl⟩ : ∃ j, k = j + 1 := ⟨Lib.count r [32], by omega⟩
      have hix : Lib.index (32 :: r) [32] = 0 := by rw [Lib.index]; simp [List.isPrefixOf]
      rw [Lib.splitK, hix, if_neg (by decide), wordsL_blank, ← wordsL_split r j (by omega)]
      rfl
    · rw [Lib.count_cons_ne b 32 r hb] at h
      have ih := wordsL_split r k h
      match k, h, ih with
      | 0, h, ih =>
        rw [Lib.splitK] at ih ⊢
        rw [wordsL_cons hb ih.symm]
      | k + 1, h, ih =>
        have hp : ([32] : List UInt8).isPrefixOf (b :: r) = false := by simp [List.isPrefixOf, Ne.symm hb]
        have hix : Lib.index (b :: r) [32] = if Lib.index r [32] == -1 then -1 else Lib.index r [32] + 1 := by rw [Lib.index, hp]; simp
        have hne : Lib.index r [32] ≠ -1 := fun e => by rw [Lib.count_miss e] at h; omega
        have hge := Lib.index_ge r [32]
        obtain ⟨j, hj⟩ : ∃ j : Nat, Lib.index r [32] = j := ⟨(Lib.index r [32]).toNat, by omega⟩
        have h1 : (Lib.index r [32] == -1) = false := by simpa using hne
        rw [h1] at hix
        rw [if_neg (by simp), hj] at hix
        rw [Lib.splitK, h1, if_neg (by simp), hj] at ih
        rw [Lib.splitK, hix]
        have h2 : (((j : Int) + 1) == -1) = false := by simp; omega
        rw [h2, if_neg (by simp)]
        have e1 : ((j : Int) + 1).toNat = j + 1 := by omega
        have e2 : (j : Int).toNat = j := by omega
        rw [e1]
        rw [e2] at ih
        rw [wordsL_cons hb ih.symm]
        simp
theorem wordsL_snoc32 : ∀ l, wordsL (l ++ [32]) = wordsL l ++ [[]]
  | [] => by decide
  | c :: r => by
    have ih := wordsL_snoc32 r
    by_cases h : c = 32
    · subst h
      rw [List.cons_append, wordsL_blank, wordsL_blank, ih]
      rfl
    · obtain ⟨x, xs, hx⟩ := List.exists_cons_of_ne_nil (wordsL_ne r)
      rw [hx] at ih
      rw [List.cons_append, wordsL_cons h hx, wordsL_cons h ih]
      rfl
theorem wordsL_snoc {d : UInt8} (hd : d ≠ 32) : ∀ (l : List UInt8) (ini : List (List UInt8)) (x : List UInt8), wordsL l = ini ++ [x] → wordsL (l ++ [d]) = ini ++ [x ++ [d]]
  | [], ini, x, h => by
    have : ini = [] ∧ x = [] := by
      match ini, h with
      | [], h => simp [wordsL] at h; exact ⟨rfl, h⟩
      | a :: b, h => simp [wordsL] at h
    obtain ⟨rfl, rfl⟩ := this
    simp [wordsL, hd]
  | c :: r, ini, x, h => by
    by_cases hc : c = 32
    · subst hc
      rw [wordsL_blank] at h
      match ini, h with
      | [], h =>
        simp at h
        exact absurd h.2 (wordsL_ne r)
      | a :: b, h =>
        simp at h
        obtain ⟨rfl, h⟩ := h
        rw [List.cons_append, wordsL_blank, wordsL_snoc hd r b x h]
        rfl
    · obtain ⟨y, ys, hy⟩ := List.exists_cons_of_ne_nil (wordsL_ne r)
      rw [wordsL_cons hc hy] at h
      match ini, h with
      | [], h =>
        simp at h
        obtain ⟨rfl, rfl⟩ := h
        have := wordsL_snoc hd r [] y hy
        rw [List.cons_append, wordsL_cons hc this]
        rfl
      | a :: b, h =>
        simp at h
        obtain ⟨rfl, rfl⟩ := h
        have := wordsL_snoc hd r (y :: b) x (by rw [hy]; simp)
        rw [List.cons_append, wordsL_cons hc this]
        rfl
end Go.Proofs.YtjldbbcdhdfliaaGreatDoor
