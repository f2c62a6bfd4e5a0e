/-
  The lines of a text, byte by byte: what Cut cuts. Plain.
-/
import Derived.Test.YtjldbbcdhdfliaaGreatDoorTkTl
namespace Go.Proofs.YtjldbbcdhdfliaaGreatDoor
open Go.RowKit

theorem index_at : ∀ (a b : List UInt8), (∀ c ∈ a, c ≠ 10) → Lib.index (a ++ 10 :: b) [10] = a.length
  | [], b, _ => by rw [List.nil_append, Lib.index]; simp [List.isPrefixOf]
  | x :: a, b, h => by
    have hx : x ≠ 10 := h x (by simp)
    have ih := index_at a b (fun c hc => h c (by simp [hc]))
    rw [List.cons_append, Lib.index, ih]
    have h1 : ([10] : List UInt8).isPrefixOf (x :: (a ++ 10 :: b)) = false := by simp [List.isPrefixOf, Ne.symm hx]
    rw [h1, if_neg (by simp)]
    have h2 : ((a.length : Int) == -1) = false := by rw [beq_eq_false_iff_ne]; omega
    rw [h2, if_neg (by simp)]
    simp
theorem index_no : ∀ (a : List UInt8), (∀ c ∈ a, c ≠ 10) → Lib.index a [10] = -1
  | [], _ => by rw [Lib.index]; rfl
  | x :: a, h => by
    have hx : x ≠ 10 := h x (by simp)
    have ih := index_no a (fun c hc => h c (by simp [hc]))
    rw [Lib.index, ih]
    have h1 : ([10] : List UInt8).isPrefixOf (x :: a) = false := by simp [List.isPrefixOf, Ne.symm hx]
    rw [h1, if_neg (by simp)]
    rfl
theorem cut_at (a b : List UInt8) (h : ∀ c ∈ a, c ≠ 10) : Lib.cut (a ++ 10 :: b) [10] = (a, b, true) := by
  unfold Lib.cut
  rw [index_at a b h, if_pos (by omega)]
  simp
theorem cut_no (a : List UInt8) (h : ∀ c ∈ a, c ≠ 10) : Lib.cut a [10] = (a, [], false) := by
  unfold Lib.cut
  rw [index_no a h, if_neg (by omega)]
def dropB (s : ByteArray) (k : Nat) : ByteArray := s.extract k s.size
theorem dropB_size (s : ByteArray) (k : Nat) : (dropB s k).size = s.size - k := by unfold dropB; simp
theorem ext_list (s : ByteArray) (i j : Nat) : (s.extract i j).data.toList = (s.data.toList.drop i).take (j - i) := by
  rw [ByteArray.data_extract, Array.toList_extract]
theorem dropB_list (s : ByteArray) (k : Nat) : (dropB s k).data.toList = s.data.toList.drop k :=
  (ext_list s k s.size).trans (List.take_of_length_le (by simp))
theorem ba_ext {a b : ByteArray} (h : a.data.toList = b.data.toList) : a = b := by
  obtain ⟨a⟩ := a
  obtain ⟨b⟩ := b
  simp only at h
  rw [show a = b from Array.toList_inj.1 h]
theorem no_ten {s : ByteArray} {f i : Nat} (hno : ∀ k, f ≤ k → k < i → bt s k ≠ 10) : ∀ c ∈ (s.data.toList.drop f).take (i - f), c ≠ 10 := by
  intro c hc e
  subst e
  obtain ⟨k, hk, he⟩ := List.getElem_of_mem hc
  simp only [List.length_take, List.length_drop, Array.length_toList] at hk
  have hs : f + k < s.size := by rw [← ByteArray.size_data]; omega
  have h2 := hno (f + k) (by omega) (by omega)
  apply h2
  unfold bt
  rw [dif_pos hs]
  simp only [List.getElem_take, List.getElem_drop, Array.getElem_toList] at he
  have : s[f + k] = 10 := he
  rw [this]
  rfl
theorem each_line {s : ByteArray} {f i : Nat} (hf : f ≤ i) (hi : i < s.size) (hno : ∀ k, f ≤ k → k < i → bt s k ≠ 10) (h10 : bt s i = 10) : cutA (dropB s f) = s.extract f i ∧ cutB (dropB s f) = dropB s (i + 1) := by
  have hc : s[i] = 10 := by
    unfold bt at h10
    rw [dif_pos hi] at h10
    apply UInt8.toNat_inj.1
    have : (10 : UInt8).toNat = 10 := rfl
    omega
  have hl : s.data.toList.drop f = (s.data.toList.drop f).take (i - f) ++ 10 :: s.data.toList.drop (i + 1) := by
    have h1 : s.data.toList.drop f = (s.data.toList.drop f).take (i - f) ++ (s.data.toList.drop f).drop (i - f) := (List.take_append_drop _ _).symm
    rw [List.drop_drop, show f + (i - f) = i by omega] at h1
    have h2 : s.data.toList.drop i = s.data.toList[i]'(by simpa using hi) :: s.data.toList.drop (i + 1) := List.drop_eq_getElem_cons _
    have h3 : s.data.toList[i]'(by simpa using hi) = 10 := hc
    rw [h3] at h2
    rw [h2] at h1
    exact h1
  have hcut := cut_at _ (s.data.toList.drop (i + 1)) (no_ten hno)
  rw [← hl] at hcut
  constructor
  · apply ba_ext
    unfold cutA
    rw [dropB_list, hcut, ext_list]
  · apply ba_ext
    unfold cutB
    rw [dropB_list, hcut, dropB_list]
theorem each_last {s : ByteArray} {f : Nat} (hno : ∀ k, f ≤ k → k < s.size → bt s k ≠ 10) : cutA (dropB s f) = s.extract f s.size ∧ cutB (dropB s f) = ⟨#[]⟩ := by
  have h0 := no_ten hno
  rw [List.take_of_length_le (by simp)] at h0
  have hcut := cut_no _ h0
  constructor
  · apply ba_ext
    unfold cutA
    rw [dropB_list, hcut]
    show _ = (dropB s f).data.toList
    rw [dropB_list]
  · apply ba_ext
    unfold cutB
    rw [dropB_list, hcut]
theorem lines_line {s : ByteArray} {f i : Nat} (hf : f ≤ i) (hi : i < s.size) (hno : ∀ k, f ≤ k → k < i → bt s k ≠ 10) (h10 : bt s i = 10) : linesS (dropB s f) = s.extract f i :: linesS (dropB s (i + 1)) := by
  obtain ⟨h1, h2⟩ := each_line hf hi hno h10
  rw [lines_cons (by rw [dropB_size]; omega), h1, h2]
theorem lines_last {s : ByteArray} {f : Nat} (hf : f < s.size) (hno : ∀ k, f ≤ k → k < s.size → bt s k ≠ 10) : linesS (dropB s f) = [s.extract f s.size] := by
  obtain ⟨h1, h2⟩ := each_last hno
  rw [lines_cons (by rw [dropB_size]; omega), h1, h2, lines_nil rfl]
theorem lines_none {s : ByteArray} {f : Nat} (hf : s.size ≤ f) : linesS (dropB s f) = [] := lines_nil (by rw [dropB_size]; omega)
theorem dropB_zero (s : ByteArray) : dropB s 0 = s := ba_ext (by rw [dropB_list]; rfl)
end Go.Proofs.YtjldbbcdhdfliaaGreatDoor
