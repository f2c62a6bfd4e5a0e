/-
  The reference's word finds what the program's word finds: plain.
-/
import Derived.Test.YtkahboomahhdoaaDoorRr2
namespace Go.Proofs.YtkahboomahhdoaaDoor
open Go.RowKit

/-- n bytes from a place on. -/
def sub (s : ByteArray) (st n : Nat) : List UInt8 := (s.extract st (st + n)).toList
theorem toList_extract (s : ByteArray) (a b : Nat) : (s.extract a b).toList = (s.data.toList.drop a).take (b - a) := by
  rw [ByteArray.toList_eq, ByteArray.data_extract, Array.toList_extract, List.extract_eq_take_drop]
theorem sub_eq (s : ByteArray) (st n : Nat) : sub s st n = (s.data.toList.drop st).take n := by
  rw [sub, toList_extract, show st + n - st = n from by omega]
theorem head_eq (k n : Nat) : ((wdB k).extract 0 n).toList = (wdl k).take n := by
  rw [toList_extract]; simp [wdB]
theorem wd_list (k : Nat) : (wdB k).toList = wdl k := by rw [ByteArray.toList_eq]; simp [wdB]
theorem bt_list (s : ByteArray) (i : Nat) (h : i < s.size) : ∃ c, s.data.toList[i]? = some c ∧ bt s i = (c.toNat : Int) := by
  refine ⟨s[i], ?_, bt_in h⟩
  rw [List.getElem?_eq_getElem (by simpa using h)]
  rfl
/-- The word of a Kind is what n bytes say. -/
def full (s : ByteArray) (st n : Nat) (m : Int → Bool) (k : Nat) : Bool := hasW k && m k && ((wdB k).toList == (s.extract st (st + n)).toList)
theorem hasW_size (k : Nat) (hk : k < 14) : hasW k = decide (0 < (wdl k).length) := by
  have h : k = 0 ∨ k = 1 ∨ k = 2 ∨ k = 3 ∨ k = 4 ∨ k = 5 ∨ k = 6 ∨ k = 7 ∨ k = 8 ∨ k = 9 ∨ k = 10 ∨ k = 11 ∨ k = 12 ∨ k = 13 := by omega
  rcases h with rfl | rfl | rfl | rfl | rfl | rfl | rfl | rfl | rfl | rfl | rfl | rfl | rfl | rfl <;> rfl
theorem prefix_free : ∀ k k' : Fin 14, 0 < (wdl k').length → (wdl k).take (wdl k').length = wdl k' → k = k' := by decide
theorem cand_sub {s : ByteArray} {st n k : Nat} {m : Int → Bool} (h : cand s st n m k = true) : sub s st (n + 1) = (wdl k).take (n + 1) ∧ n < (wdl k).length ∧ m k = true ∧ st + n < s.size := by
  have h1 := cand_lt h
  unfold cand at h
  simp only [Bool.and_eq_true, beq_iff_eq, decide_eq_true_eq] at h
  obtain ⟨⟨⟨h2, h3⟩, h4⟩, h5⟩ := h
  have h6 : n < (wdl k).length := h2
  refine ⟨?_, h6, h3, h1.1⟩
  rw [head_eq] at h4
  change _ = sub s st n at h4
  rw [sub_eq] at h4 ⊢
  unfold isB at h5
  rw [decide_eq_true_eq] at h5
  obtain ⟨c, hc1, hc2⟩ := bt_list s (st + n) h1.1
  obtain ⟨d, hd1, hd2⟩ := bt_list (wdB k) n h2
  have hcd : c = d := by
    apply UInt8.toNat_inj.1
    have : (c.toNat : Int) = d.toNat := by rw [← hc2, ← hd2]; exact h5
    exact Int.ofNat_inj.1 this
  subst hcd
  have e1 : (s.data.toList.drop st)[n]? = some c := by rw [List.getElem?_drop]; exact hc1
  have e2 : (wdl k)[n]? = some c := by simpa [wdB] using hd1
  rw [List.take_add_one, List.take_add_one, e1, e2, ← h4]
theorem cand_of {s : ByteArray} {st n k : Nat} {m : Int → Bool} (hm : m k = true) (hn : n < (wdl k).length) (hsub : sub s st (n + 1) = (wdl k).take (n + 1)) : cand s st n m k = true := by
  have hlen : (sub s st (n + 1)).length = n + 1 := by rw [hsub, List.length_take]; omega
  have hlt : st + n < s.size := by
    rw [sub_eq, List.length_take, List.length_drop] at hlen
    have : s.data.toList.length = s.size := rfl
    omega
  have hn' : n < (wdB k).size := hn
  unfold cand
  simp only [Bool.and_eq_true, beq_iff_eq, decide_eq_true_eq]
  rw [sub_eq] at hsub
  refine ⟨⟨⟨hn', hm⟩, ?_⟩, ?_⟩
  · rw [head_eq]
    show _ = sub s st n
    rw [sub_eq]
    have := congrArg (List.take n) hsub
    rw [List.take_take, List.take_take, Nat.min_eq_left (by omega)] at this
    exact this.symm
  · unfold isB
    rw [decide_eq_true_eq]
    obtain ⟨c, hc1, hc2⟩ := bt_list s (st + n) hlt
    obtain ⟨d, hd1, hd2⟩ := bt_list (wdB k) n hn'
    have e1 : (s.data.toList.drop st)[n]? = some c := by rw [List.getElem?_drop]; exact hc1
    have e2 : (wdl k)[n]? = some d := by simpa [wdB] using hd1
    have h9 := congrArg (fun x => x[n]?) hsub
    simp only [List.getElem?_take, if_pos (Nat.lt_succ_self n), e1, e2] at h9
    injection h9 with h9
    rw [hc2, hd2, h9]
theorem full_sub {s : ByteArray} {st n k : Nat} {m : Int → Bool} : full s st n m k = true ↔ hasW k = true ∧ m k = true ∧ wdl k = sub s st n := by
  unfold full
  simp only [Bool.and_eq_true, beq_iff_eq, wd_list]
  exact ⟨fun h => ⟨h.1.1, h.1.2, h.2⟩, fun h => ⟨⟨h.1, h.2.1⟩, h.2.2⟩⟩

def findF (s : ByteArray) (st n : Nat) (m : Int → Bool) : Nat → Nat → Option Nat
  | 0, _ => none
  | f + 1, j => if full s st n m j then some j else findF s st n m f (j + 1)
def anyC (s : ByteArray) (st n : Nat) (m : Int → Bool) : Nat → Nat → Bool
  | 0, _ => false
  | f + 1, j => cand s st n m j || anyC s st n m f (j + 1)
def rwGo (s : ByteArray) (st : Nat) (m : Int → Bool) : Nat → Nat → Except Nat (Nat × Nat)
  | 0, n => .error (st + n)
  | f + 1, n => match findF s st n m 13 1 with
    | some k => .ok (k, st + n)
    | none => if anyC s st n m 13 1 then rwGo s st m f (n + 1) else .error (st + n)
def rword (s : ByteArray) (st : Nat) (m : Int → Bool) : Except Nat (Nat × Nat) := rwGo s st m 8 0

theorem findF_none {s : ByteArray} {st n : Nat} {m : Int → Bool} : ∀ {f j : Nat}, (∀ k, j ≤ k → k < j + f → full s st n m k = false) → findF s st n m f j = none
  | 0, j, h => rfl
  | f + 1, j, h => by
    rw [findF, h j (by omega) (by omega)]
    exact findF_none fun k h1 h2 => h k (by omega) (by omega)
theorem findF_some {s : ByteArray} {st n : Nat} {m : Int → Bool} : ∀ {f j k : Nat}, full s st n m k = true → j ≤ k → k < j + f → (∀ k', k' < 14 → full s st n m k' = true → k' = k) → j + f ≤ 14 → findF s st n m f j = some k
  | 0, j, k, h, h1, h2, hu, hf => by omega
  | f + 1, j, k, h, h1, h2, hu, hf => by
    rw [findF]
    cases hj : full s st n m j with
    | true => rw [hu j (by omega) hj]; rfl
    | false =>
      have : j ≠ k := fun e => by rw [e, h] at hj; cases hj
      exact findF_some h (by omega) (by omega) hu (by omega)
theorem findC_none {s : ByteArray} {st n : Nat} {m : Int → Bool} : ∀ {f j : Nat}, findC s st n m f j = none → ∀ k, j ≤ k → k < j + f → cand s st n m k = false
  | 0, j, h, k, h1, h2 => by omega
  | f + 1, j, h, k, h1, h2 => by
    rw [findC] at h
    cases hj : cand s st n m j with
    | true => rw [hj, if_pos rfl] at h; cases h
    | false =>
      rw [hj, if_neg (by simp)] at h
      rcases Nat.eq_or_lt_of_le h1 with rfl | h3
      · exact hj
      · exact findC_none h k (by omega) (by omega)
theorem anyC_false {s : ByteArray} {st n : Nat} {m : Int → Bool} : ∀ {f j : Nat}, (∀ k, j ≤ k → k < j + f → cand s st n m k = false) → anyC s st n m f j = false
  | 0, j, h => rfl
  | f + 1, j, h => by
    rw [anyC, h j (by omega) (by omega), anyC_false fun k h1 h2 => h k (by omega) (by omega)]
    rfl
theorem anyC_true {s : ByteArray} {st n : Nat} {m : Int → Bool} : ∀ {f j k : Nat}, cand s st n m k = true → j ≤ k → k < j + f → anyC s st n m f j = true
  | 0, j, k, h, h1, h2 => by omega
  | f + 1, j, k, h, h1, h2 => by
    rw [anyC]
    rcases Nat.eq_or_lt_of_le h1 with rfl | h3
    · rw [h]; rfl
    · rw [anyC_true h (by omega) (by omega), Bool.or_true]

theorem rwGo_eq {s : ByteArray} {st : Nat} {m : Int → Bool} : ∀ {f n : Nat}, 7 ≤ f + n → (∀ k, k < 14 → full s st n m k = false) → rwGo s st m (f + 1) n = wordGo s st m f n
  | 0, n, hf, hn => by
    rw [rwGo, wordGo, findF_none fun k _ h => hn k (by omega)]
    dsimp only
    rw [anyC_false]
    · rfl
    · intro k _ _
      cases hc : cand s st n m k with
      | false => rfl
      | true =>
        have := (cand_sub hc).2.1
        have := wdl_len k
        omega
  | f + 1, n, hf, hn => by
    rw [rwGo, findF_none fun k _ h => hn k (by omega)]
    dsimp only
    rw [wordGo]
    cases hc : findC s st n m 14 0 with
    | none =>
      dsimp only
      have hno := findC_none hc
      rw [anyC_false fun k _ _ => hno k (by omega) (by omega)]
      rfl
    | some k =>
      dsimp only
      have h1 := findC_some hc
      obtain ⟨c1, c2, c3, c4⟩ := cand_sub h1.1
      have hk0 : 1 ≤ k := by
        rcases Nat.eq_zero_or_pos k with rfl | h
        · simp [wdl] at c2
        · exact h
      rw [anyC_true h1.1 hk0 (by omega), if_pos rfl]
      by_cases he : n + 1 = (wdB k).size
      · rw [if_pos he]
        have he' : n + 1 = (wdl k).length := he
        have hfull : full s st (n + 1) m k = true := full_sub.2 ⟨by rw [hasW_size k (by omega)]; simpa using (by omega), c3, by rw [c1, he', List.take_length]⟩
        rw [rwGo, findF_some hfull hk0 (by omega) ?_ (by omega)]
        · rfl
        · intro k' hk' hf'
          have h2 := full_sub.1 hf'
          have h3 := full_sub.1 hfull
          have hlen : 0 < (wdl k').length := by have := h2.1; rw [hasW_size k' hk'] at this; simpa using this
          have := prefix_free ⟨k, by omega⟩ ⟨k', hk'⟩ hlen (by
            show (wdl k).take (wdl k').length = wdl k'
            rw [h2.2.2, ← h3.2.2, List.take_length])
          exact (Fin.mk.inj this).symm
      · rw [if_neg he]
        refine rwGo_eq (by omega) fun k' hk' => ?_
        cases hf' : full s st (n + 1) m k' with
        | false => rfl
        | true =>
          exfalso
          have h2 := full_sub.1 hf'
          have hlen : 0 < (wdl k').length := by have := h2.1; rw [hasW_size k' hk'] at this; simpa using this
          have hl' : (wdl k').length = n + 1 := by rw [h2.2.2, c1, List.length_take]; omega
          have := prefix_free ⟨k, by omega⟩ ⟨k', hk'⟩ hlen (by
            show (wdl k).take (wdl k').length = wdl k'
            rw [hl', ← c1, h2.2.2])
          have := Fin.mk.inj this
          subst this
          exact he hl'.symm
theorem rword_eq (s : ByteArray) (st : Nat) (m : Int → Bool) : rword s st m = word s st m := by
  refine rwGo_eq (by omega) fun k hk => ?_
  cases hf : full s st 0 m k with
  | false => rfl
  | true =>
    have h2 := full_sub.1 hf
    have := h2.1
    rw [hasW_size k hk, h2.2.2, sub_eq] at this
    simp at this
end Go.Proofs.YtkahboomahhdoaaDoor
