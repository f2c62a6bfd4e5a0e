/-
  What the reader's value, list and more compute, as plain functions; the facts on places that the walks ask for.
-/
import Derived.Test.YtkahboomahhdoaaDoorAcc
namespace Go.Proofs.YtkahboomahhdoaaDoor
open Go.RowKit

abbrev Rec := (Int → Bool) → Nat → Nat → Except Nat (VT × Nat × Nat)
def mAny : Int → Bool := fun _ => true
def mChan : Int → Bool := fun k => decide (k = 4)
def mEv : Int → Bool := isEv

def pOne (rec : Rec) (m : Int → Bool) (l : List VT) (i p : Nat) : Except Nat (List VT × Nat × Nat) :=
  match rec m i p with
  | .error j => .error j
  | .ok (t, i', p') => .ok (l ++ [t], i', p')
def pMore (s : ByteArray) (rec : Rec) (m : Int → Bool) : Nat → List VT → Nat → Nat → Except Nat (List VT × Nat × Nat)
  | 0, l, i, p => .ok (l, i, p)
  | c + 1, l, i, p =>
    if isB s i 44 then
      match pOne rec m l (i + 1) p with
      | .error j => .error j
      | .ok (l', i', p') => pMore s rec m c l' i' p'
    else .ok (l, i, p)
/-- Two values with a comma between them. -/
def pTwo (s : ByteArray) (rec : Rec) (m m' : Int → Bool) (i p : Nat) : Except Nat (List VT × Nat × Nat) :=
  match pOne rec m [] i p with
  | .error j => .error j
  | .ok (l, i', p') => if isB s i' 44 then pOne rec m' l (i' + 1) p' else .error i'
def withN (n : Int) : Except Nat (List VT × Nat × Nat) → Except Nat (Int × List VT × Nat × Nat)
  | .error j => .error j
  | .ok x => .ok (n, x)
def pNum (s : ByteArray) (most i : Nat) (rest : Nat → Except Nat (List VT × Nat × Nat)) : Except Nat (Int × List VT × Nat × Nat) :=
  match num s most i with
  | .error j => .error j
  | .ok (n, i') => withN n (rest i')
/-- list: the number, the values, the place, the parts. -/
def pList (s : ByteArray) (rec : Rec) (k : Nat) (i p : Nat) : Except Nat (Int × List VT × Nat × Nat) :=
  match k with
  | 3 => withN 0 (pTwo s rec mAny mAny i p)
  | 4 => pNum s 9223372036854775807 i fun i' => .ok ([], i', p)
  | 13 => pNum s 9223372036854775807 i fun i' => .ok ([], i', p)
  | 5 => withN 0 (pTwo s rec mChan mAny i p)
  | 6 => withN 0 (pOne rec mChan [] i p)
  | 7 => withN 0 (pOne rec mAny [] i p)
  | 9 => if isB s i 41 then .ok (0, [], i, p) else
    match pOne rec mEv [] i p with
    | .error j => .error j
    | .ok (l, i', p') => withN 0 (pMore s rec mEv 15 l i' p')
  | 10 => pNum s 63 i fun i' =>
    if isB s i' 44 then
      match pOne rec mEv [] (i' + 1) p with
      | .error j => .error j
      | .ok (l, i2, p') => pMore s rec mAny 8 l i2 p'
    else .error i'
  | 11 => pNum s 63 i fun i' => pMore s rec mAny 8 [] i' p
  | 12 => pNum s 63 i fun i' => pMore s rec mAny 8 [] i' p
  | _ => .ok (0, [], i, p)
def pVal (s : ByteArray) : Nat → Rec
  | 0, _, i, _ => .error i
  | f + 1, m, i, p =>
    if 256 ≤ p then .error i
    else if isB s i 45 || dig s i then
      if m 2 then integer s i (p + 1) else .error i
    else match word s i m with
      | .error j => .error j
      | .ok (k, j) =>
        if k = 1 ∨ k = 8 then .ok (.mk k 0 [], j, p + 1)
        else if isB s j 40 then
          match pList s (pVal s f) k (j + 1) (p + 1) with
          | .error j' => .error j'
          | .ok (n, l, j', p') => if isB s j' 41 then .ok (.mk k n l, j' + 1, p') else .error j'
        else .error j

/-- Where a reading begins and ends. -/
def Goes (s : ByteArray) (rec : Rec) : Prop := ∀ m i p t i' p', i ≤ s.size → p ≤ 256 → rec m i p = .ok (t, i', p') → i ≤ i' ∧ i' ≤ s.size ∧ p < p' ∧ p' ≤ 256
section
variable {s : ByteArray} {rec : Rec} (hr : Goes s rec)
include hr
theorem pOne_goes {m : Int → Bool} {l : List VT} {i p : Nat} {l' : List VT} {i' p' : Nat} (hi : i ≤ s.size) (hp : p ≤ 256) (h : pOne rec m l i p = .ok (l', i', p')) : i ≤ i' ∧ i' ≤ s.size ∧ p < p' ∧ p' ≤ 256 ∧ l'.length = l.length + 1 := by
  unfold pOne at h
  split at h
  · cases h
  · rename_i t i2 p2 he
    have := hr m i p t i2 p2 hi hp he
    injection h with h
    injection h with h1 h2
    injection h2 with h2 h3
    subst h1 h2 h3
    simp; omega
theorem pMore_goes {m : Int → Bool} : ∀ (c : Nat) {l : List VT} {i p : Nat} {l' : List VT} {i' p' : Nat}, i ≤ s.size → p ≤ 256 → pMore s rec m c l i p = .ok (l', i', p') → i ≤ i' ∧ i' ≤ s.size ∧ p ≤ p' ∧ p' ≤ 256 ∧ l'.length ≤ l.length + c
  | 0, l, i, p, l', i', p', hi, hp, h => by
    rw [pMore] at h
    injection h with h
    injection h with h1 h2
    injection h2 with h2 h3
    subst h1 h2 h3
    omega
  | c + 1, l, i, p, l', i', p', hi, hp, h => by
    rw [pMore] at h
    split at h
    · rename_i hb
      have hlt := isB_lt (by omega) hb
      split at h
      · cases h
      · rename_i l2 i2 p2 he
        have h1 := pOne_goes hr (by omega) hp he
        have h2 := pMore_goes c (by omega) (by omega) h
        omega
    · injection h with h
      injection h with h1 h2
      injection h2 with h2 h3
      subst h1 h2 h3
      omega
theorem pTwo_goes {m m' : Int → Bool} {i p : Nat} {l' : List VT} {i' p' : Nat} (hi : i ≤ s.size) (hp : p ≤ 256) (h : pTwo s rec m m' i p = .ok (l', i', p')) : i ≤ i' ∧ i' ≤ s.size ∧ p ≤ p' ∧ p' ≤ 256 := by
  unfold pTwo at h
  split at h
  · cases h
  · rename_i l2 i2 p2 he
    have h1 := pOne_goes hr hi hp he
    split at h
    · rename_i hb
      have hlt := isB_lt (by omega) hb
      have h2 := pOne_goes hr (by omega) (by omega) h
      omega
    · cases h
omit hr in
theorem withN_ok {n n' : Int} {r : Except Nat (List VT × Nat × Nat)} {x : List VT × Nat × Nat} (h : withN n r = .ok (n', x)) : n' = n ∧ r = .ok x := by
  unfold withN at h
  split at h
  · cases h
  · injection h with h
    injection h with h1 h2
    subst h1 h2
    exact ⟨rfl, rfl⟩
omit hr in
theorem pNum_ok {most i : Nat} {rest : Nat → Except Nat (List VT × Nat × Nat)} {n' : Int} {x : List VT × Nat × Nat} (h : pNum s most i rest = .ok (n', x)) : ∃ (n i2 : Nat), num s most i = .ok (n, i2) ∧ n' = n ∧ rest i2 = .ok x := by
  unfold pNum at h
  split at h
  · cases h
  · rename_i n i2 he
    have := withN_ok h
    exact ⟨n, i2, he, this.1, this.2⟩
theorem pList_goes {k i p : Nat} {n : Int} {l : List VT} {i' p' : Nat} (hi : i ≤ s.size) (hp : p ≤ 256) (h : pList s rec k i p = .ok (n, l, i', p')) : i ≤ i' ∧ i' ≤ s.size ∧ p ≤ p' ∧ p' ≤ 256 ∧ 0 ≤ n ∧ n ≤ 9223372036854775807 := by
  unfold pList at h
  split at h
  · obtain ⟨rfl, h9⟩ := withN_ok h
    have := pTwo_goes hr hi hp h9; omega
  · obtain ⟨n2, i2, he, rfl, h9⟩ := pNum_ok h
    have := num_ok he hi (by omega)
    injection h9 with h9
    injection h9 with h1 h2
    injection h2 with h2 h3
    omega
  · obtain ⟨n2, i2, he, rfl, h9⟩ := pNum_ok h
    have := num_ok he hi (by omega)
    injection h9 with h9
    injection h9 with h1 h2
    injection h2 with h2 h3
    omega
  · obtain ⟨rfl, h9⟩ := withN_ok h
    have := pTwo_goes hr hi hp h9; omega
  · obtain ⟨rfl, h9⟩ := withN_ok h
    have := pOne_goes hr hi hp h9; omega
  · obtain ⟨rfl, h9⟩ := withN_ok h
    have := pOne_goes hr hi hp h9; omega
  · split at h
    · injection h with h
      injection h with h0 h
      injection h with h1 h2
      injection h2 with h2 h3
      omega
    · split at h
      · cases h
      · rename_i l2 i2 p2 he
        have h1 := pOne_goes hr hi hp he
        obtain ⟨rfl, h9⟩ := withN_ok h
        have h2 := pMore_goes hr 15 (by omega) (by omega) h9
        omega
  · obtain ⟨n2, i2, he, rfl, h9⟩ := pNum_ok h
    have h0 := num_ok he hi (by omega)
    split at h9
    · rename_i hb
      have hlt := isB_lt (by omega) hb
      split at h9
      · cases h9
      · rename_i l2 i3 p3 he
        have h1 := pOne_goes hr (by omega) hp he
        have h2 := pMore_goes hr 8 (by omega) (by omega) h9
        omega
    · cases h9
  · obtain ⟨n2, i2, he, rfl, h9⟩ := pNum_ok h
    have h0 := num_ok he hi (by omega)
    have h2 := pMore_goes hr 8 (by omega) (by omega) h9
    omega
  · obtain ⟨n2, i2, he, rfl, h9⟩ := pNum_ok h
    have h0 := num_ok he hi (by omega)
    have h2 := pMore_goes hr 8 (by omega) (by omega) h9
    omega
  · injection h with h
    injection h with h0 h
    injection h with h1 h2
    injection h2 with h2 h3
    omega
end
theorem findC_some {s : ByteArray} {st n : Nat} {m : Int → Bool} : ∀ {f j k : Nat}, findC s st n m f j = some k → cand s st n m k = true ∧ j ≤ k ∧ k < j + f
  | 0, j, k, h => by rw [findC] at h; cases h
  | f + 1, j, k, h => by
    rw [findC] at h
    split at h
    · rename_i hc
      injection h with h
      subst h
      exact ⟨hc, by omega⟩
    · have := findC_some h
      exact ⟨this.1, by omega, by omega⟩
theorem cand_lt {s : ByteArray} {st n k : Nat} {m : Int → Bool} (h : cand s st n m k = true) : st + n < s.size ∧ n < (wdB k).size ∧ m k = true := by
  unfold cand at h
  simp only [Bool.and_eq_true, decide_eq_true_eq] at h
  exact ⟨isB_lt (by rw [bt_in h.1.1.1]; omega) h.2, h.1.1.1, h.1.1.2⟩
theorem wordGo_goes {s : ByteArray} {st : Nat} {m : Int → Bool} : ∀ {f n k j : Nat}, wordGo s st m f n = .ok (k, j) → st + n < j ∧ j ≤ s.size ∧ k < 14 ∧ m k = true ∧ 0 < (wdB k).size
  | 0, n, k, j, h => by rw [wordGo] at h; cases h
  | f + 1, n, k, j, h => by
    rw [wordGo] at h
    split at h
    · cases h
    · rename_i k2 he
      have h1 := findC_some he
      have h2 := cand_lt h1.1
      split at h
      · injection h with h
        injection h with h3 h4
        subst h3 h4
        exact ⟨by omega, by omega, by omega, h2.2.2, by omega⟩
      · have := wordGo_goes h
        exact ⟨by omega, by omega, by omega, this.2.2.2⟩
theorem word_goes {s : ByteArray} {st : Nat} {m : Int → Bool} {k j : Nat} (h : word s st m = .ok (k, j)) : st < j ∧ j ≤ s.size ∧ k < 14 ∧ m k = true ∧ 0 < (wdB k).size := wordGo_goes h
theorem pVal_goes (s : ByteArray) : ∀ f, Goes s (pVal s f)
  | 0, m, i, p, t, i', p', hi, hp, h => by rw [pVal] at h; cases h
  | f + 1, m, i, p, t, i', p', hi, hp, h => by
    rw [pVal] at h
    split at h
    · cases h
    · split at h
      · rename_i hb
        have hlt : i < s.size := by
          simp only [Bool.or_eq_true] at hb
          rcases hb with hb | hb
          · exact isB_lt (by omega) hb
          · exact dig_lt hb
        split at h
        · unfold integer at h
          split at h
          · split at h
            · cases h
            · split at h
              · cases h
              · rename_i n j he
                have := num_ok he (by omega) (by omega)
                injection h with h
                injection h with h1 h2
                injection h2 with h2 h3
                omega
          · split at h
            · cases h
            · rename_i n j he
              have := num_ok he (by omega) (by omega)
              injection h with h
              injection h with h1 h2
              injection h2 with h2 h3
              omega
        · cases h
      · split at h
        · cases h
        · rename_i k j he
          have hw := word_goes he
          split at h
          · injection h with h
            injection h with h1 h2
            injection h2 with h2 h3
            omega
          · split at h
            · rename_i hb
              have hlt := isB_lt (by omega) hb
              split at h
              · cases h
              · rename_i n l j' p2 hl
                have h1 := pList_goes (pVal_goes s f) (by omega) (by omega) hl
                split at h
                · rename_i hb2
                  have hlt2 := isB_lt (by omega) hb2
                  injection h with h
                  injection h with h1 h2
                  injection h2 with h2 h3
                  omega
                · cases h
            · cases h
end Go.Proofs.YtkahboomahhdoaaDoor
