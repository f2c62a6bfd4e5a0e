/-
  The reference's value reads what the program's value reads: plain.
-/
import Derived.Test.YtkahboomahhdoaaDoorRr4
namespace Go.Proofs.YtkahboomahhdoaaDoor
open Go.RowKit

abbrev LRes := Except Nat (List VT × Nat × Nat)
/-- One value more. -/
def pThen (r : Except Nat (VT × Nat × Nat)) (l : List VT) (go : List VT → Nat → Nat → LRes) : LRes :=
  match r with
  | .error j => .error j
  | .ok (t, i, p) => go (l ++ [t]) i p
def clo (s : ByteArray) (l : List VT) (i p : Nat) : LRes := if isB s i 41 then .ok (l, i + 1, p) else .error i
def closeP (s : ByteArray) (r : LRes) : LRes := match r with
  | .error j => .error j
  | .ok (l, i, p) => clo s l i p
/-- What stands in the parentheses, with the last one, as the reference reads it. -/
def rTail (s : ByteArray) (rec : Rec) (nb : Bool) (least : Nat) (m1 m2 : Int → Bool) : Nat → Nat → List VT → Nat → Nat → LRes
  | 0, _, l, i, p => clo s l i p
  | c + 1, n, l, i, p =>
    if decide (least ≤ n) && isB s i 41 then .ok (l, i + 1, p)
    else if decide (0 < n) || nb then
      if isB s i 44 then pThen (rec (if n = 0 then m1 else m2) (i + 1) p) l (rTail s rec nb least m1 m2 c (n + 1)) else .error i
    else pThen (rec (if n = 0 then m1 else m2) i p) l (rTail s rec nb least m1 m2 c (n + 1))
theorem isB_two {s : ByteArray} {i : Nat} {c d : Int} (h : isB s i c = true) (hcd : c ≠ d) : isB s i d = false := by
  unfold isB at *
  rw [decide_eq_true_eq] at h
  rw [decide_eq_false_iff_not, h]
  exact hcd
theorem more_tail {s : ByteArray} {rec : Rec} {nb : Bool} {least : Nat} {m1 m2 : Int → Bool} : ∀ (c n : Nat) (l : List VT) (i p : Nat), least ≤ n → (0 < n ∨ (nb = true ∧ m1 = m2)) → rTail s rec nb least m1 m2 c n l i p = closeP s (pMore s rec m2 c l i p)
  | 0, n, l, i, p, h1, h2 => rfl
  | c + 1, n, l, i, p, h1, h2 => by
    rw [rTail, pMore]
    have hl : decide (least ≤ n) = true := by simpa using h1
    have hc : (decide (0 < n) || nb) = true := by
      rcases h2 with h | ⟨h, _⟩
      · simp [h]
      · simp [h]
    have hm : (if n = 0 then m1 else m2) = m2 := by
      split
      · rename_i h0
        rcases h2 with h | ⟨_, h⟩
        · omega
        · exact h
      · rfl
    rw [hl, hc, hm, Bool.true_and, if_pos rfl]
    cases h41 : isB s i 41 with
    | true =>
      rw [if_pos rfl, isB_two h41 (by decide), if_neg (by simp)]
      simp only [closeP, clo, h41, if_true]
    | false =>
      rw [if_neg (by simp)]
      cases h44 : isB s i 44 with
      | true =>
        rw [if_pos rfl, if_pos rfl]
        unfold pThen pOne
        cases rec m2 (i + 1) p with
        | error j => rfl
        | ok x =>
          obtain ⟨t, i2, p2⟩ := x
          exact more_tail c (n + 1) (l ++ [t]) i2 p2 (by omega) (.inl (by omega))
      | false =>
        rw [if_neg (by simp), if_neg (by simp)]
        simp only [closeP, clo, h41, Bool.false_eq_true, if_false]

/-- The greatest number of a Kind. -/
def mostN (k : Nat) : Nat := if k = 4 ∨ k = 13 then 9223372036854775807 else 63
/-- What stands behind the first parenthesis: the number, then the values, as the reference reads it. -/
def rList (s : ByteArray) (rec : Rec) (k i p : Nat) : Except Nat (Int × List VT × Nat × Nat) :=
  if numd k then match num s (mostN k) i with
    | .error j => .error j
    | .ok (n, i') => withN n (rTail s rec true (needs k).1 (asM (needs k).2.2.1) (asM (needs k).2.2.2) (needs k).2.1 0 [] i' p)
  else withN 0 (rTail s rec false (needs k).1 (asM (needs k).2.2.1) (asM (needs k).2.2.2) (needs k).2.1 0 [] i p)
def pClose (s : ByteArray) (r : Except Nat (Int × List VT × Nat × Nat)) : Except Nat (Int × List VT × Nat × Nat) := match r with
  | .error j => .error j
  | .ok (n, l, i, p) => withN n (clo s l i p)
theorem pClose_with (s : ByteArray) (n : Int) (r : LRes) : pClose s (withN n r) = withN n (closeP s r) := by
  cases r with
  | error j => rfl
  | ok x => obtain ⟨l, i, p⟩ := x; rfl
theorem pClose_num (s : ByteArray) (most i : Nat) (rest : Nat → LRes) : pClose s (pNum s most i rest) = match num s most i with
    | .error j => .error j
    | .ok (n, i') => withN n (closeP s (rest i')) := by
  unfold pNum
  cases num s most i with
  | error j => rfl
  | ok x => obtain ⟨n, i'⟩ := x; exact pClose_with s n _
theorem asM0 : asM 0 = mAny := rfl
theorem asM1 : asM 1 = mChan := rfl
theorem asM2 : asM 2 = mEv := rfl
theorem tail_two (s : ByteArray) (rec : Rec) (m1 m2 : Int → Bool) (i p : Nat) : rTail s rec false 2 m1 m2 2 0 [] i p = closeP s (pTwo s rec m1 m2 i p) := by
  rw [rTail]
  simp only [decide_false, Bool.false_eq_true, if_false, Nat.lt_irrefl, Bool.or_false, if_true]
  unfold pTwo pOne pThen
  cases rec m1 i p with
  | error j => rfl
  | ok x =>
    obtain ⟨t, i2, p2⟩ := x
    dsimp only
    rw [rTail]
    have e1 : decide (2 ≤ 0 + 1) = false := by decide
    have e2 : (decide (0 < 0 + 1) || false) = true := by decide
    have e3 : (if 0 + 1 = 0 then m1 else m2) = m2 := rfl
    rw [e1, e2, e3, Bool.false_and, if_neg (by simp), if_pos rfl]
    cases isB s i2 44 with
    | false => rfl
    | true =>
      rw [if_pos rfl, if_pos rfl]
      unfold pThen
      cases rec m2 (i2 + 1) p2 with
      | error j => rfl
      | ok x => obtain ⟨t3, i3, p3⟩ := x; rfl
theorem tail_one (s : ByteArray) (rec : Rec) (m1 m2 : Int → Bool) (i p : Nat) : rTail s rec false 1 m1 m2 1 0 [] i p = closeP s (pOne rec m1 [] i p) := by
  rw [rTail]
  simp only [decide_false, Bool.false_eq_true, if_false, Nat.lt_irrefl, Bool.or_false, if_true]
  unfold pOne pThen
  cases rec m1 i p with
  | error j => rfl
  | ok x => obtain ⟨t, i2, p2⟩ := x; rfl
theorem rList_eq (s : ByteArray) (rec : Rec) (k i p : Nat) (hk : k < 14) (h2 : k ≠ 2) (h0 : k ≠ 0) (hl : ¬ (k = 1 ∨ k = 8)) : rList s rec k i p = pClose s (pList s rec k i p) := by
  have h : k = 3 ∨ k = 4 ∨ k = 5 ∨ k = 6 ∨ k = 7 ∨ k = 9 ∨ k = 10 ∨ k = 11 ∨ k = 12 ∨ k = 13 := by omega
  rcases h with rfl | rfl | rfl | rfl | rfl | rfl | rfl | rfl | rfl | rfl
  · show withN 0 (rTail s rec false 2 mAny mAny 2 0 [] i p) = pClose s (withN 0 (pTwo s rec mAny mAny i p))
    rw [pClose_with, tail_two]
  · show _ = pClose s (pNum s 9223372036854775807 i fun i' => .ok ([], i', p))
    rw [pClose_num]; rfl
  · show withN 0 (rTail s rec false 2 mChan mAny 2 0 [] i p) = pClose s (withN 0 (pTwo s rec mChan mAny i p))
    rw [pClose_with, tail_two]
  · show withN 0 (rTail s rec false 1 mChan mAny 1 0 [] i p) = pClose s (withN 0 (pOne rec mChan [] i p))
    rw [pClose_with, tail_one]
  · show withN 0 (rTail s rec false 1 mAny mAny 1 0 [] i p) = pClose s (withN 0 (pOne rec mAny [] i p))
    rw [pClose_with, tail_one]
  · show withN 0 (rTail s rec false 0 mEv mEv 16 0 [] i p) = pClose s (if isB s i 41 then .ok (0, [], i, p) else
      match pOne rec mEv [] i p with
      | .error j => .error j
      | .ok (l, i', p') => withN 0 (pMore s rec mEv 15 l i' p'))
    rw [rTail]
    have e1 : decide (0 ≤ 0) = true := by decide
    have e2 : (decide (0 < 0) || false) = false := by decide
    rw [e1, e2, Bool.true_and]
    cases h41 : isB s i 41 with
    | true =>
      rw [if_pos rfl, if_pos rfl]
      show _ = withN 0 (clo s [] i p)
      rw [clo, h41]; rfl
    | false =>
      show withN 0 (pThen (rec mEv i p) [] (rTail s rec false 0 mEv mEv 15 (0 + 1))) = pClose s (match pOne rec mEv [] i p with
      | .error j => .error j
      | .ok (l, i', p') => withN 0 (pMore s rec mEv 15 l i' p'))
      unfold pThen pOne
      cases rec mEv i p with
      | error j => rfl
      | ok x =>
        obtain ⟨t, i2, p2⟩ := x
        dsimp only
        rw [pClose_with, more_tail 15 (0 + 1) _ i2 p2 (by omega) (.inl (by omega))]
  · show _ = pClose s (pNum s 63 i fun i' =>
      if isB s i' 44 then
        match pOne rec mEv [] (i' + 1) p with
        | .error j => .error j
        | .ok (l, i2, p') => pMore s rec mAny 8 l i2 p'
      else .error i')
    rw [pClose_num]
    show (match num s 63 i with
      | .error j => (.error j : Except Nat (Int × List VT × Nat × Nat))
      | .ok (n, i') => withN n (rTail s rec true 1 mEv mAny 9 0 [] i' p)) = _
    cases num s 63 i with
    | error j => rfl
    | ok x =>
      obtain ⟨n, i'⟩ := x
      dsimp only
      congr 1
      rw [rTail]
      have e1 : decide (1 ≤ 0) = false := by decide
      have e2 : (decide (0 < 0) || true) = true := by decide
      rw [e1, e2, Bool.false_and, if_neg (by simp), if_pos rfl, if_pos rfl]
      cases isB s i' 44 with
      | false => rfl
      | true =>
        rw [if_pos rfl, if_pos rfl]
        unfold pThen pOne
        cases rec mEv (i' + 1) p with
        | error j => rfl
        | ok x =>
          obtain ⟨t, i2, p2⟩ := x
          exact more_tail 8 (0 + 1) _ i2 p2 (by omega) (.inl (by omega))
  · show _ = pClose s (pNum s 63 i fun i' => pMore s rec mAny 8 [] i' p)
    rw [pClose_num]
    show (match num s 63 i with
      | .error j => (.error j : Except Nat (Int × List VT × Nat × Nat))
      | .ok (n, i') => withN n (rTail s rec true 0 mAny mAny 8 0 [] i' p)) = _
    cases num s 63 i with
    | error j => rfl
    | ok x =>
      obtain ⟨n, i'⟩ := x
      dsimp only
      rw [more_tail 8 0 [] i' p (by omega) (.inr ⟨rfl, rfl⟩)]
  · show _ = pClose s (pNum s 63 i fun i' => pMore s rec mAny 8 [] i' p)
    rw [pClose_num]
    show (match num s 63 i with
      | .error j => (.error j : Except Nat (Int × List VT × Nat × Nat))
      | .ok (n, i') => withN n (rTail s rec true 0 mAny mAny 8 0 [] i' p)) = _
    cases num s 63 i with
    | error j => rfl
    | ok x =>
      obtain ⟨n, i'⟩ := x
      dsimp only
      rw [more_tail 8 0 [] i' p (by omega) (.inr ⟨rfl, rfl⟩)]
  · show _ = pClose s (pNum s 9223372036854775807 i fun i' => .ok ([], i', p))
    rw [pClose_num]; rfl

theorem first_letter : ∀ k : Fin 14, ∀ c, (wdl k)[0]? = some c → 97 ≤ c.toNat := by decide
theorem word_none {s : ByteArray} {i : Nat} {m : Int → Bool} (h : bt s i < 97) : word s i m = .error i := by
  have hn : findC s i 0 m 14 0 = none := by
    rcases hc : findC s i 0 m 14 0 with _ | k
    · rfl
    · exfalso
      have h1 := findC_some hc
      obtain ⟨c1, c2, c3, c4⟩ := cand_sub h1.1
      rw [sub_eq] at c1
      obtain ⟨c, hc1, hc2⟩ := bt_list s i (by omega)
      have e1 : (s.data.toList.drop i)[0]? = some c := by rw [List.getElem?_drop]; exact hc1
      have h9 := congrArg (fun x => x[0]?) c1
      simp only [List.getElem?_take, if_pos (Nat.lt_succ_self 0), e1] at h9
      have := first_letter ⟨k, by omega⟩ c h9.symm
      omega
  unfold word
  rw [wordGo, hn]
  rfl
/-- The reference's way through a value. -/
def rVal (s : ByteArray) (rec : Rec) (sa : Int) (i p : Nat) : Except Nat (VT × Nat × Nat) :=
  if s.size ≤ i ∨ 256 ≤ p then .error i
  else if sa = 0 ∧ dig s i = true then match num s 9223372036854775807 i with
    | .error j => .error j
    | .ok (n, j) => .ok (.mk 2 n [], j, p + 1)
  else if sa = 0 ∧ isB s i 45 = true then match rnum s 9223372036854775808 1 (i + 1) false with
    | .error j => .error j
    | .ok (n, j) => .ok (.mk 2 (-n) [], j, p + 1)
  else match rword s i (asM sa) with
    | .error j => .error j
    | .ok (k, j) => if k = 1 ∨ k = 8 then .ok (.mk k 0 [], j, p + 1) else if isB s j 40 then match rList s rec k (j + 1) (p + 1) with
      | .error j' => .error j'
      | .ok (n, l, j', p') => .ok (.mk k n l, j', p')
      else .error j
theorem dig_not {s : ByteArray} {i : Nat} (h : dig s i = true) : isB s i 45 = false := by
  have := dig_bt h
  unfold isB
  rw [decide_eq_false_iff_not]
  omega
theorem pVal_ref (s : ByteArray) (f : Nat) (sa : Int) (i p : Nat) (ha : sa = 0 ∨ sa = 1 ∨ sa = 2) : pVal s (f + 1) (asM sa) i p = rVal s (pVal s f) sa i p := by
  unfold rVal
  rw [pVal]
  by_cases hp : 256 ≤ p
  · rw [if_pos hp, if_pos (show s.size ≤ i ∨ 256 ≤ p from .inr hp)]
  · rw [if_neg hp]
    by_cases hi : s.size ≤ i
    · have hb : bt s i = -1 := bt_out (by omega)
      have e1 : isB s i 45 = false := by unfold isB; rw [hb]; rfl
      have e2 : dig s i = false := by unfold dig; rw [hb]; rfl
      rw [if_pos (show s.size ≤ i ∨ 256 ≤ p from .inl hi), e1, e2, if_neg (show ¬ (false || false) = true by decide), word_none (by omega)]
    · rw [if_neg (show ¬ (s.size ≤ i ∨ 256 ≤ p) by omega)]
      cases hd : dig s i with
      | true =>
        have hb := dig_bt hd
        have e1 := dig_not hd
        rw [e1, if_pos (show (false || true) = true from rfl)]
        rcases ha with rfl | rfl | rfl
        · rw [if_pos (show asM 0 2 = true from rfl), if_pos (show (0 : Int) = 0 ∧ true = true from ⟨rfl, rfl⟩)]
          unfold integer
          rw [e1]
          rfl
        · rw [if_neg (show ¬ asM 1 2 = true by decide), if_neg (show ¬ ((1 : Int) = 0 ∧ true = true) by decide), if_neg (show ¬ ((1 : Int) = 0 ∧ false = true) by decide), rword_eq, word_none (by omega)]
        · rw [if_neg (show ¬ asM 2 2 = true by decide), if_neg (show ¬ ((2 : Int) = 0 ∧ true = true) by decide), if_neg (show ¬ ((2 : Int) = 0 ∧ false = true) by decide), rword_eq, word_none (by omega)]
      | false =>
        rw [if_neg (show ¬ (sa = 0 ∧ false = true) by simp)]
        cases hm : isB s i 45 with
        | true =>
          have hb : bt s i = 45 := by unfold isB at hm; simpa using hm
          rw [if_pos (show (true || false) = true from rfl)]
          rcases ha with rfl | rfl | rfl
          · rw [if_pos (show asM 0 2 = true from rfl), if_pos (show (0 : Int) = 0 ∧ true = true from ⟨rfl, rfl⟩)]
            unfold integer
            rw [hm, if_pos (show true = true from rfl)]
            unfold rnum
            rw [if_neg (show ¬ false = true by decide)]
            cases h48 : isB s (i + 1) 48 with
            | true =>
              have hb2 : bt s (i + 1) = 48 := by unfold isB at h48; simpa using h48
              have hd2 : dig s (i + 1) = true := by unfold dig; rw [hb2]; rfl
              have e9 : (dig s (i + 1) && decide ((bt s (i + 1) - 48).toNat < 1)) = true := by rw [hd2, hb2]; rfl
              rw [e9]
              rfl
            | false =>
              have hb2 : bt s (i + 1) ≠ 48 := by unfold isB at h48; simpa using h48
              have e9 : (dig s (i + 1) && decide ((bt s (i + 1) - 48).toNat < 1)) = false := by
                cases hd2 : dig s (i + 1) with
                | false => rfl
                | true =>
                  have := dig_bt hd2
                  simp
                  omega
              rw [e9]
              rfl
          · rw [if_neg (show ¬ asM 1 2 = true by decide), if_neg (show ¬ ((1 : Int) = 0 ∧ true = true) by decide), rword_eq, word_none (by omega)]
          · rw [if_neg (show ¬ asM 2 2 = true by decide), if_neg (show ¬ ((2 : Int) = 0 ∧ true = true) by decide), rword_eq, word_none (by omega)]
        | false =>
          rw [if_neg (show ¬ (false || false) = true by decide), if_neg (show ¬ (sa = 0 ∧ false = true) by simp), rword_eq]
          rcases hw : word s i (asM sa) with j | ⟨k, j⟩
          · rfl
          · dsimp only
            have hg := word_goes hw
            by_cases hl : k = 1 ∨ k = 8
            · rw [if_pos hl, if_pos hl]
            · rw [if_neg hl, if_neg hl, rList_eq s (pVal s f) k (j + 1) (p + 1) hg.2.2.1 ?_ ?_ hl]
              · cases isB s j 40 with
                | false => rfl
                | true =>
                  rcases pList s (pVal s f) k (j + 1) (p + 1) with j' | ⟨n, l, j', p'⟩
                  · rfl
                  · unfold pClose clo
                    dsimp only
                    cases isB s j' 41 <;> rfl
              · intro e; subst e; exact absurd hg.2.2.2.2 (by decide)
              · intro e; subst e; exact absurd hg.2.2.2.2 (by decide)
end Go.Proofs.YtkahboomahhdoaaDoor
