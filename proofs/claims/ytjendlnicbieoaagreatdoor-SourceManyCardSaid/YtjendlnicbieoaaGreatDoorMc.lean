/-
  SourceMany's texts: what they are read as. Plain, no walk.
-/
import Derived.Test.YtjendlnicbieoaaGreatDoorKcKd
namespace Go.Proofs.YtjendlnicbieoaaGreatDoor

/-- A function's name; a parameter's. -/
def mNm (i : Nat) : Bs := [102, UInt8.ofNat (97 + i % 10), UInt8.ofNat (97 + i / 10)]
def mPn (j : Nat) : Bs := [120, UInt8.ofNat (97 + j)]
/-- Parameters from one on, with a comma ahead (c) or not. -/
def mPs : Nat → Nat → Bool → Bs
  | 0, _, _ => []
  | m + 1, j, c => (if c = true then [44, 32] else []) ++ mPn j ++ mPs m (j + 1) true
def mFn (m lines i : Nat) : Bs := wFun ++ 32 :: (mNm i ++ 40 :: ((if i = 1 then mPs m 0 false else []) ++ [41, 32, 61, 32, 49] ++ List.replicate lines 10 ++ [32]))
/-- Functions from one on. -/
def mTx (m lines : Nat) : Nat → Nat → Bs
  | 0, _ => []
  | n + 1, i => mFn m lines i ++ mTx m lines n (i + 1)
theorem mTx_snoc (m lines : Nat) : ∀ n i, mTx m lines (n + 1) i = mTx m lines n i ++ mFn m lines (i + n)
  | 0, i => by simp [mTx]
  | n + 1, i => by rw [mTx, mTx_snoc m lines n (i + 1), mTx, List.append_assoc, show i + 1 + n = i + (n + 1) by omega]
theorem mPs_snoc : ∀ m j c, mPs (m + 1) j c = mPs m j c ++ ((if (c || decide (0 < m)) = true then [44, 32] else []) ++ mPn (j + m))
  | 0, j, c => by cases c <;> simp [mPs]
  | m + 1, j, c => by
    rw [mPs, mPs_snoc m (j + 1) true, mPs]
    simp [show j + 1 + m = j + (m + 1) by omega]
/-- The tokens. -/
def mTP (ln : Nat) : Nat → Nat → Bool → List Tk
  | 0, _, _ => []
  | m + 1, j, c => (if c = true then [tm 44 ln] else []) ++ tw (mPn j) ln :: mTP ln m (j + 1) true
def mTk (m ln i : Nat) : List Tk := tw wFun ln :: tw (mNm i) ln :: tm 40 ln :: ((if i = 1 then mTP ln m 0 false else []) ++ [tm 41 ln, tm 61 ln, ⟨3, [49], ln⟩])
theorem nm_ok : ((List.range 70).all fun i => isAn (UInt8.ofNat (97 + i % 10)) && isAn (UInt8.ofNat (97 + i / 10)) && (kwOf (mNm i)).isNone && !((List.range i).map mNm).contains (mNm i)) = true := by kernel_rfl
theorem pn_ok : ((List.range 15).all fun i => isAn (UInt8.ofNat (97 + i)) && (kwOf (mPn i)).isNone && !((List.range i).map mPn).contains (mPn i)) = true := by kernel_rfl
theorem nm_at {i : Nat} (h : i < 70) : isAn (UInt8.ofNat (97 + i % 10)) = true ∧ isAn (UInt8.ofNat (97 + i / 10)) = true ∧ (kwOf (mNm i)).isNone = true ∧ ((List.range i).map mNm).contains (mNm i) = false := by
  have := List.all_eq_true.1 nm_ok i (List.mem_range.2 h)
  simpa only [Bool.and_eq_true, Bool.not_eq_true', and_assoc] using this
theorem pn_at {i : Nat} (h : i < 15) : isAn (UInt8.ofNat (97 + i)) = true ∧ (kwOf (mPn i)).isNone = true ∧ ((List.range i).map mPn).contains (mPn i) = false := by
  have := List.all_eq_true.1 pn_ok i (List.mem_range.2 h)
  simpa only [Bool.and_eq_true, Bool.not_eq_true', and_assoc] using this
theorem sep_mPs (m j : Nat) (l : Bs) (hl : sepS l) : sepS (mPs m j true ++ l) := by
  cases m with
  | zero => exact hl
  | succ m => exact sep_of (by decide)
theorem lex_mPs {ln : Nat} {l : Bs} (hl : sepS l) : ∀ (m j : Nat) (c : Bool), j + m ≤ 15 → lex (mPs m j c ++ l) ln = mTP ln m j c ++ lex l ln
  | 0, j, c, _ => rfl
  | m + 1, j, c, h => by
    have ih := lex_mPs (ln := ln) hl m (j + 1) true (by omega)
    have hw := lex_word (c := 120) (u := [UInt8.ofNat (97 + j)]) (l := mPs m (j + 1) true ++ l) (n := ln) (by decide) (by rw [List.all_cons, (pn_at (i := j) (by omega)).1]; rfl) (by simp) (sep_mPs m (j + 1) l hl)
    rw [mPs, mTP]
    cases c with
    | false =>
      show lex (120 :: ([UInt8.ofNat (97 + j)] ++ (mPs m (j + 1) true ++ l))) ln = _
      rw [hw, ih]
      rfl
    | true =>
      show lex (44 :: 32 :: 120 :: ([UInt8.ofNat (97 + j)] ++ (mPs m (j + 1) true ++ l))) ln = _
      rw [lex_mark (by simp), lex_sp, hw, ih]
      rfl
theorem lex_mFn {m lines i ln : Nat} {l : Bs} (hi : i < 70) (hm : m ≤ 15) : lex (mFn m lines i ++ l) ln = mTk m ln i ++ lex l (ln + lines) := by
  obtain ⟨h1, h2, -, -⟩ := nm_at hi
  have l1 := fun x => lex_wd (w := wFun) (l := 32 :: x) (ln := ln) ⟨102, [117, 110], rfl, by decide, by decide, by decide⟩ (sep_sp _)
  have l2 := fun x => lex_word (c := 102) (u := [UInt8.ofNat (97 + i % 10), UInt8.ofNat (97 + i / 10)]) (l := 40 :: x) (n := ln) (by decide) (by rw [List.all_cons, List.all_cons, h1, h2]; rfl) (by simp) (sep_of (by decide))
  have l3 := fun x => lex_mPs (ln := ln) (l := 41 :: x) (sep_of (by decide)) m 0 false (by omega)
  have l4 : lex (49 :: (List.replicate lines 10 ++ 32 :: l)) ln = ⟨3, [49], ln⟩ :: lex l (ln + lines) := by
    rw [lex_one, lex_nls, lex_sp]
    cases lines with
    | zero => exact sep_sp _
    | succ k => exact sep_of (by decide)
  unfold mFn mTk
  have e : (wFun ++ 32 :: (mNm i ++ 40 :: ((if i = 1 then mPs m 0 false else []) ++ [41, 32, 61, 32, 49] ++ List.replicate lines 10 ++ [32]))) ++ l = wFun ++ 32 :: (102 :: ([UInt8.ofNat (97 + i % 10), UInt8.ofNat (97 + i / 10)] ++ 40 :: ((if i = 1 then mPs m 0 false else []) ++ 41 :: 32 :: 61 :: 32 :: 49 :: (List.replicate lines 10 ++ 32 :: l)))) := by
    simp [mNm]
  rw [e, l1, lex_sp, l2, lex_mark (by simp)]
  by_cases h : i = 1
  · rw [if_pos h, if_pos h, l3, lex_mark (by simp), lex_sp, lex_mark (by simp), lex_sp, l4]
    simp [mNm, tw, tm]
  · rw [if_neg h, if_neg h, List.nil_append, lex_mark (by simp), lex_sp, lex_mark (by simp), lex_sp, l4]
    simp [mNm, tw, tm]
/-- The tokens of functions from one on. -/
def mTks (m lines : Nat) : Nat → Nat → Nat → List Tk
  | 0, _, ln => [⟨0, [], ln⟩]
  | n + 1, i, ln => mTk m ln i ++ mTks m lines n (i + 1) (ln + lines)
theorem lex_mTx {m lines : Nat} (hm : m ≤ 15) : ∀ (n i ln : Nat), i + n ≤ 70 → lex (mTx m lines n i) ln = mTks m lines n i ln
  | 0, i, ln, _ => lex_nil ln
  | n + 1, i, ln, h => by rw [mTx, lex_mFn (by omega) hm, lex_mTx hm n (i + 1) (ln + lines) (by omega), mTks]
theorem isN_mPn {j ln : Nat} (h : j < 15) (T : List Tk) : isN (tw (mPn j) ln :: T) = true := by
  show ((2 == 2) && (kwOf (mPn j)).isNone) = true
  rw [(pn_at h).2.1]
  rfl
theorem isN_mNm {j ln : Nat} (h : j < 70) (T : List Tk) : isN (tw (mNm j) ln :: T) = true := by
  show ((2 == 2) && (kwOf (mNm j)).isNone) = true
  rw [(nm_at h).2.2.1]
  rfl
theorem mTP_ne (ln m j : Nat) (c : Bool) : mTP ln (m + 1) j c ≠ [] := by cases c <;> simp [mTP]
/-- Parameters, at most nine. -/
theorem pPars_m {ln : Nat} {R : List Tk} : ∀ (m j f : Nat), j + (m + 1) ≤ 9 → m + 1 ≤ f → pPars f ((List.range j).map mPn) (mTP ln (m + 1) j false ++ tm 41 ln :: R) = .ok ((List.range (j + (m + 1))).map mPn, tm 41 ln :: R)
  | m, j, 0, _, h => by omega
  | m, j, f + 1, hj, hf => by
    have hnot := (pn_at (i := j) (by omega)).2.2
    have hs : (List.range j).map mPn ++ [mPn j] = (List.range (j + 1)).map mPn := by rw [List.range_succ, List.map_append]; rfl
    rw [pPars, mTP]
    simp only [Bool.false_eq_true, if_false, List.nil_append, List.cons_append]
    rw [if_pos (isN_mPn (by omega) _)]
    have hd1 : ∀ T, (hd (tw (mPn j) ln :: T)).s = mPn j := fun _ => rfl
    rw [hd1, hnot]
    cases m with
    | zero =>
      simp only [mTP, List.nil_append]
      rw [need_true (by simp; omega), mv_cons (by simp), if_neg (by rw [isM_ne (by decide)]; simp), hs]
    | succ m =>
      have ih := pPars_m (ln := ln) (R := R) m (j + 1) f (by omega) (by omega)
      rw [need_true (by simp; omega)]
      have e : mTP ln (m + 1) (j + 1) true = tm 44 ln :: mTP ln (m + 1) (j + 1) false := rfl
      rw [e, List.cons_append, mv_cons (by simp), if_pos (isM_tm ..), mv_cons (by simp [mTP_ne]), hs, ih, show j + 1 + (m + 1) = j + (m + 1 + 1) by omega]
/-- Parameters, more than nine. -/
theorem pPars_n {ln : Nat} {R : List Tk} : ∀ (m j f : Nat), j + (m + 1) ≤ 15 → 9 < j + (m + 1) → j ≤ 9 → m + 1 ≤ f → pPars f ((List.range j).map mPn) (mTP ln (m + 1) j false ++ tm 41 ln :: R) = .error ln
  | m, j, 0, _, _, _, h => by omega
  | m, j, f + 1, hj, h9, hj9, hf => by
    have hnot := (pn_at (i := j) (by omega)).2.2
    have hs : (List.range j).map mPn ++ [mPn j] = (List.range (j + 1)).map mPn := by rw [List.range_succ, List.map_append]; rfl
    rw [pPars, mTP]
    simp only [Bool.false_eq_true, if_false, List.nil_append, List.cons_append]
    rw [if_pos (isN_mPn (by omega) _)]
    have hd1 : ∀ T, (hd (tw (mPn j) ln :: T)).s = mPn j := fun _ => rfl
    rw [hd1, hnot]
    by_cases hj8 : j = 9
    · unfold need
      rw [if_neg (by simp; omega)]
      rfl
    · obtain ⟨k, rfl⟩ : ∃ k, m = k + 1 := ⟨m - 1, by omega⟩
      have ih := pPars_n (ln := ln) (R := R) k (j + 1) f (by omega) (by omega) (by omega) (by omega)
      rw [need_true (by simp; omega)]
      have e : mTP ln (k + 1) (j + 1) true = tm 44 ln :: mTP ln (k + 1) (j + 1) false := rfl
      rw [e, List.cons_append, mv_cons (by simp), if_pos (isM_tm ..), mv_cons (by simp [mTP_ne]), hs, ih]
theorem pPar_m {ln m f : Nat} {R : List Tk} (hm : m ≤ 15) (hf : m ≤ f) (hR : R ≠ []) : pPar f (tm 40 ln :: (mTP ln m 0 false ++ tm 41 ln :: R)) = if m ≤ 9 then .ok ((List.range m).map mPn, R) else .error ln := by
  unfold pPar
  rw [need_true (isM_tm ..), mv_cons (by simp)]
  cases m with
  | zero =>
    have : mTP ln 0 0 false = [] := rfl
    rw [this, List.nil_append, if_pos (isM_tm ..), sub_ok]
    dsimp only
    rw [need_true (isM_tm ..), mv_cons hR]
    rfl
  | succ m =>
    have hh : isM 41 (mTP ln (m + 1) 0 false ++ tm 41 ln :: R) = false := isM_k (by simp [tw])
    rw [if_neg (by rw [hh]; simp)]
    by_cases h9 : m + 1 ≤ 9
    · have h0 := pPars_m (ln := ln) (R := R) m 0 f (by omega) hf
      rw [Nat.zero_add] at h0
      rw [if_pos h9]
      have e : pPars f [] (mTP ln (m + 1) 0 false ++ tm 41 ln :: R) = _ := h0
      rw [e, sub_ok]
      dsimp only
      rw [need_true (isM_tm ..), mv_cons hR]
    · have e : pPars f [] (mTP ln (m + 1) 0 false ++ tm 41 ln :: R) = _ := pPars_n (ln := ln) (R := R) m 0 f (by omega) (by omega) (by omega) hf
      rw [if_neg h9, e]
      rfl
def mPN (m i : Nat) : Nat := if i = 1 then m else 0
def mPP (m i : Nat) : PP := ⟨(List.range i).map mNm, (List.range i).map fun k => (mPN m k, .cons 0 1 1 .nil .nil), []⟩
theorem pFun_m {g m i ln : Nat} {R : List Tk} (hi : i < 70) (hm : m ≤ 15) (hg : 15 ≤ g) (hR : R ≠ []) : pFun g (mPP m i) (mTk m ln i ++ R) = if i < 64 ∧ (i = 1 → m ≤ 9) then .ok (mPP m (i + 1), R) else .error ln := by
  have hnot := (nm_at hi).2.2.2
  unfold pFun mTk
  simp only [List.cons_append, List.append_assoc]
  have hw : ∀ T, isW wFun (tw wFun ln :: T) = true := fun T => isW_tw ..
  rw [hw]
  have hl : (mPP m i).fns.length = i := by simp [mPP]
  rw [hl]
  by_cases h64 : i < 64
  case neg =>
    unfold need
    rw [if_neg (show ¬ (true && decide (i < 64)) = true by simpa using h64), if_neg (show ¬ (i < 64 ∧ (i = 1 → m ≤ 9)) from fun h => h64 h.1)]
    rfl
  case pos =>
    rw [need_true (by simpa using h64), mv_cons (by simp), if_pos (isN_mNm hi _)]
    have hd1 : ∀ T, (hd (tw (mNm i) ln :: T)).s = mNm i := fun _ => rfl
    have hnot2 : (mPP m i).names.contains (mNm i) = false := hnot
    rw [hd1, hnot2, need_true (by rfl), mv_cons (by simp)]
    have hp : pPar g (tm 40 ln :: ((if i = 1 then mTP ln m 0 false else []) ++ (tm 41 ln :: tm 61 ln :: ⟨3, [49], ln⟩ :: R))) = if mPN m i ≤ 9 then .ok ((List.range (mPN m i)).map mPn, tm 61 ln :: ⟨3, [49], ln⟩ :: R) else .error ln := by
      unfold mPN
      by_cases h1 : i = 1
      · rw [if_pos h1, if_pos h1]
        exact pPar_m hm (by omega) (by simp)
      · rw [if_neg h1, if_neg h1]
        exact pPar_m (m := 0) (by omega) (by omega) (by simp)
    have hp2 : pPar g (tm 40 ln :: ((if i = 1 then mTP ln m 0 false else []) ++ ([tm 41 ln, tm 61 ln, ⟨3, [49], ln⟩] ++ R))) = _ := hp
    simp only [List.cons_append, List.nil_append] at hp2 ⊢
    rw [hp2]
    by_cases h9 : i = 1 → m ≤ 9
    · have h9' : mPN m i ≤ 9 := by
        unfold mPN
        split
        · exact h9 ‹_›
        · omega
      rw [if_pos h9', if_pos ⟨h64, h9⟩, sub_ok]
      dsimp only
      rw [need_true (isM_tm ..), mv_cons (by simp)]
      obtain ⟨x, r, rfl⟩ := List.exists_cons_of_ne_nil hR
      have hi1 : intD [49] = some 1 := by kernel_rfl
      have hpe : pE i g ((List.range (mPN m i)).map mPn) 0 (⟨3, [49], ln⟩ :: x :: r) = .ok (.cons 0 1 1 .nil .nil, [], x :: r) := by
        obtain ⟨g, rfl⟩ : ∃ k, g = k + 1 := ⟨g - 1, by omega⟩
        rw [pE, if_neg (by omega)]
        unfold pNode
        rw [if_pos (show (hd (⟨3, [49], ln⟩ :: x :: r)).k = 3 from rfl), show (hd (⟨3, [49], ln⟩ :: x :: r)).s = [49] from rfl, hi1]
        rfl
      rw [hpe, sub_ok]
      simp [mPP, List.range_succ]
    · have hm1 : i = 1 ∧ 9 < m := by
        refine ⟨Classical.byContradiction fun h => h9 fun h1 => absurd h1 h, ?_⟩
        have : i = 1 := Classical.byContradiction fun h => h9 fun h1 => absurd h1 h
        exact Nat.lt_of_not_le fun h => h9 fun _ => h
      have h9' : ¬ mPN m i ≤ 9 := by
        unfold mPN
        rw [if_pos hm1.1]
        omega
      rw [if_neg h9', if_neg (fun h => h9 h.2)]
      rfl
/-- How the reading of functions from one on ends. -/
def mEnd (m lines n i ln : Nat) : Except Nat PP := if i ≤ 1 ∧ 1 < i + n ∧ 9 < m then .error (ln + (1 - i) * lines) else if 64 < i + n then .error (ln + (64 - i) * lines) else .ok (mPP m (i + n))
theorem mEnd_1 {m lines n i ln : Nat} (h1 : i ≤ 1) (h2 : 1 < i + n) (h3 : 9 < m) : mEnd m lines n i ln = .error (ln + (1 - i) * lines) := if_pos ⟨h1, h2, h3⟩
theorem mEnd_2 {m lines n i ln : Nat} (h : ¬ (i ≤ 1 ∧ 1 < i + n ∧ 9 < m)) (h2 : 64 < i + n) : mEnd m lines n i ln = .error (ln + (64 - i) * lines) := (if_neg h).trans (if_pos h2)
theorem mEnd_3 {m lines n i ln : Nat} (h : ¬ (i ≤ 1 ∧ 1 < i + n ∧ 9 < m)) (h2 : ¬ 64 < i + n) : mEnd m lines n i ln = .ok (mPP m (i + n)) := (if_neg h).trans (if_neg h2)
theorem pFuns_m {g m lines : Nat} (hm : m ≤ 15) (hg : 15 ≤ g) : ∀ (n i ln f : Nat), i + n ≤ 70 → i ≤ 64 → n < f → pFuns g f (mPP m i) (mTks m lines n i ln) = mEnd m lines n i ln
  | _, _, _, 0, _, _, h => by omega
  | 0, i, ln, f + 1, _, h64, _ => by
    rw [mTks, pFuns, if_pos (show (hd [(⟨0, [], ln⟩ : Tk)]).k = 0 from rfl), mEnd_3 (by omega) (by omega)]
    rfl
  | n + 1, i, ln, f + 1, h, h64, hf => by
    have hne : mTks m lines n (i + 1) (ln + lines) ≠ [] := by cases n <;> simp [mTks, mTk]
    rw [mTks, pFuns, if_neg (show ¬ (hd (mTk m ln i ++ mTks m lines n (i + 1) (ln + lines))).k = 0 by simp [mTk, hd, tw]), pFun_m (by omega) hm hg hne]
    by_cases hc : i < 64 ∧ (i = 1 → m ≤ 9)
    · rw [if_pos hc, sub_ok]
      dsimp only
      rw [pFuns_m hm hg n (i + 1) (ln + lines) f (by omega) (by omega) (by omega)]
      have e1 : i + 1 + n = i + (n + 1) := by omega
      by_cases hi : i = 0 ∧ 9 < m ∧ 0 < n
      · obtain ⟨rfl, h9, hn⟩ := hi
        rw [mEnd_1 (by omega) (by omega) h9, mEnd_1 (by omega) (by omega) h9]
        congr 1
        simp
      · have hx : ¬ (i + 1 ≤ 1 ∧ 1 < i + 1 + n ∧ 9 < m) := by omega
        have hy : ¬ (i ≤ 1 ∧ 1 < i + (n + 1) ∧ 9 < m) := by
          rintro ⟨k1, k2, k3⟩
          by_cases h0 : i = 0
          · omega
          · have := hc.2 (by omega)
            omega
        by_cases h7 : 64 < i + (n + 1)
        · rw [mEnd_2 hx (by omega), mEnd_2 hy h7]
          congr 1
          have : 64 - i = (64 - (i + 1)) + 1 := by omega
          rw [this, Nat.add_mul]
          omega
        · rw [mEnd_3 hx (by omega), mEnd_3 hy h7, e1]
    · rw [if_neg hc]
      show Except.error ln = _
      by_cases hi : i = 64
      · rw [mEnd_2 (by omega) (by omega), hi]
        simp
      · have hi1 : i = 1 := Classical.byContradiction fun hne => hc ⟨by omega, fun h1 => absurd h1 hne⟩
        have hm9 : 9 < m := Nat.lt_of_not_le fun h9 => hc ⟨by omega, fun _ => h9⟩
        rw [mEnd_1 (by omega) (by omega) hm9, hi1]
        simp
def mFs (m n : Nat) : List Fn := (List.range n).map fun k => ⟨(mPN m k : Nat), [⟨1, 1, []⟩]⟩
theorem mFn_len (m lines i : Nat) (hm : m ≤ 15) (hl : lines ≤ 3) : (mFn m lines i).length ≤ 100 := by
  have h : ∀ m j c, (mPs m j c).length ≤ 4 * m := by
    intro m
    induction m with
    | zero => intro j c; simp [mPs]
    | succ m ih => intro j c; have := ih (j + 1) true; rw [mPs]; cases c <;> simp [mPn] <;> omega
  have h0 := h m 0 false
  unfold mFn
  split <;> simp [wFun, mNm] <;> omega
theorem mTx_len (m lines : Nat) (hm : m ≤ 15) (hl : lines ≤ 3) : ∀ n i, (mTx m lines n i).length ≤ 100 * n ∧ n ≤ (mTx m lines n i).length
  | 0, i => by simp [mTx]
  | n + 1, i => by
    have h1 := mFn_len m lines i hm hl
    have h3 : 1 ≤ (mFn m lines i).length := by simp [mFn]; omega
    have h2 := mTx_len m lines hm hl n (i + 1)
    rw [mTx, List.length_append]
    omega
theorem okF_m (m n : Nat) (hm : m ≤ 9) (f : Fn) (hf : f ∈ mFs m n) : okF f = true := by
  obtain ⟨k, -, rfl⟩ := List.mem_map.1 hf
  have : ∀ j : Nat, j ≤ 9 → okF ⟨(j : Nat), [⟨1, 1, []⟩]⟩ = true := by decide
  refine this _ ?_
  unfold mPN
  split <;> omega
theorem src_m (m lines n : Nat) (hm : m ≤ 15) (hl : lines ≤ 3) (h1 : 1 ≤ n) (hn : n ≤ 70) : srcP (mTx m lines n 0) = if 1 < n ∧ 9 < m then .wrong lines else if 64 < n then .wrong (64 * lines) else .ok (mFs m n) ((List.range n).map mNm) := by
  have hlen := mTx_len m lines hm hl n 0
  rw [srcP_lex _ (by omega), lex_mTx hm n 0 0 (by omega)]
  have e := pFuns_m (g := (mTx m lines n 0).length + 2 + 20 - 20) (lines := lines) hm (by
    have h4 : 15 ≤ (mTx m lines n 0).length + 2 := by
      obtain ⟨k, rfl⟩ : ∃ k, n = k + 1 := ⟨n - 1, by omega⟩
      rw [mTx]
      simp [mFn, wFun, mNm]
    omega) n 0 0 ((mTx m lines n 0).length + 2) (by omega) (by omega) (by omega)
  rw [Nat.add_sub_cancel] at e
  have e0 : mPP m 0 = ⟨[], [], []⟩ := rfl
  rw [e0] at e
  rw [e]
  by_cases h9 : 1 < n ∧ 9 < m
  · rw [mEnd_1 (by omega) (by omega) h9.2, if_pos h9]
    simp [sub]
  · rw [if_neg h9]
    by_cases h64 : 64 < n
    · rw [mEnd_2 (by omega) (by omega), if_pos h64]
      simp [sub]
    · rw [mEnd_3 (by omega) (by omega), if_neg h64, sub_ok, Nat.zero_add]
      have hr : resol (mPP m n).names (mPP m n).uses ((mPP m n).fns.map fnOf) = .ok (mFs m n) := by
        show Except.ok ((mPP m n).fns.map fnOf) = _
        congr 1
        unfold mPP mFs
        rw [List.map_map]
        rfl
      rw [hr, sub_ok]
      dsimp only
      have hpn : ∀ k, k < n → mPN m k ≤ 9 := by
        intro k hk
        unfold mPN
        split <;> omega
      have hok : okP (mFs m n) = true := by
        have a1 : (mFs m n).all okF = true := by
          rw [List.all_eq_true]
          intro f hf
          obtain ⟨k, hk, rfl⟩ := List.mem_map.1 hf
          have h10 : ∀ j : Nat, j < 10 → okF ⟨(j : Nat), [⟨1, 1, []⟩]⟩ = true := by decide
          exact h10 _ (by have := hpn k (List.mem_range.1 hk); omega)
        have a2 : ((mFs m n).all fun f => f.ns.all (nameOk (mFs m n))) = true := by
          rw [List.all_eq_true]
          intro f hf
          obtain ⟨k, hk, rfl⟩ := List.mem_map.1 hf
          rfl
        have a3 : (mFs m n).length = n := by simp [mFs]
        unfold okP
        rw [a1, a2, a3]
        obtain ⟨k, rfl⟩ : ∃ k, n = k + 1 := ⟨n - 1, by omega⟩
        have a4 : ∃ r, mFs m (k + 1) = ⟨0, [⟨1, 1, []⟩]⟩ :: r := ⟨_, by unfold mFs; rw [List.range_succ_eq_map]; rfl⟩
        obtain ⟨r, hr⟩ := a4
        rw [hr]
        simp
        omega
      rw [if_pos hok]
      rfl
end Go.Proofs.YtjendlnicbieoaaGreatDoor
