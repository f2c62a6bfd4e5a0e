/-
  A tree's text is read as that tree: its tokens, and the expression of them. Plain, no walk.
-/
import Derived.Test.YtjendlnicbieoaaGreatDoorPlA
namespace Go.Proofs.YtjendlnicbieoaaGreatDoor

def tm (c : UInt8) (ln : Nat) : Tk := ⟨4, [c], ln⟩
def tw (w : Bs) (ln : Nat) : Tk := ⟨2, w, ln⟩
def joinK (ln : Nat) : Bool → List (List Tk) → List Tk
  | _, [] => []
  | c, x :: r => (if c = true then [tm 44 ln] else []) ++ (x ++ joinK ln true r)
def brkK (ln : Nat) (l : List (List Tk)) : List Tk := tm 40 ln :: (joinK ln false l ++ [tm 41 ln])
/-- A node's tokens. -/
def tkN (op n : Int) (k0 k1 : List (List Tk)) (d : Int) (ln : Nat) : List Tk :=
  if op = 1 then [⟨3, Lib.itoa n, ln⟩]
  else if op = 3 then [tw (118 :: Lib.itoa n) ln]
  else if op = 4 then tw wLet ln :: tw (118 :: Lib.itoa d) ln :: tm 61 ln :: (k0.getD 0 [] ++ (tw wIn ln :: k1.getD 1 []))
  else if op = 5 then tw wIf ln :: (k0.getD 0 [] ++ (tw wThen ln :: (k0.getD 1 [] ++ (tw wElse ln :: k0.getD 2 []))))
  else if op = 13 then tw (102 :: Lib.itoa n) ln :: brkK ln k0
  else tw (wTab op.toNat).1 ln :: (if (wTab op.toNat).2 = 1 then [] else (if (wTab op.toNat).2 = 7 then [tw (102 :: Lib.itoa n) ln] else []) ++ brkK ln k0)
def tkF : Fo → Int → Nat → List (List Tk)
  | .nil, _, _ => []
  | .cons _ op n k r, d, ln => tkN op n (tkF k d ln) (tkF k (d + 1) ln) d ln :: tkF r d ln
def cntF : Fo → Nat
  | .nil => 0
  | .cons _ _ _ _ r => 1 + cntF r
/-- How many variables stand at the k-th child. -/
def depK (lt : Bool) (k : Nat) (d : Int) : Int := if lt = true ∧ k = 1 then d + 1 else d
/-- A forest that stands in a valid function. -/
def wfF : Bool → Nat → Int → Fo → Prop
  | _, _, _, .nil => True
  | lt, k, d, .cons _ op n c r => (kidsOk op (cntF c) = true ∧ numOk op n (depK lt k d) = true ∧ depK lt k d ≤ 64 ∧ Rn n ∧ wfF (op == 4) 0 (depK lt k d) c) ∧ wfF lt (k + 1) d r
/-- One node of such a forest. -/
def wfN (d op n : Int) (c : Fo) : Prop := kidsOk op (cntF c) = true ∧ numOk op n d = true ∧ d ≤ 64 ∧ Rn n ∧ wfF (op == 4) 0 d c
theorem roots_cnt : ∀ (t : Fo) (a : Nat), (roots a t).length = cntF t
  | .nil, _ => rfl
  | .cons _ _ _ k r, a => by simp [roots, cntF, roots_cnt r]; omega
theorem RdF.cnt {ns : List Nd} {l : List Int} {t : Fo} (h : RdF ns l t) : l.length = cntF t := by
  induction h with
  | nil => rfl
  | cons _ _ _ _ ih => simp [cntF, ih]; omega
theorem RdF.wf {f : Fn} {q : Pl} (h : Good f q) (hn : ∀ x ∈ f.ns, Rn x.n) {l : List Int} {t : Fo} (hr : RdF f.ns l t) : ∀ (lt : Bool) (k : Nat) (d : Int), (∀ (m : Nat) (c : Int), l[m]? = some c → (pl q c.toNat).2 = depK lt (k + m) d) → wfF lt k d t := by
  induction hr with
  | nil => intro _ _ _ _; trivial
  | @cons c x l k r hx hk hl ih1 ih2 =>
    intro lt k d hd
    have hc : c < f.ns.length := (List.getElem?_eq_some_iff.1 hx).1
    have h0 : (pl q c).2 = depK lt k d := by simpa using hd 0 c rfl
    obtain ⟨f1, f2, f3, -⟩ := h.to_.fit c x hc hx
    rw [h0] at f2 f3
    refine ⟨⟨by rw [← hk.cnt]; exact f1, f2, f3, hn x (List.mem_of_getElem? hx), ih1 _ _ _ fun m e he => ?_⟩, ih2 _ _ _ fun m e he => ?_⟩
    · have := (h.to_.kid c x hc hx m e he).2.2
      rw [this, h0]
      unfold depK
      by_cases h4 : x.op = 4 <;> simp [h4]
    · have := hd (m + 1) e (by simpa using he)
      rw [this, show k + (m + 1) = k + 1 + m by omega]
/-- Of each node of a forest. -/
def AllF (P : Int → Int → Fo → Prop) : Fo → Prop
  | .nil => True
  | .cons _ op n k r => P op n k ∧ AllF P r
theorem allF {P : Int → Int → Fo → Prop} (h : ∀ op n k, AllF P k → P op n k) : ∀ t, AllF P t
  | .nil => trivial
  | .cons _ op n k r => ⟨h op n k (allF h k), allF h r⟩
theorem sep_of {c : UInt8} {l : Bs} (h : isAn c = false) : sepS (c :: l) := by
  intro x hx
  simp at hx
  subst hx
  exact h
/-- What a node's text is cut into. -/
def LX (op n : Int) (k : Fo) : Prop := ∀ (d : Int) (ln : Nat) (l : Bs), 0 ≤ d → wfN d op n k → sepS l → lex (txN op n (txF k d) (txF k (d + 1)) d ++ l) ln = tkN op n (tkF k d ln) (tkF k (d + 1) ln) d ln ++ lex l ln
theorem lex_join {ln : Nat} {l : Bs} : ∀ (k : Fo) (d : Int) (c : Bool) (j : Nat), AllF LX k → 0 ≤ d → wfF false j d k → lex (joinC c (txF k d) ++ 41 :: l) ln = joinK ln c (tkF k d ln) ++ lex (41 :: l) ln
  | .nil, d, c, j, _, _, _ => by simp [txF, tkF, joinC, joinK]
  | .cons _ op n k r, d, c, j, ha, h0, hw => by
    obtain ⟨ha1, ha2⟩ := ha
    obtain ⟨hw1, hw2⟩ := hw
    have e := lex_join (ln := ln) (l := l) r d true (j + 1) ha2 h0 hw2
    have hs : sepS (joinC true (txF r d) ++ 41 :: l) := by
      cases r with
      | nil => exact sep_of (by decide)
      | cons _ _ _ _ _ => exact sep_of (by decide)
    have e1 := ha1 d ln (joinC true (txF r d) ++ 41 :: l) h0 (by simpa [depK, wfN] using hw1) hs
    rw [txF, tkF, joinC, joinK]
    cases c with
    | false =>
      simp only [Bool.false_eq_true, if_false, List.nil_append, List.append_assoc]
      rw [e1, e]
    | true =>
      simp only [if_true, List.append_assoc, List.cons_append, List.nil_append]
      rw [lex_mark (by simp), lex_sp, e1, e]
      rfl
theorem lex_brk {ln : Nat} {l : Bs} {k : Fo} {d : Int} (ha : AllF LX k) (h0 : 0 ≤ d) (hw : wfF false 0 d k) : lex (brk (txF k d) ++ l) ln = brkK ln (tkF k d ln) ++ lex l ln := by
  unfold brk brkK
  rw [List.cons_append, lex_mark (by simp), List.append_assoc, List.singleton_append, lex_join k d false 0 ha h0 hw, lex_mark (by simp)]
  simp [tm]
theorem op_num {op n d : Int} {m : Nat} (h : kidsOk op m = true) (_hn : numOk op n d = true) : 1 ≤ op ∧ op ≤ 24 := by
  unfold kidsOk at h
  repeat' split at h
  all_goals first | omega | simp at h
/-- A number where a function is named. -/
theorem num_named {op n d : Int} (h : numOk op n d = true) (hk : namesOp op = true) : 0 ≤ n ∧ n ≤ 63 := by
  unfold numOk at h
  have h1 : op ≠ 1 := by rintro rfl; exact absurd hk (by decide)
  have h3 : op ≠ 3 := by rintro rfl; exact absurd hk (by decide)
  rw [if_neg h1, if_neg h3, if_pos hk] at h
  simpa using h
theorem num_zero {op n d : Int} (h : numOk op n d = true) (hk : namesOp op = false) (h1 : op ≠ 1) (h3 : op ≠ 3) : n = 0 := by
  unfold numOk at h
  rw [if_neg h1, if_neg h3, if_neg (by simp [hk])] at h
  simpa using h
theorem lex_fname {n : Int} {l : Bs} {ln : Nat} (h : 0 ≤ n ∧ n ≤ 63) (hl : sepS l) : lex (102 :: (Lib.itoa n ++ l)) ln = tw (102 :: Lib.itoa n) ln :: lex l ln := by
  obtain ⟨u, rfl⟩ := Int.eq_ofNat_of_zero_le h.1
  exact lex_called (by decide) (by omega) hl
theorem lex_vname {n : Int} {l : Bs} {ln : Nat} (h : 0 ≤ n ∧ n ≤ 64) (hl : sepS l) : lex (118 :: (Lib.itoa n ++ l)) ln = tw (118 :: Lib.itoa n) ln :: lex l ln := by
  obtain ⟨u, rfl⟩ := Int.eq_ofNat_of_zero_le h.1
  exact lex_called (by decide) (by omega) hl
theorem fo_two {k : Fo} (h : cntF k = 2) : ∃ c1 o1 n1 k1 c2 o2 n2 k2, k = .cons c1 o1 n1 k1 (.cons c2 o2 n2 k2 .nil) := by
  match k, h with
  | .nil, h => simp [cntF] at h
  | .cons _ _ _ _ .nil, h => simp [cntF] at h
  | .cons _ _ _ _ (.cons _ _ _ _ .nil), h => exact ⟨_, _, _, _, _, _, _, _, rfl⟩
  | .cons _ _ _ _ (.cons _ _ _ _ (.cons _ _ _ _ r)), h => simp [cntF] at h; omega
theorem fo_one {k : Fo} (h : cntF k = 1) : ∃ c1 o1 n1 k1, k = .cons c1 o1 n1 k1 .nil := by
  match k, h with
  | .nil, h => simp [cntF] at h
  | .cons _ _ _ _ .nil, h => exact ⟨_, _, _, _, rfl⟩
  | .cons _ _ _ _ (.cons _ _ _ _ r), h => simp [cntF] at h
theorem fo_zero {k : Fo} (h : cntF k = 0) : k = .nil := by
  match k, h with
  | .nil, _ => rfl
  | .cons _ _ _ _ r, h => simp [cntF] at h
theorem fo_three {k : Fo} (h : cntF k = 3) : ∃ c1 o1 n1 k1 c2 o2 n2 k2 c3 o3 n3 k3, k = .cons c1 o1 n1 k1 (.cons c2 o2 n2 k2 (.cons c3 o3 n3 k3 .nil)) := by
  match k, h with
  | .nil, h => simp [cntF] at h
  | .cons _ _ _ _ .nil, h => simp [cntF] at h
  | .cons _ _ _ _ (.cons _ _ _ _ .nil), h => simp [cntF] at h
  | .cons _ _ _ _ (.cons _ _ _ _ (.cons _ _ _ _ .nil)), h => exact ⟨_, _, _, _, _, _, _, _, _, _, _, _, rfl⟩
  | .cons _ _ _ _ (.cons _ _ _ _ (.cons _ _ _ _ (.cons _ _ _ _ r))), h => simp [cntF] at h; omega
theorem sep_sp (l : Bs) : sepS (32 :: l) := sep_of (by decide)
theorem sep_br (l : List Bs) (r : Bs) : sepS (brk l ++ r) := sep_of (by decide)
/-- The Ops whose text is a word and brackets. -/
theorem op_rest {op : Int} {m : Nat} (h : kidsOk op m = true) (h1 : op ≠ 1) (h3 : op ≠ 3) (h4 : op ≠ 4) (h5 : op ≠ 5) (h13 : op ≠ 13) : op = 2 ∨ op = 6 ∨ op = 7 ∨ op = 8 ∨ op = 9 ∨ op = 10 ∨ op = 11 ∨ op = 12 ∨ op = 14 ∨ op = 15 ∨ op = 16 ∨ op = 17 ∨ op = 18 ∨ op = 19 ∨ op = 20 ∨ op = 21 ∨ op = 22 ∨ op = 23 ∨ op = 24 := by
  unfold kidsOk at h
  repeat' split at h
  all_goals first | omega | simp at h
theorem lex_wd {w : Bs} {l : Bs} {ln : Nat} (hw : ∃ c u, w = c :: u ∧ isLt c = true ∧ u.all isAn = true ∧ u.length ≤ 15) (hl : sepS l) : lex (w ++ l) ln = tw w ln :: lex l ln := by
  obtain ⟨c, u, rfl, h1, h2, h3⟩ := hw
  exact lex_word h1 h2 h3 hl
theorem wTab_wd {op : Int} (h : op = 2 ∨ op = 6 ∨ op = 7 ∨ op = 8 ∨ op = 9 ∨ op = 10 ∨ op = 11 ∨ op = 12 ∨ op = 14 ∨ op = 15 ∨ op = 16 ∨ op = 17 ∨ op = 18 ∨ op = 19 ∨ op = 20 ∨ op = 21 ∨ op = 22 ∨ op = 23 ∨ op = 24) : ∃ c u, (wTab op.toNat).1 = c :: u ∧ isLt c = true ∧ u.all isAn = true ∧ u.length ≤ 15 := by
  rcases h with rfl | rfl | rfl | rfl | rfl | rfl | rfl | rfl | rfl | rfl | rfl | rfl | rfl | rfl | rfl | rfl | rfl | rfl | rfl
  all_goals exact ⟨_, _, rfl, by decide, by decide, by decide⟩
theorem wf_false {b : Bool} {k : Fo} {d : Int} (hb : b = false) (h : wfF b 0 d k) : wfF false 0 d k := hb ▸ h
theorem lx_all : ∀ t, AllF LX t := allF fun op n k ha => by
  intro d ln l h0 hw hl
  obtain ⟨w1, w2, w3, w4, w5⟩ := hw
  unfold txN tkN
  by_cases h1 : op = 1
  · rw [if_pos h1, if_pos h1, lex_num w4 hl]; rfl
  rw [if_neg h1, if_neg h1]
  by_cases h3 : op = 3
  · subst h3
    have : 0 ≤ n ∧ n < d := by simpa [numOk] using w2
    rw [if_pos rfl, if_pos rfl, List.cons_append, lex_vname (by omega) hl]; rfl
  rw [if_neg h3, if_neg h3]
  by_cases h4 : op = 4
  · subst h4
    obtain ⟨c1, o1, n1, k1, c2, o2, n2, k2, rfl⟩ := fo_two (by simpa [kidsOk] using w1)
    obtain ⟨v1, v2, -⟩ := w5
    obtain ⟨a1, a2, -⟩ := ha
    rw [if_pos rfl, if_pos rfl]
    simp only [txF, tkF, List.getD_cons_zero, List.getD_cons_succ]
    have e2 := a2 (d + 1) ln l (by omega) (by simpa [depK, wfN] using v2) hl
    have e1 := a1 d ln ([32, 105, 110, 32] ++ (txN o2 n2 (txF k2 (d + 1)) (txF k2 (d + 1 + 1)) (d + 1) ++ l)) h0 (by simpa [depK, wfN] using v1) (sep_sp _)
    have l1 := fun x => lex_wd (w := wLet) (l := 32 :: x) (ln := ln) ⟨108, [101, 116], rfl, by decide, by decide, by decide⟩ (sep_sp _)
    have l2 := fun x => lex_wd (w := wIn) (l := 32 :: x) (ln := ln) ⟨105, [110], rfl, by decide, by decide, by decide⟩ (sep_sp _)
    simp only [List.append_assoc, List.cons_append, List.nil_append, wLet, wIn] at e1 e2 l1 l2 ⊢
    rw [l1, lex_sp, lex_vname (by omega) (sep_sp _), lex_sp, lex_mark (by simp), lex_sp, e1, lex_sp, l2, lex_sp, e2]
    rfl
  rw [if_neg h4, if_neg h4]
  by_cases h5 : op = 5
  · subst h5
    obtain ⟨c1, o1, n1, k1, c2, o2, n2, k2, c3, o3, n3, k3, rfl⟩ := fo_three (by simpa [kidsOk] using w1)
    obtain ⟨v1, v2, v3, -⟩ := w5
    obtain ⟨a1, a2, a3, -⟩ := ha
    rw [if_pos rfl, if_pos rfl]
    simp only [txF, tkF, List.getD_cons_zero, List.getD_cons_succ]
    have e3 := a3 d ln l h0 (by simpa [depK, wfN] using v3) hl
    have e2 := a2 d ln ([32, 101, 108, 115, 101, 32] ++ (txN o3 n3 (txF k3 d) (txF k3 (d + 1)) d ++ l)) h0 (by simpa [depK, wfN] using v2) (sep_sp _)
    have e1 := a1 d ln ([32, 116, 104, 101, 110, 32] ++ (txN o2 n2 (txF k2 d) (txF k2 (d + 1)) d ++ ([32, 101, 108, 115, 101, 32] ++ (txN o3 n3 (txF k3 d) (txF k3 (d + 1)) d ++ l)))) h0 (by simpa [depK, wfN] using v1) (sep_sp _)
    have l1 := fun x => lex_wd (w := wIf) (l := 32 :: x) (ln := ln) ⟨105, [102], rfl, by decide, by decide, by decide⟩ (sep_sp _)
    have l2 := fun x => lex_wd (w := wThen) (l := 32 :: x) (ln := ln) ⟨116, [104, 101, 110], rfl, by decide, by decide, by decide⟩ (sep_sp _)
    have l3 := fun x => lex_wd (w := wElse) (l := 32 :: x) (ln := ln) ⟨101, [108, 115, 101], rfl, by decide, by decide, by decide⟩ (sep_sp _)
    simp only [List.append_assoc, List.cons_append, List.nil_append, wIf, wThen, wElse] at e1 e2 e3 l1 l2 l3 ⊢
    rw [l1, lex_sp, e1, lex_sp, l2, lex_sp, e2, lex_sp, l3, lex_sp, e3]
  rw [if_neg h5, if_neg h5]
  have hlt : (op == 4) = false := by simpa using h4
  by_cases h13 : op = 13
  · subst h13
    rw [if_pos rfl, if_pos rfl, List.append_assoc, List.cons_append, lex_fname (num_named w2 rfl) (sep_br _ _), lex_brk ha h0 (wf_false hlt w5)]
    simp
  rw [if_neg h13, if_neg h13]
  have hop := op_rest w1 h1 h3 h4 h5 h13
  rw [List.append_assoc]
  by_cases hf1 : (wTab op.toNat).2 = 1
  · rw [if_pos hf1, if_pos hf1, List.nil_append, lex_wd (wTab_wd hop) hl]
    rfl
  rw [if_neg hf1, if_neg hf1]
  by_cases hf7 : (wTab op.toNat).2 = 7
  · have hk : namesOp op = true := by
      rcases hop with rfl | rfl | rfl | rfl | rfl | rfl | rfl | rfl | rfl | rfl | rfl | rfl | rfl | rfl | rfl | rfl | rfl | rfl | rfl
      all_goals first | rfl | exact absurd hf7 (by decide)
    rw [if_pos hf7, if_pos hf7]
    have hs : sepS (32 :: (102 :: (Lib.itoa n ++ (brk (txF k d) ++ l)))) := sep_sp _
    simp only [List.append_assoc, List.cons_append, List.nil_append]
    rw [lex_wd (wTab_wd hop) hs, lex_sp, lex_fname (num_named w2 hk) (sep_br _ _), lex_brk ha h0 (wf_false hlt w5)]
  · rw [if_neg hf7, if_neg hf7, List.nil_append, List.nil_append, lex_wd (wTab_wd hop) (sep_br _ _), lex_brk ha h0 (wf_false hlt w5)]
    simp
end Go.Proofs.YtjendlnicbieoaaGreatDoor
/-
  A tree's tokens are read as that tree, the functions that it names apart. Plain, no walk.
-/
namespace Go.Proofs.YtjendlnicbieoaaGreatDoor

def renN (op n : Int) : Int := if namesOp op = true then 0 else n
/-- The forest that is read: its nodes numbered from a on, without the functions' numbers. -/
def ren (a : Nat) : Fo → Fo
  | .nil => .nil
  | .cons _ op n k r => .cons a op (renN op n) (ren (a + 1) k) (ren (a + 1 + sizeF k) r)
def usesF (fi ln : Nat) (a : Nat) : Fo → List Us
  | .nil => []
  | .cons _ op n k r => (if namesOp op = true then [⟨fi, a, ln, 102 :: Lib.itoa n⟩] else []) ++ (usesF fi ln (a + 1) k ++ usesF fi ln (a + 1 + sizeF k) r)
theorem ren_size : ∀ (t : Fo) (a : Nat), sizeF (ren a t) = sizeF t
  | .nil, _ => rfl
  | .cons _ _ _ k r, a => by rw [ren, sizeF, sizeF, ren_size k, ren_size r]
theorem app_assoc : ∀ a b c : Fo, (a.app b).app c = a.app (b.app c)
  | .nil, _, _ => rfl
  | .cons _ _ _ _ r, b, c => by rw [Fo.app, Fo.app, Fo.app, app_assoc r]
theorem app_one (a op n k r) : (Fo.cons a op n k .nil).app r = .cons a op n k r := rfl
theorem mv_cons {t : Tk} {R : List Tk} (h : R ≠ []) : mv (t :: R) = R := by
  cases R with
  | nil => exact absurd rfl h
  | cons _ _ => rfl
theorem hd_cons (t : Tk) (R : List Tk) : hd (t :: R) = t := rfl
theorem need_true {α : Type} {b : Bool} {ts : List Tk} {k : List Tk → Except Nat α} (h : b = true) : need b ts k = k (mv ts) := by unfold need; rw [if_pos h]
theorem sub_ok {α β : Type} {x : α} {k : α → Except Nat β} : sub (.ok x) k = k x := rfl
theorem isM_tm (c ln R) : isM c (tm c ln :: R) = true := by unfold isM tm; simp [hd_cons]
theorem isM_ne {c d : UInt8} {ln R} (h : d ≠ c) : isM c (tm d ln :: R) = false := by unfold isM tm; simp [hd_cons, h]
theorem isM_k {c : UInt8} {t : Tk} {R : List Tk} (h : t.k ≠ 4) : isM c (t :: R) = false := by unfold isM; simp [hd_cons, h]
theorem isW_tw (w ln R) : isW w (tw w ln :: R) = true := by unfold isW tw; simp [hd_cons]
theorem namedF_none {w : Bs} (h : ∀ i, (wTab i).1 ≠ w) : ∀ f op, namedF w f op = (0, 0)
  | 0, _ => rfl
  | f + 1, op => by rw [namedF, if_neg (fun x => h op x.2), namedF_none h f]
theorem kw_none {c x : UInt8} {ds : Bs} (hx : isDi x = true) : kwOf (c :: x :: ds) = none := by
  have ne : ∀ w : Bs, (w[1]?.map isDi) ≠ some true → w ≠ c :: x :: ds := by
    rintro w hw rfl
    exact hw (by simp [hx])
  have hn := namedF_none (w := c :: x :: ds) (fun i => ne _ (by unfold wTab; split <;> decide)) 24 1
  unfold kwOf
  have n1 := (ne wFun (by decide)).symm
  have n2 := (ne wIn (by decide)).symm
  have n3 := (ne wThen (by decide)).symm
  have n4 := (ne wElse (by decide)).symm
  have n5 := (ne wLet (by decide)).symm
  have n6 := (ne wIf (by decide)).symm
  rw [if_neg (by simp [n1, n2, n3, n4]), if_neg n5, if_neg n6, if_neg (by rw [hn]; simp)]
theorem kw_name (c : UInt8) (u : Nat) : kwOf (c :: Lib.itoa (u : Int)) = none := by
  rw [Lib.itoa_nonneg]
  obtain ⟨d, ds, -, -, -, h⟩ := dd_head u
  have := dd_all u
  rw [h] at this ⊢
  simp only [List.all_cons, Bool.and_eq_true] at this
  exact kw_none this.1
theorem isN_name {c : UInt8} {n : Int} (h : 0 ≤ n) (ln R) : isN (tw (c :: Lib.itoa n) ln :: R) = true := by
  obtain ⟨u, rfl⟩ := Int.eq_ofNat_of_zero_le h
  have hk := kw_name c u
  unfold isN tw
  rw [hd_cons]
  simp only at hk ⊢
  rw [hk]
  rfl
theorem itoa_inj {a b : Int} (ha : Rn a) (hb : Rn b) (h : Lib.itoa a = Lib.itoa b) : a = b := by
  have h1 := intD_itoa ha
  have h2 := intD_itoa hb
  rw [h] at h1
  rw [h1] at h2
  exact Option.some.inj h2
theorem varIx_none {s : Bs} : ∀ {l : List Bs}, s ∉ l → varIx s l = none
  | [], _ => rfl
  | v :: r, h => by
    rw [List.mem_cons, not_or] at h
    rw [varIx, varIx_none h.2]
    simp only
    rw [if_neg (Ne.symm h.1)]
theorem varIx_at {s : Bs} : ∀ {l : List Bs} {i : Nat}, l.Nodup → l[i]? = some s → varIx s l = some i
  | [], i, _, h => by simp at h
  | v :: r, 0, hn, h => by
    obtain rfl : v = s := by simpa using h
    rw [varIx, varIx_none (List.nodup_cons.1 hn).1]
    simp
  | v :: r, i + 1, hn, h => by
    rw [varIx, varIx_at (List.nodup_cons.1 hn).2 (by simpa using h)]
def namesT (c : UInt8) (m : Nat) : List Bs := (List.range m).map fun (k : Nat) => c :: Lib.itoa (k : Int)
theorem names_at {c : UInt8} {m i : Nat} (h : i < m) : (namesT c m)[i]? = some (c :: Lib.itoa (i : Int)) := by
  unfold namesT
  simp [List.getElem?_range h]
theorem names_nodup {c : UInt8} {m : Nat} (h : m ≤ 1000) : (namesT c m).Nodup := by
  unfold namesT
  refine List.pairwise_map.2 (List.Pairwise.imp_of_mem (fun {a b} ha hb hab e => ?_) List.nodup_range)
  have ha := List.mem_range.1 ha
  have hb := List.mem_range.1 hb
  injection e with _ e
  have := itoa_inj (a := (a : Int)) (b := (b : Int)) ⟨by omega, by omega⟩ ⟨by omega, by omega⟩ e
  exact hab (by omega)
theorem names_succ (c : UInt8) (m : Nat) : namesT c (m + 1) = namesT c m ++ [c :: Lib.itoa (m : Int)] := by
  unfold namesT
  rw [List.range_succ, List.map_append]
  rfl
theorem names_len (c : UInt8) (m : Nat) : (namesT c m).length = m := by simp [namesT]
theorem tkN_head (op n : Int) (k0 k1 : List (List Tk)) (d : Int) (ln : Nat) : ∃ t u, tkN op n k0 k1 d ln = t :: u ∧ t.k ≠ 4 := by
  unfold tkN
  repeat' split
  all_goals exact ⟨_, _, rfl, by simp [tw]⟩
/-- What a node's tokens are read as. -/
def PE (op n : Int) (k : Fo) : Prop := ∀ (f fi a d ln : Nat) (R : List Tk), wfN d op n k → R ≠ [] → isM 40 R = false → 1 + sizeF k ≤ f → a + 1 + sizeF k ≤ 200 →
  pE fi f (namesT 118 d) a (tkN op n (tkF k d ln) (tkF k (d + 1) ln) d ln ++ R) = .ok (.cons a op (renN op n) (ren (a + 1) k) .nil, usesF fi ln a (.cons 0 op n k .nil), R)
theorem joinK_true {ln : Nat} {l : List (List Tk)} (h : l ≠ []) : joinK ln true l = tm 44 ln :: joinK ln false l := by
  cases l with
  | nil => exact absurd rfl h
  | cons x r => simp [joinK]
theorem pMore_all {fi f d ln : Nat} {R : List Tk} (hR : R ≠ []) : ∀ (k : Fo) (g a j : Nat) (dn : Fo) (us : List Us), AllF PE k → wfF false j d k → k ≠ .nil → cntF k ≤ g → sizeF k ≤ f → a + sizeF k ≤ 200 →
    pMore (pE fi f (namesT 118 d)) g a dn us (joinK ln false (tkF k d ln) ++ tm 41 ln :: R) = .ok (dn.app (ren a k), us ++ usesF fi ln a k, tm 41 ln :: R)
  | .nil, _, _, _, _, _, _, _, h, _, _, _ => absurd rfl h
  | .cons _ op n k r, 0, _, _, _, _, _, _, _, hg, _, _ => by simp [cntF] at hg
  | .cons _ op n k r, g + 1, a, j, dn, us, ha, hw, _, hg, hf, hs => by
    obtain ⟨ha1, ha2⟩ := ha
    obtain ⟨hw1, hw2⟩ := hw
    rw [cntF] at hg
    rw [sizeF] at hf hs
    have hw1' : wfN d op n k := by simpa [depK, wfN] using hw1
    rw [tkF, joinK, pMore]
    simp only [Bool.false_eq_true, if_false, List.nil_append, List.append_assoc]
    cases r with
    | nil =>
      rw [tkF, joinK, List.nil_append, ha1 f fi a d ln _ hw1' (by simp) (isM_ne (by decide)) (by omega) (by omega), sub_ok]
      dsimp only
      rw [if_neg (by rw [isM_ne (by decide)]; simp)]
      simp [ren, usesF]
    | cons c2 o2 n2 k2 r2 =>
      have hr : tkF (.cons c2 o2 n2 k2 r2) d ln ≠ [] := by simp [tkF]
      rw [joinK_true hr, List.cons_append, ha1 f fi a d ln _ hw1' (by simp) (isM_ne (by decide)) (by omega) (by omega), sub_ok]
      dsimp only
      have hne : joinK ln false (tkF (Fo.cons c2 o2 n2 k2 r2) d ln) ++ tm 41 ln :: R ≠ [] := by simp
      rw [if_pos (isM_tm ..), mv_cons hne, pMore_all hR _ g _ (j + 1) _ _ ha2 hw2 (by simp) (by omega) (by simp only [sizeF] at hf ⊢; omega) (by simp only [sizeF, ren_size] at hs ⊢; omega)]
      rw [app_assoc, app_one, List.append_assoc]
      simp only [sizeF, ren_size, Nat.add_zero]
      rw [show a + (1 + sizeF k) = a + 1 + sizeF k by omega]
      simp [ren, usesF, List.append_assoc]
theorem cnt_size : ∀ k : Fo, cntF k ≤ sizeF k
  | .nil => Nat.le_refl _
  | .cons _ _ _ k r => by have := cnt_size r; simp only [cntF, sizeF]; omega
theorem pList_all {fi f g d ln a : Nat} {R : List Tk} (hR : R ≠ []) {k : Fo} (ha : AllF PE k) (hw : wfF false 0 d k) (hg : sizeF k ≤ g) (hf : sizeF k ≤ f) (hs : a + sizeF k ≤ 200) :
    pList (pE fi f (namesT 118 d)) g a (brkK ln (tkF k d ln) ++ R) = .ok (ren a k, usesF fi ln a k, R) := by
  unfold pList brkK
  have hne : joinK ln false (tkF k d ln) ++ tm 41 ln :: R ≠ [] := by simp
  rw [List.cons_append, List.append_assoc, List.singleton_append, need_true (isM_tm ..), mv_cons hne]
  cases k with
  | nil =>
    rw [tkF, joinK, List.nil_append, if_pos (isM_tm ..), sub_ok]
    dsimp only
    rw [need_true (isM_tm ..), mv_cons hR]
    simp [ren, usesF]
  | cons c op n k r =>
    have hh : isM 41 (joinK ln false (tkF (.cons c op n k r) d ln) ++ tm 41 ln :: R) = false := by
      obtain ⟨t, u, h1, h2⟩ := tkN_head op n (tkF k d ln) (tkF k (d + 1) ln) d ln
      rw [tkF, joinK, h1]
      exact isM_k h2
    have hc := cnt_size (.cons c op n k r)
    rw [if_neg (by rw [hh]; simp), pMore_all hR _ g a 0 .nil [] ha hw (by simp) (by omega) hf hs, sub_ok]
    dsimp only
    rw [need_true (isM_tm ..), mv_cons hR]
    rfl
theorem kw_tab {op : Int} (h : op = 2 ∨ op = 6 ∨ op = 7 ∨ op = 8 ∨ op = 9 ∨ op = 10 ∨ op = 11 ∨ op = 12 ∨ op = 14 ∨ op = 15 ∨ op = 16 ∨ op = 17 ∨ op = 18 ∨ op = 19 ∨ op = 20 ∨ op = 21 ∨ op = 22 ∨ op = 23 ∨ op = 24) : kwOf (wTab op.toNat).1 = some (op.toNat, (wTab op.toNat).2) := by
  rcases h with rfl | rfl | rfl | rfl | rfl | rfl | rfl | rfl | rfl | rfl | rfl | rfl | rfl | rfl | rfl | rfl | rfl | rfl | rfl
  all_goals rfl
/-- What an Op's form says of the nodes beneath it. -/
theorem form_op {op : Int} {m : Nat} (h : op = 2 ∨ op = 6 ∨ op = 7 ∨ op = 8 ∨ op = 9 ∨ op = 10 ∨ op = 11 ∨ op = 12 ∨ op = 14 ∨ op = 15 ∨ op = 16 ∨ op = 17 ∨ op = 18 ∨ op = 19 ∨ op = 20 ∨ op = 21 ∨ op = 22 ∨ op = 23 ∨ op = 24) (hm : kidsOk op m = true) :
    ((wTab op.toNat).2 = 1 ∧ m = 0 ∧ namesOp op = false) ∨ ((wTab op.toNat).2 = 4 ∧ m = 1 ∧ namesOp op = false) ∨ ((wTab op.toNat).2 = 5 ∧ m = 2 ∧ namesOp op = false) ∨ ((wTab op.toNat).2 = 6 ∧ namesOp op = false) ∨ ((wTab op.toNat).2 = 7 ∧ namesOp op = true) := by
  rcases h with rfl | rfl | rfl | rfl | rfl | rfl | rfl | rfl | rfl | rfl | rfl | rfl | rfl | rfl | rfl | rfl | rfl | rfl | rfl
  all_goals simp [kidsOk] at hm
  all_goals first
    | exact .inl ⟨rfl, hm, by decide⟩
    | exact .inr (.inl ⟨rfl, hm, by decide⟩)
    | exact .inr (.inr (.inl ⟨rfl, hm, by decide⟩))
    | exact .inr (.inr (.inr (.inl ⟨rfl, by decide⟩)))
    | exact .inr (.inr (.inr (.inr ⟨rfl, by decide⟩)))
end Go.Proofs.YtjendlnicbieoaaGreatDoor
/-
  A tree's tokens are read as that tree: each node. Plain, no walk.
-/
namespace Go.Proofs.YtjendlnicbieoaaGreatDoor

theorem pNode_key {e : List Bs → Nat → List Tk → PR} {f fi : Nat} {vs : List Bs} {a : Nat} {w : Bs} {ln : Nat} {T : List Tk} {x : Nat × Nat} (h : kwOf w = some x) : pNode e f fi vs a (tw w ln :: T) = pKey e f fi vs a x.1 x.2 (tw w ln :: T) := by
  unfold pNode
  rw [hd_cons]
  show (if (2 : Nat) = 3 then _ else if (2 : Nat) ≠ 2 then _ else match kwOf w with
    | some x => _
    | none => _) = _
  rw [if_neg (by decide), if_neg (by decide), h]
theorem pNode_name {e : List Bs → Nat → List Tk → PR} {f fi : Nat} {vs : List Bs} {a : Nat} {w : Bs} {ln : Nat} {T : List Tk} (h : kwOf w = none) (hT : T ≠ []) : pNode e f fi vs a (tw w ln :: T) = if isM 40 T = true then pNamed (e vs) f fi a 13 (tw w ln :: T)
    else match varIx w vs with
      | some i => .ok (.cons a 3 i .nil .nil, [], T)
      | none => .error ln := by
  unfold pNode
  rw [hd_cons, mv_cons hT]
  show (if (2 : Nat) = 3 then _ else if (2 : Nat) ≠ 2 then _ else match kwOf w with
    | some x => _
    | none => _) = _
  rw [if_neg (by decide), if_neg (by decide), h]
  rfl
section
variable {e : List Bs → Nat → List Tk → PR} {f fi : Nat} {vs : List Bs} {a op : Nat} {ts : List Tk}
theorem pKey1 : pKey e f fi vs a op 1 ts = .ok (.cons a op 0 .nil .nil, [], mv ts) := by simp [pKey]
theorem pKey2 : pKey e f fi vs a op 2 ts = pLet e vs a op (mv ts) := by simp [pKey]
theorem pKey3 : pKey e f fi vs a op 3 ts = pIf (e vs) a op (mv ts) := by simp [pKey]
theorem pKey4 : pKey e f fi vs a op 4 ts = pOne (e vs) a op (mv ts) := by simp [pKey]
theorem pKey5 : pKey e f fi vs a op 5 ts = pTwo (e vs) a op (mv ts) := by simp [pKey]
theorem pKey6 : pKey e f fi vs a op 6 ts = pMany (e vs) f a op (mv ts) := by simp [pKey]
theorem pKey7 : pKey e f fi vs a op 7 ts = pNamed (e vs) f fi a op (mv ts) := by simp [pKey]
end
theorem brkK_app (ln : Nat) (l : List (List Tk)) (R : List Tk) : brkK ln l ++ R = tm 40 ln :: (joinK ln false l ++ tm 41 ln :: R) := by unfold brkK; simp
set_option maxRecDepth 10000 in
theorem pe_all : ∀ t, AllF PE t := allF fun op n k ha => by
  intro f fi a d ln R hw hR h40 hf hs
  obtain ⟨w1, w2, w3, w4, w5⟩ := hw
  obtain ⟨f, rfl⟩ : ∃ g, f = g + 1 := ⟨f - 1, by omega⟩
  rw [pE, if_neg (by omega)]
  unfold tkN
  by_cases h1 : op = 1
  · subst h1
    obtain rfl := fo_zero (k := k) (by simpa [kidsOk] using w1)
    rw [if_pos rfl]
    unfold pNode
    rw [List.singleton_append, hd_cons, mv_cons hR]
    dsimp only
    rw [if_pos rfl, intD_itoa w4]
    rfl
  rw [if_neg h1]
  by_cases h3 : op = 3
  · subst h3
    obtain rfl := fo_zero (k := k) (by simpa [kidsOk] using w1)
    have hn : 0 ≤ n ∧ n < d := by simpa [numOk] using w2
    obtain ⟨u, rfl⟩ := Int.eq_ofNat_of_zero_le hn.1
    rw [if_pos rfl, List.singleton_append, pNode_name (kw_name _ _) hR, if_neg (by rw [h40]; simp), varIx_at (names_nodup (by omega)) (names_at (i := u) (by omega))]
    rfl
  rw [if_neg h3]
  by_cases h4 : op = 4
  · subst h4
    obtain ⟨c1, o1, n1, k1, c2, o2, n2, k2, rfl⟩ := fo_two (by simpa [kidsOk] using w1)
    obtain ⟨v1, v2, -⟩ := w5
    obtain ⟨a1, a2, -⟩ := ha
    simp only [sizeF] at hf hs
    rw [if_pos rfl]
    simp only [tkF, List.getD_cons_zero, List.getD_cons_succ, List.cons_append, List.append_assoc]
    rw [pNode_key (x := (4, 2)) (by rfl)]
    dsimp only
    rw [pKey2]
    unfold pLet
    have e1 := a1 f fi (a + 1) d ln (tw wIn ln :: (tkN o2 n2 (tkF k2 (d + 1) ln) (tkF k2 (d + 1 + 1) ln) (d + 1) ln ++ R)) (by simpa [depK, wfN] using v1) (by simp) (isM_k (by simp [tw])) (by omega) (by omega)
    have e2 := a2 f fi (a + 1 + (1 + sizeF k1)) (d + 1) ln R (by simpa [depK, wfN] using v2) hR h40 (by omega) (by omega)
    simp only [Int.natCast_add, Int.natCast_one] at e2
    have hne : ∀ (l : List (Tk)), l ++ (tw wIn ln :: (tkN o2 n2 (tkF k2 (d + 1) ln) (tkF k2 (d + 1 + 1) ln) (d + 1) ln ++ R)) ≠ [] := by simp
    rw [mv_cons (by simp), need_true (isN_name (by omega) ..), mv_cons (by simp), need_true (isM_tm ..), mv_cons (hne _), e1, sub_ok]
    dsimp only
    rw [need_true (isW_tw ..), mv_cons (by obtain ⟨t, u, hh, -⟩ := tkN_head o2 n2 (tkF k2 (d + 1) ln) (tkF k2 (d + 1 + 1) ln) (d + 1) ln; rw [hh]; simp), hd_cons]
    have ev : namesT 118 d ++ [(tw (118 :: Lib.itoa (d : Int)) ln).s] = namesT 118 (d + 1) := (names_succ 118 d).symm
    simp only [sizeF, ren_size, Nat.add_zero]
    rw [ev, e2, sub_ok]
    have hz : n = 0 := num_zero w2 (by rfl) h1 h3
    have ar1 : a + 1 + (1 + sizeF k1) = a + 1 + 1 + sizeF k1 := by omega
    simp only [usesF, ren, Fo.app, ar1]
    simp [hz, renN, namesOp]
  rw [if_neg h4]
  by_cases h5 : op = 5
  · subst h5
    obtain ⟨c1, o1, n1, k1, c2, o2, n2, k2, c3, o3, n3, k3, rfl⟩ := fo_three (by simpa [kidsOk] using w1)
    obtain ⟨v1, v2, v3, -⟩ := w5
    obtain ⟨a1, a2, a3, -⟩ := ha
    simp only [sizeF] at hf hs
    rw [if_pos rfl]
    simp only [tkF, List.getD_cons_zero, List.getD_cons_succ, List.cons_append, List.append_assoc]
    have hz : n = 0 := num_zero w2 (by rfl) h1 h3
    rw [pNode_key (x := (5, 3)) (by rfl)]
    dsimp only
    rw [pKey3]
    unfold pIf
    have hh2 := tkN_head o2 n2 (tkF k2 d ln) (tkF k2 (d + 1) ln) d ln
    have hh3 := tkN_head o3 n3 (tkF k3 d ln) (tkF k3 (d + 1) ln) d ln
    have e3 := a3 f fi (a + 1 + (1 + sizeF k1) + (1 + sizeF k2)) d ln R (by simpa [depK, wfN] using v3) hR h40 (by omega) (by omega)
    generalize tkN o3 n3 (tkF k3 d ln) (tkF k3 (d + 1) ln) d ln = X3 at *
    have e2 := a2 f fi (a + 1 + (1 + sizeF k1)) d ln (tw wElse ln :: (X3 ++ R)) (by simpa [depK, wfN] using v2) (by simp) (isM_k (by simp [tw])) (by omega) (by omega)
    generalize tkN o2 n2 (tkF k2 d ln) (tkF k2 (d + 1) ln) d ln = X2 at *
    have e1 := a1 f fi (a + 1) d ln (tw wThen ln :: (X2 ++ tw wElse ln :: (X3 ++ R))) (by simpa [depK, wfN] using v1) (by simp) (isM_k (by simp [tw])) (by omega) (by omega)
    rw [mv_cons (by simp), e1, sub_ok]
    dsimp only
    rw [need_true (isW_tw ..), mv_cons (by simp)]
    simp only [sizeF, ren_size, Nat.add_zero]
    rw [e2, sub_ok]
    dsimp only
    rw [need_true (isW_tw ..), mv_cons (by obtain ⟨t, u, hh, -⟩ := hh3; rw [hh]; simp)]
    simp only [sizeF, ren_size, Nat.add_zero]
    rw [e3, sub_ok]
    have ar1 : a + 1 + (1 + sizeF k1) = a + 1 + 1 + sizeF k1 := by omega
    have ar2 : a + 1 + 1 + sizeF k1 + (1 + sizeF k2) = a + 1 + 1 + sizeF k1 + 1 + sizeF k2 := by omega
    simp only [usesF, ren, Fo.app, ar1, ar2]
    simp [hz, renN, namesOp]
  rw [if_neg h5]
  have hlt : (op == 4) = false := by simpa using h4
  have hw5 := wf_false hlt w5
  by_cases h13 : op = 13
  · subst h13
    have hn := num_named w2 rfl
    obtain ⟨u, rfl⟩ := Int.eq_ofNat_of_zero_le hn.1
    have hne : brkK ln (tkF k d ln) ++ R ≠ [] := by rw [brkK_app]; simp
    have hm : isM 40 (brkK ln (tkF k d ln) ++ R) = true := by rw [brkK_app]; exact isM_tm ..
    rw [if_pos rfl, List.cons_append, pNode_name (kw_name _ _) hne, if_pos hm]
    unfold pNamed
    rw [need_true (isN_name (by omega) ..), mv_cons hne, pList_all hR ha hw5 (by omega) (by omega) (by omega), sub_ok]
    simp [usesF, renN, namesOp, hd_cons, tw]
  rw [if_neg h13]
  have hop := op_rest w1 h1 h3 h4 h5 h13
  have hcast : ((op.toNat : Nat) : Int) = op := Int.toNat_of_nonneg (by omega)
  have hkw := kw_tab hop
  rw [List.cons_append, pNode_key hkw]
  dsimp only
  rcases form_op hop w1 with ⟨q, hm, hk⟩ | ⟨q, hm, hk⟩ | ⟨q, hm, hk⟩ | ⟨q, hk⟩ | ⟨q, hk⟩
  · obtain rfl := fo_zero hm
    rw [q, pKey1, hcast]
    simp only [if_true, List.nil_append]
    rw [mv_cons hR]
    have hz : n = 0 := num_zero w2 hk h1 h3
    simp [usesF, ren, renN, hk, hz]
  · obtain ⟨c1, o1, n1, k1, rfl⟩ := fo_one hm
    obtain ⟨v1, -⟩ := hw5
    obtain ⟨a1, -⟩ := ha
    have hz : n = 0 := num_zero w2 hk h1 h3
    simp only [sizeF] at hf hs
    rw [q, pKey4, hcast]
    simp only [tkF, joinK, (by decide : ¬ (4 : Nat) = 1), (by decide : ¬ (4 : Nat) = 7), Bool.false_eq_true, if_false, List.nil_append, brkK_app, List.append_nil]
    have e1 := a1 f fi (a + 1) d ln (tm 41 ln :: R) (by simpa [depK, wfN] using v1) (by simp) (isM_ne (by decide)) (by omega) (by omega)
    unfold pOne
    rw [mv_cons (by simp), need_true (isM_tm ..), mv_cons (by simp), e1, sub_ok]
    dsimp only
    rw [need_true (isM_tm ..), mv_cons hR]
    simp [usesF, ren, renN, hk, hz]
  · obtain ⟨c1, o1, n1, k1, c2, o2, n2, k2, rfl⟩ := fo_two hm
    obtain ⟨v1, v2, -⟩ := hw5
    obtain ⟨a1, a2, -⟩ := ha
    have hz : n = 0 := num_zero w2 hk h1 h3
    simp only [sizeF] at hf hs
    rw [q, pKey5, hcast]
    have hh2 := tkN_head o2 n2 (tkF k2 d ln) (tkF k2 (d + 1) ln) d ln
    simp only [tkF, joinK, (by decide : ¬ (5 : Nat) = 1), (by decide : ¬ (5 : Nat) = 7), Bool.false_eq_true, if_false, if_true, List.nil_append, brkK_app, List.append_nil, List.append_assoc, List.cons_append]
    have e2 := a2 f fi (a + 1 + (1 + sizeF k1)) d ln (tm 41 ln :: R) (by simpa [depK, wfN] using v2) (by simp) (isM_ne (by decide)) (by omega) (by omega)
    generalize tkN o2 n2 (tkF k2 d ln) (tkF k2 (d + 1) ln) d ln = X2 at *
    have e1 := a1 f fi (a + 1) d ln (tm 44 ln :: (X2 ++ tm 41 ln :: R)) (by simpa [depK, wfN] using v1) (by simp) (isM_ne (by decide)) (by omega) (by omega)
    unfold pTwo
    rw [mv_cons (by simp), need_true (isM_tm ..), mv_cons (by simp), e1, sub_ok]
    dsimp only
    rw [need_true (isM_tm ..), mv_cons (by simp)]
    simp only [sizeF, ren_size, Nat.add_zero]
    rw [e2, sub_ok]
    dsimp only
    rw [need_true (isM_tm ..), mv_cons hR]
    have ar1 : a + 1 + (1 + sizeF k1) = a + 1 + 1 + sizeF k1 := by omega
    simp only [usesF, ren, Fo.app, ar1]
    simp [hz, renN, hk]
  · have hz : n = 0 := num_zero w2 hk h1 h3
    have hne : brkK ln (tkF k d ln) ++ R ≠ [] := by rw [brkK_app]; simp
    rw [q, pKey6, hcast]
    unfold pMany
    simp only [(by decide : ¬ (6 : Nat) = 1), (by decide : ¬ (6 : Nat) = 7), if_false, List.nil_append]
    rw [mv_cons hne, pList_all hR ha hw5 (by omega) (by omega) (by omega), sub_ok]
    simp [usesF, renN, hk, hz]
  · have hn := num_named w2 hk
    have hne : brkK ln (tkF k d ln) ++ R ≠ [] := by rw [brkK_app]; simp
    rw [q, pKey7, hcast]
    unfold pNamed
    simp only [(by decide : ¬ (7 : Nat) = 1), if_false, if_true, List.cons_append, List.nil_append]
    rw [mv_cons (by simp), need_true (isN_name hn.1 ..), mv_cons hne, pList_all hR ha hw5 (by omega) (by omega) (by omega), sub_ok]
    simp [usesF, renN, hk, hd_cons, tw]
end Go.Proofs.YtjendlnicbieoaaGreatDoor
