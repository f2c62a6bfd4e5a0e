/-
  Programs as data: which may be (the places of a function's nodes), and their nodes as a forest. Plain, no walk.
-/
import Derived.Lib.Hide
import Derived.Lib.ParseIntB
import Derived.Lib.ItoaLen
namespace Go.Proofs.YtjendlnicbieoaaGreatDoor

/-- A node; a function. -/
structure Nd where
  op : Int
  n : Int
  l : List Int
structure Fn where
  ps : Int
  ns : List Nd
/-- Nodes, each with those beneath it and those behind it. -/
inductive Fo where
  | nil
  | cons (at_ : Nat) (op n : Int) (kids rest : Fo)

def kidsOk (op : Int) (m : Nat) : Bool :=
  if op = 1 ∨ op = 2 ∨ op = 3 ∨ op = 15 ∨ op = 19 then m == 0
  else if op = 4 ∨ op = 6 ∨ op = 7 ∨ op = 8 ∨ op = 9 ∨ op = 10 ∨ op = 16 then m == 2
  else if op = 5 then m == 3
  else if op = 11 ∨ op = 12 ∨ op = 17 ∨ op = 18 ∨ op = 24 then m == 1
  else if op = 13 ∨ op = 14 ∨ op = 22 ∨ op = 23 then decide (m ≤ 8)
  else if op = 20 then decide (m ≤ 16)
  else if op = 21 then decide (1 ≤ m ∧ m ≤ 9)
  else false
def namesOp (op : Int) : Bool := decide (op = 13 ∨ op = 14 ∨ op = 21 ∨ op = 22 ∨ op = 23)
def numOk (op n d : Int) : Bool :=
  if op = 1 then true else if op = 3 then decide (0 ≤ n ∧ n < d) else if namesOp op then decide (0 ≤ n ∧ n ≤ 63) else n == 0

/-- The places of nodes: the one above, how many variables stand at it. -/
abbrev Pl := List (Int × Int)
def pl (p : Pl) (i : Nat) : Int × Int := p.getD i (0, 0)
def kidsP (n i : Nat) (d : Int) (lt : Bool) : Nat → List Int → Pl → Option Pl
  | _, [], p => some p
  | k, c :: r, p => if c ≤ (i : Int) ∨ (n : Int) ≤ c ∨ 0 ≤ (pl p c.toNat).1 then none
    else kidsP n i d lt (k + 1) r (p.set c.toNat ((i : Int), if lt = true ∧ k = 1 then d + 1 else d))
def badN (i : Nat) (x : Nd) (p : Pl) : Prop := (0 < i ∧ (pl p i).1 < 0) ∨ 64 < (pl p i).2 ∨ kidsOk x.op x.l.length = false ∨ numOk x.op x.n (pl p i).2 = false
instance (i : Nat) (x : Nd) (p : Pl) : Decidable (badN i x p) := by unfold badN; infer_instance
def nodeP (n i : Nat) (x : Nd) (p : Pl) : Option Pl := if badN i x p then none else kidsP n i (pl p i).2 (x.op == 4) 0 x.l p
def nodesP (n : Nat) : Nat → List Nd → Pl → Option Pl
  | _, [], p => some p
  | i, x :: r, p => match nodeP n i x p with
    | some q => nodesP n (i + 1) r q
    | none => none
def startP (n : Nat) (d : Int) : Pl := (List.replicate n ((-1 : Int), (0 : Int))).set 0 (-1, d)
def okF (f : Fn) : Bool := decide (0 ≤ f.ps ∧ f.ps ≤ 9 ∧ 1 ≤ f.ns.length ∧ f.ns.length ≤ 200) && (nodesP f.ns.length 0 f.ns (startP f.ns.length f.ps)).isSome
/-- Does a node that names a function fit it? -/
def fitN (x : Nd) (ps : Int) : Bool := if x.op = 23 then ps == (x.l.length : Int) + 1 else ps == (x.l.length : Int)
def nameOk (p : List Fn) (x : Nd) : Bool := if namesOp x.op then (match p[x.n.toNat]? with
    | some g => decide (x.n < p.length) && fitN x g.ps
    | none => false) else true
def okP (p : List Fn) : Bool := decide (1 ≤ p.length ∧ p.length ≤ 64) && p.all okF && (match p with
    | f :: _ => f.ps == 0
    | [] => false) && p.all fun f => f.ns.all (nameOk p)

theorem pl_set (p : Pl) (i j : Nat) (v : Int × Int) (hi : i < p.length) : pl (p.set i v) j = if i = j then v else pl p j := by
  unfold pl
  simp only [List.getD_eq_getElem?_getD, List.getElem?_set]
  by_cases h : i = j
  · subst h; simp [hi]
  · simp [h]
theorem kidsP_spec (n i : Nat) (d : Int) (lt : Bool) : ∀ (l : List Int) (k : Nat) (p q : Pl), kidsP n i d lt k l p = some q → p.length = n →
    q.length = n ∧ l.Nodup ∧ (∀ c ∈ l, (i : Int) < c ∧ c < n ∧ (pl p c.toNat).1 < 0) ∧
    (∀ (m : Nat) (c : Int), l[m]? = some c → pl q c.toNat = ((i : Int), if lt = true ∧ k + m = 1 then d + 1 else d)) ∧
    (∀ j : Nat, (j : Int) ∉ l → pl q j = pl p j)
  | [], k, p, q, h, hp => by
    simp only [kidsP, Option.some.injEq] at h
    subst h
    exact ⟨hp, List.nodup_nil, by simp, by simp, fun _ _ => rfl⟩
  | c :: r, k, p, q, h, hp => by
    rw [kidsP] at h
    by_cases hb : c ≤ (i : Int) ∨ (n : Int) ≤ c ∨ 0 ≤ (pl p c.toNat).1
    · rw [if_pos hb] at h; cases h
    rw [if_neg hb] at h
    have h1 : (i : Int) < c := by omega
    have h2 : c < n := by omega
    have h3 : (pl p c.toNat).1 < 0 := by omega
    have hct : ((c.toNat : Nat) : Int) = c := Int.toNat_of_nonneg (by omega)
    have hcl : c.toNat < p.length := by omega
    obtain ⟨q1, q2, q3, q4, q5⟩ := kidsP_spec n i d lt r (k + 1) _ q h (by simpa using hp)
    have hcr : c ∉ r := by
      intro hm
      have := (q3 c hm).2.2
      rw [pl_set _ _ _ _ hcl, if_pos rfl] at this
      simp only at this
      omega
    refine ⟨q1, List.nodup_cons.2 ⟨hcr, q2⟩, ?_, ?_, ?_⟩
    · intro e he
      rcases List.mem_cons.1 he with rfl | he
      · exact ⟨h1, h2, h3⟩
      · obtain ⟨e1, e2, e3⟩ := q3 e he
        refine ⟨e1, e2, ?_⟩
        rw [pl_set _ _ _ _ hcl, if_neg (by intro e4; apply hcr; have : e = c := by omega
                                           rw [← this]; exact he)] at e3
        exact e3
    · intro m e he
      cases m with
      | zero =>
        obtain rfl : c = e := by simpa using he
        have := q5 c.toNat (by rw [hct]; exact hcr)
        rw [this, pl_set _ _ _ _ hcl, if_pos rfl]
        rfl
      | succ m =>
        have := q4 m e (by simpa using he)
        rw [this]
        have e5 : k + 1 + m = k + (m + 1) := by omega
        rw [e5]
    · intro j hj
      rw [List.mem_cons, not_or] at hj
      rw [q5 j hj.2, pl_set _ _ _ _ hcl, if_neg (by intro e; apply hj.1; omega)]

/-- What the places of a valid function are, as far as node i. -/
structure GoodTo (ns : List Nd) (n : Nat) (i : Nat) (q : Pl) : Prop where
  len : q.length = n
  fit : ∀ (j : Nat) (x : Nd), j < i → ns[j]? = some x → kidsOk x.op x.l.length = true ∧ numOk x.op x.n (pl q j).2 = true ∧ (pl q j).2 ≤ 64 ∧ (0 < j → 0 ≤ (pl q j).1)
  kid : ∀ (j : Nat) (x : Nd), j < i → ns[j]? = some x → ∀ (m : Nat) (c : Int), x.l[m]? = some c → (j : Int) < c ∧ c < n ∧ pl q c.toNat = ((j : Int), if x.op = 4 ∧ m = 1 then (pl q j).2 + 1 else (pl q j).2)
  nodup : ∀ (j : Nat) (x : Nd), j < i → ns[j]? = some x → x.l.Nodup
  top : ∀ c : Nat, c < n → 0 ≤ (pl q c).1 → ∃ (j : Nat) (x : Nd), j < i ∧ j < c ∧ ns[j]? = some x ∧ (c : Int) ∈ x.l
  root : pl q 0 = pl q 0
theorem nodeP_good {ns : List Nd} {n i : Nat} {x : Nd} {p q : Pl} (hx : ns[i]? = some x) (hi : i < n) (hg : GoodTo ns n i p) (h : nodeP n i x p = some q) : GoodTo ns n (i + 1) q ∧ ∀ j, j ≤ i → pl q j = pl p j := by
  unfold nodeP at h
  by_cases hb : badN i x p
  · rw [if_pos hb] at h; cases h
  rw [if_neg hb] at h
  obtain ⟨q1, q2, q3, q4, q5⟩ := kidsP_spec _ _ _ _ _ _ _ _ h hg.len
  have hlow : ∀ j, j ≤ i → pl q j = pl p j := fun j hj => q5 j fun hm => by have := (q3 _ hm).1; omega
  have hset : ∀ c : Nat, 0 ≤ (pl p c).1 → pl q c = pl p c := fun c hc => q5 c fun hm => by have := (q3 _ hm).2.2; simp at this; omega
  unfold badN at hb
  simp only [not_or, Bool.not_eq_false, not_and, Int.not_lt] at hb
  obtain ⟨b1, b2, b3, b4⟩ := hb
  refine ⟨⟨q1, ?_, ?_, ?_, ?_, rfl⟩, hlow⟩
  · intro j y hj hy
    rcases Nat.lt_or_ge j i with hj2 | hj2
    · rw [hlow j (by omega)]; exact hg.fit j y hj2 hy
    · obtain rfl : j = i := by omega
      rw [hx] at hy
      injection hy with hy
      subst hy
      rw [hlow j (Nat.le_refl _)]
      exact ⟨b3, b4, by omega, b1⟩
  · intro j y hj hy m c hc
    rcases Nat.lt_or_ge j i with hj2 | hj2
    · obtain ⟨k1, k2, k3⟩ := hg.kid j y hj2 hy m c hc
      refine ⟨k1, k2, ?_⟩
      rw [hlow j (by omega), hset c.toNat (by rw [k3]; simp), k3]
    · obtain rfl : j = i := by omega
      rw [hx] at hy
      injection hy with hy
      subst hy
      have hm : c ∈ x.l := List.mem_of_getElem? hc
      obtain ⟨k1, k2, _⟩ := q3 c hm
      refine ⟨k1, k2, ?_⟩
      rw [q4 m c hc, hlow j (Nat.le_refl _)]
      simp
  · intro j y hj hy
    rcases Nat.lt_or_ge j i with hj2 | hj2
    · exact hg.nodup j y hj2 hy
    · obtain rfl : j = i := by omega
      rw [hx] at hy
      injection hy with hy
      subst hy
      exact q2
  · intro c hc h0
    by_cases hm : (c : Int) ∈ x.l
    · exact ⟨i, x, by omega, by have := (q3 _ hm).1; omega, hx, hm⟩
    · rw [q5 c hm] at h0
      obtain ⟨j, y, j1, j2, j3, j4⟩ := hg.top c hc h0
      exact ⟨j, y, by omega, j2, j3, j4⟩
theorem nodesP_good {ns : List Nd} {n : Nat} (hn : n = ns.length) : ∀ (r : List Nd) (i : Nat) (p q : Pl), ns.drop i = r → i ≤ n → GoodTo ns n i p → nodesP n i r p = some q → GoodTo ns n n q ∧ pl q 0 = pl p 0
  | [], i, p, q, hr, hi, hg, h => by
    rw [List.drop_eq_nil_iff] at hr
    rw [nodesP] at h
    injection h with h
    subst h
    have : i = n := by omega
    subst this
    exact ⟨hg, rfl⟩
  | x :: r, i, p, q, hr, hi, hg, h => by
    have hil : i < ns.length := by
      rcases Nat.lt_or_ge i ns.length with hl | hl
      · exact hl
      · rw [List.drop_eq_nil_of_le hl] at hr; cases hr
    rw [List.drop_eq_getElem_cons hil] at hr
    injection hr with hr1 hr2
    have hx : ns[i]? = some x := by rw [List.getElem?_eq_getElem hil, hr1]
    rw [nodesP] at h
    split at h
    · rename_i p1 hp1
      obtain ⟨h1, h2⟩ := nodeP_good hx (by omega) hg hp1
      obtain ⟨h3, h4⟩ := nodesP_good hn r (i + 1) p1 q hr2 (by omega) h1 h
      exact ⟨h3, h4.trans (h2 0 (by omega))⟩
    · cases h
/-- What the places of a valid function are. -/
structure Good (f : Fn) (q : Pl) : Prop where
  ps0 : 0 ≤ f.ps
  ps9 : f.ps ≤ 9
  one : 1 ≤ f.ns.length
  most : f.ns.length ≤ 200
  to_ : GoodTo f.ns f.ns.length f.ns.length q
  root : pl q 0 = (-1, f.ps)
theorem okF_good {f : Fn} (h : okF f = true) : ∃ q, Good f q := by
  unfold okF at h
  rw [Bool.and_eq_true, decide_eq_true_eq, Option.isSome_iff_exists] at h
  obtain ⟨⟨h1, h2, h3, h4⟩, q, hq⟩ := h
  have hpl : ∀ j, pl (startP f.ns.length f.ps) j = if 0 = j then (-1, f.ps) else pl (List.replicate f.ns.length (-1, 0)) j := fun j => pl_set _ 0 j _ (by simp; omega)
  obtain ⟨g1, g2⟩ := nodesP_good rfl f.ns 0 (startP f.ns.length f.ps) q rfl (by omega) ⟨by simp [startP], fun j x hj => by omega, fun j x hj => by omega, fun j x hj => by omega, fun c hc h0 => by
    exfalso
    rw [hpl] at h0
    by_cases hz : 0 = c
    · rw [if_pos hz] at h0; simp at h0
    · rw [if_neg hz] at h0
      unfold pl at h0
      simp [List.getD_eq_getElem?_getD, hc] at h0, rfl⟩ hq
  refine ⟨q, h1, h2, h3, h4, g1, ?_⟩
  rw [g2, hpl, if_pos rfl]

/-- Nodes of a list, read as a forest. -/
inductive RdF (ns : List Nd) : List Int → Fo → Prop
  | nil : RdF ns [] .nil
  | cons {c : Nat} {x : Nd} {l : List Int} {k r : Fo} : ns[c]? = some x → RdF ns x.l k → RdF ns l r → RdF ns ((c : Int) :: l) (.cons c x.op x.n k r)
def labels : Fo → List Nat
  | .nil => []
  | .cons c _ _ k r => c :: (labels k ++ labels r)
theorem rdF_all {ns : List Nd} (hk : ∀ (j : Nat) (x : Nd), ns[j]? = some x → ∀ c ∈ x.l, (j : Int) < c ∧ c < ns.length) : ∀ (b : Nat) (l : List Int), (∀ c ∈ l, 0 ≤ c ∧ c < ns.length ∧ (ns.length : Int) ≤ c + b) → ∃ t, RdF ns l t
  | 0, l, hl => by
    cases l with
    | nil => exact ⟨.nil, .nil⟩
    | cons c r => have := hl c (List.mem_cons_self ..); omega
  | b + 1, l, hl => by
    induction l with
    | nil => exact ⟨.nil, .nil⟩
    | cons c r ih =>
      obtain ⟨t2, h2⟩ := ih fun e he => hl e (List.mem_cons_of_mem _ he)
      obtain ⟨c1, c2, c3⟩ := hl c (List.mem_cons_self ..)
      obtain ⟨m, rfl⟩ := Int.eq_ofNat_of_zero_le c1
      have hm : m < ns.length := by omega
      have hx : ns[m]? = some ns[m] := List.getElem?_eq_getElem hm
      obtain ⟨t1, h1⟩ := rdF_all hk b ns[m].l fun e he => by
        have := hk m _ hx e he
        omega
      exact ⟨_, .cons hx h1 h2⟩
theorem Good.tree {f : Fn} {q : Pl} (h : Good f q) : ∃ t, RdF f.ns [0] t := by
  refine rdF_all (fun j x hx c hc => ?_) f.ns.length [0] fun c hc => by have := h.one; simp at hc; omega
  obtain ⟨m, hm⟩ := List.mem_iff_getElem?.1 hc
  have hj : j < f.ns.length := (List.getElem?_eq_some_iff.1 hx).1
  obtain ⟨h1, h2, _⟩ := h.to_.kid j x hj hx m c hm
  exact ⟨h1, h2⟩
/-- How often a node stands in a forest. -/
theorem RdF.count {f : Fn} {q : Pl} (h : Good f q) {l : List Int} {t : Fo} (hr : RdF f.ns l t) (j : Nat) (hj : j < f.ns.length) :
    (labels t).count j = l.count (j : Int) + if j = 0 then 0 else (labels t).count (pl q j).1.toNat := by
  induction hr with
  | nil => simp [labels]
  | @cons c x l k r hx hk hl ih1 ih2 =>
    have hc : c < f.ns.length := (List.getElem?_eq_some_iff.1 hx).1
    have hcnt : x.l.count (j : Int) = if j = 0 then 0 else if c = (pl q j).1.toNat then 1 else 0 := by
      by_cases hm : (j : Int) ∈ x.l
      · obtain ⟨m, hm2⟩ := List.mem_iff_getElem?.1 hm
        obtain ⟨h1, h2, h3⟩ := h.to_.kid c x hc hx m _ hm2
        have hnd := h.to_.nodup c x hc hx
        rw [Int.toNat_natCast] at h3
        rw [if_neg (by omega), h3, if_pos (by simp)]
        exact hnd.count.trans (if_pos hm)
      · rw [List.count_eq_zero_of_not_mem hm]
        by_cases h0 : j = 0
        · rw [if_pos h0]
        · rw [if_neg h0, if_neg]
          intro e
          have hp := (h.to_.fit j _ hj (List.getElem?_eq_getElem hj)).2.2.2 (by omega)
          obtain ⟨c2, x2, d1, d2, d3, d4⟩ := h.to_.top j hj hp
          obtain ⟨m, hm2⟩ := List.mem_iff_getElem?.1 d4
          have h3 := (h.to_.kid c2 x2 d1 d3 m _ hm2).2.2
          rw [Int.toNat_natCast] at h3
          rw [h3] at e
          simp at e
          subst e
          rw [hx] at d3
          injection d3 with d3
          subst d3
          exact hm d4
    simp only [labels, List.count_cons, List.count_append, ih1, ih2, hcnt]
    by_cases h0 : j = 0
    · subst h0
      simp only [if_true, beq_iff_eq]
      have e1 : (c = 0) ↔ ((c : Int) = ((0 : Nat) : Int)) := by omega
      by_cases hc0 : c = 0
      · simp [hc0]
      · have : ¬ ((c : Int) = ((0 : Nat) : Int)) := by omega
        simp [hc0]
    · simp only [if_neg h0, beq_iff_eq]
      by_cases hcj : c = j
      · have : ((c : Int) = (j : Int)) := by omega
        simp only [hcj, if_true]
        by_cases hpj : j = (pl q j).1.toNat
        · simp only [← hpj, if_true]; omega
        · simp only [if_neg hpj]; omega
      · have : ¬ ((c : Int) = (j : Int)) := by omega
        simp only [if_neg hcj, if_neg this]
        by_cases hpj : c = (pl q j).1.toNat
        · simp only [if_pos hpj]; omega
        · simp only [if_neg hpj]; omega
/-- Each node stands in the forest once. -/
theorem RdF.once {f : Fn} {q : Pl} (h : Good f q) {t : Fo} (hr : RdF f.ns [0] t) : ∀ (b j : Nat), j < b → j < f.ns.length → (labels t).count j = 1
  | 0, j, hb, _ => by omega
  | b + 1, j, hb, hj => by
    rw [hr.count h j hj]
    by_cases h0 : j = 0
    · subst h0; simp
    · rw [if_neg h0]
      have hp := (h.to_.fit j _ hj (List.getElem?_eq_getElem hj)).2.2.2 (by omega)
      obtain ⟨c2, x2, d1, d2, d3, d4⟩ := h.to_.top j hj hp
      obtain ⟨m, hm2⟩ := List.mem_iff_getElem?.1 d4
      have h3 := (h.to_.kid c2 x2 d1 d3 m _ hm2).2.2
      rw [Int.toNat_natCast] at h3
      rw [h3]
      simp only [Int.toNat_natCast]
      rw [RdF.once h hr b c2 (by omega) d1]
      have : ¬ ((0 : Int) = (j : Int)) := by omega
      simp only [List.count_cons, List.count_nil, beq_iff_eq, if_neg this]
theorem RdF.lt {ns : List Nd} {l : List Int} {t : Fo} (hr : RdF ns l t) : ∀ c ∈ labels t, c < ns.length := by
  induction hr with
  | nil => simp [labels]
  | @cons c x l k r hx hk hl ih1 ih2 =>
    intro d hd
    simp only [labels, List.mem_cons, List.mem_append] at hd
    rcases hd with rfl | hd | hd
    · exact (List.getElem?_eq_some_iff.1 hx).1
    · exact ih1 d hd
    · exact ih2 d hd
theorem RdF.perm {f : Fn} {q : Pl} (h : Good f q) {t : Fo} (hr : RdF f.ns [0] t) : (labels t).Perm (List.range f.ns.length) := by
  rw [List.perm_iff_count]
  intro j
  rcases Nat.lt_or_ge j f.ns.length with hj | hj
  · rw [hr.once h (j + 1) j (by omega) hj, List.nodup_range.count, if_pos (List.mem_range.2 hj)]
  · rw [List.count_eq_zero_of_not_mem (fun hm => by have := hr.lt j hm; omega), List.count_eq_zero_of_not_mem (fun hm => by have := List.mem_range.1 hm; omega)]
theorem RdF.size {f : Fn} {q : Pl} (h : Good f q) {t : Fo} (hr : RdF f.ns [0] t) : (labels t).length = f.ns.length := by simpa using (hr.perm h).length_eq
theorem RdF.nodup {f : Fn} {q : Pl} (h : Good f q) {t : Fo} (hr : RdF f.ns [0] t) : (labels t).Nodup := (hr.perm h).nodup_iff.2 List.nodup_range

def sizeF : Fo → Nat
  | .nil => 0
  | .cons _ _ _ k r => 1 + sizeF k + sizeF r
theorem sizeF_labels : ∀ t : Fo, (labels t).length = sizeF t
  | .nil => rfl
  | .cons _ _ _ k r => by simp [labels, sizeF, sizeF_labels k, sizeF_labels r]; omega
def roots (a : Nat) : Fo → List Int
  | .nil => []
  | .cons _ _ _ k r => (a : Int) :: roots (a + 1 + sizeF k) r
/-- A forest's nodes, each ahead of those beneath it, numbered from a on. -/
def flat (a : Nat) : Fo → List Nd
  | .nil => []
  | .cons _ op n k r => { op := op, n := n, l := roots (a + 1) k } :: (flat (a + 1) k ++ flat (a + 1 + sizeF k) r)
theorem flat_length : ∀ (t : Fo) (a : Nat), (flat a t).length = sizeF t
  | .nil, _ => rfl
  | .cons _ _ _ k r, a => by simp [flat, sizeF, flat_length k, flat_length r]; omega
/-- Where the places of nodes are their numbers in the order, the forest's nodes are those of the list, renumbered. -/
theorem RdF.flat {ns : List Nd} {l : List Int} {t : Fo} (hr : RdF ns l t) (place : Int → Int) : ∀ a, (∀ m c : Nat, (labels t)[m]? = some c → place (c : Int) = ((a + m : Nat) : Int)) →
    roots a t = l.map place ∧ Proofs.YtjendlnicbieoaaGreatDoor.flat a t = (labels t).map fun c => match ns[c]? with
      | some x => { op := x.op, n := x.n, l := x.l.map place }
      | none => { op := 0, n := 0, l := [] } := by
  induction hr with
  | nil => intro a _; exact ⟨rfl, rfl⟩
  | @cons c x l k r hx hk hl ih1 ih2 =>
    intro a hp
    have h0 : place (c : Int) = (a : Int) := by simpa using hp 0 c rfl
    obtain ⟨i1, i2⟩ := ih1 (a + 1) fun m d hd => by
      have hml := (List.getElem?_eq_some_iff.1 hd).1
      have := hp (m + 1) d (by simp only [labels, List.getElem?_cons_succ]; rw [List.getElem?_append_left hml]; exact hd)
      rw [this]
      congr 1
      omega
    obtain ⟨j1, j2⟩ := ih2 (a + 1 + sizeF k) fun m d hd => by
      have := hp (1 + sizeF k + m) d (by
        rw [show 1 + sizeF k + m = (sizeF k + m) + 1 by omega]
        simp only [labels, List.getElem?_cons_succ]
        rw [List.getElem?_append_right (by rw [sizeF_labels]; omega), sizeF_labels, show sizeF k + m - sizeF k = m by omega]
        exact hd)
      rw [this]
      congr 1
      omega
    refine ⟨?_, ?_⟩
    · rw [roots, List.map_cons, h0, j1]
    · rw [Proofs.YtjendlnicbieoaaGreatDoor.flat, labels, List.map_cons, hx, List.map_append, ← i2, ← j2, i1]
end Go.Proofs.YtjendlnicbieoaaGreatDoor
/-
  The program of a source text (package source): tokens, expressions, functions. Plain, no walk.
-/
namespace Go.Proofs.YtjendlnicbieoaaGreatDoor

abbrev Bs := List UInt8
/-- A token: its kind (0 the end, 1 none, 2 a name, 3 a number, 4 a mark), its text, its line. -/
structure Tk where
  k : Nat
  s : Bs
  ln : Nat
def isLt (c : UInt8) : Bool := decide (97 ≤ c.toNat ∧ c.toNat ≤ 122)
def isDi (c : UInt8) : Bool := decide (48 ≤ c.toNat ∧ c.toNat ≤ 57)
def isAn (c : UInt8) : Bool := isLt c || isDi c
/-- Blanks and comments are left out. -/
def skipB : Bool → Bs → Nat → Bs × Nat
  | _, [], n => ([], n)
  | cm, c :: r, n => if c.toNat = 10 then skipB false r (n + 1) else if cm = true ∨ c.toNat = 32 ∨ c.toNat = 9 then skipB cm r n else if c.toNat = 35 then skipB true r n else (c :: r, n)
/-- The number of digits, perhaps with a sign ahead. -/
def intD (l : Bs) : Option Int := if (if l.head? = some 45 then l.tail else l).head? = some 48 ∧ l ≠ [48] then none else match Lib.parseIntB 64 l with
    | .ok v => some v
    | _ => none
def tokD (c : UInt8) (r : Bs) (n : Nat) : Tk × Bs :=
  if isLt c = true then (⟨if (c :: r.takeWhile isAn).length ≤ 16 then 2 else 1, c :: r.takeWhile isAn, n⟩, r.dropWhile isAn)
  else if isDi c = true ∨ (c.toNat = 45 ∧ (r.head?.map isDi) = some true) then (⟨if (intD (c :: r.takeWhile isDi)).isSome then 3 else 1, c :: r.takeWhile isDi, n⟩, r.dropWhile isDi)
  else if c.toNat = 40 ∨ c.toNat = 41 ∨ c.toNat = 44 ∨ c.toNat = 61 then (⟨4, [c], n⟩, r)
  else (⟨1, [c], n⟩, r)
/-- The next token, and what stands behind it, at which line. -/
def tok1 (l : Bs) (n : Nat) : Tk × Bs × Nat := match skipB false l n with
  | ([], m) => (⟨0, [], m⟩, [], m)
  | (c :: r, m) => ((tokD c r m).1, (tokD c r m).2, m)
/-- A text's tokens, as far as its end. -/
def toksF : Nat → Bs → Nat → List Tk
  | 0, _, n => [⟨0, [], n⟩]
  | f + 1, l, n => if (tok1 l n).1.k = 0 then [(tok1 l n).1] else (tok1 l n).1 :: toksF f (tok1 l n).2.1 (tok1 l n).2.2

def hd (ts : List Tk) : Tk := ts.headD ⟨0, [], 0⟩
def mv : List Tk → List Tk
  | _ :: u :: r => u :: r
  | l => l
def isM (c : UInt8) (ts : List Tk) : Bool := (hd ts).k == 4 && (hd ts).s == [c]
def isW (w : Bs) (ts : List Tk) : Bool := (hd ts).k == 2 && (hd ts).s == w
def wFun : Bs := [102, 117, 110]
def wIn : Bs := [105, 110]
def wThen : Bs := [116, 104, 101, 110]
def wElse : Bs := [101, 108, 115, 101]
def wLet : Bs := [108, 101, 116]
def wIf : Bs := [105, 102]
/-- The word of an Op, and its form: 0 none, 1 alone, 4 one, 5 two, 6 many, 7 named. -/
def wTab : Nat → Bs × Nat
  | 2 => ([117, 110, 105, 116], 1)
  | 6 => ([97, 100, 100], 5)
  | 7 => ([115, 117, 98], 5)
  | 8 => ([101, 113], 5)
  | 9 => ([108, 101, 115, 115], 5)
  | 10 => ([112, 97, 105, 114], 5)
  | 11 => ([102, 105, 114, 115, 116], 4)
  | 12 => ([115, 101, 99, 111, 110, 100], 4)
  | 14 => ([115, 112, 97, 119, 110], 7)
  | 15 => ([99, 104, 97, 110], 1)
  | 16 => ([115, 101, 110, 100], 5)
  | 17 => ([114, 101, 99, 118], 4)
  | 18 => ([97, 108, 119, 97, 121, 115], 4)
  | 19 => ([110, 101, 118, 101, 114], 1)
  | 20 => ([99, 104, 111, 111, 115, 101], 6)
  | 21 => ([119, 114, 97, 112], 7)
  | 22 => ([103, 117, 97, 114, 100], 7)
  | 23 => ([110, 97, 99, 107], 7)
  | 24 => ([115, 121, 110, 99], 4)
  | _ => ([], 0)
/-- The Op and the form of a word that is a node's name, from an Op on. -/
def namedF (w : Bs) : Nat → Nat → Nat × Nat
  | 0, _ => (0, 0)
  | f + 1, op => if (wTab op).2 ≠ 0 ∧ (wTab op).1 = w then (op, (wTab op).2) else namedF w f (op + 1)
/-- What a word is as a keyword: its Op and its form (2 let, 3 if). -/
def kwOf (w : Bs) : Option (Nat × Nat) :=
  if w = wFun ∨ w = wIn ∨ w = wThen ∨ w = wElse then some (0, 0) else if w = wLet then some (4, 2) else if w = wIf then some (5, 3)
  else if (namedF w 24 1).2 ≠ 0 then some (namedF w 24 1) else none
def isN (ts : List Tk) : Bool := (hd ts).k == 2 && (kwOf (hd ts).s).isNone
/-- A place at which a function is named. -/
structure Us where
  fn : Nat
  nd : Nat
  ln : Nat
  nm : Bs
def Fo.app : Fo → Fo → Fo
  | .nil, t => t
  | .cons c op n k r, t => .cons c op n k (r.app t)
abbrev PR := Except Nat (Fo × List Us × List Tk)
def need {α : Type} (b : Bool) (ts : List Tk) (k : List Tk → Except Nat α) : Except Nat α := if b = true then k (mv ts) else .error (hd ts).ln
def sub {α β : Type} (r : Except Nat α) (k : α → Except Nat β) : Except Nat β := match r with
  | .error n => .error n
  | .ok x => k x
/-- The last variable of that name. -/
def varIx (s : Bs) : List Bs → Option Nat
  | [] => none
  | v :: r => match varIx s r with
    | some i => some (i + 1)
    | none => if v = s then some 0 else none
/-- Expressions, a comma between. -/
def pMore (e : Nat → List Tk → PR) : Nat → Nat → Fo → List Us → List Tk → PR
  | 0, _, _, _, ts => .error (hd ts).ln
  | f + 1, a, d, us, ts => sub (e a ts) fun x => if isM 44 x.2.2 = true then pMore e f (a + sizeF x.1) (d.app x.1) (us ++ x.2.1) (mv x.2.2) else .ok (d.app x.1, us ++ x.2.1, x.2.2)
/-- Expressions in brackets. -/
def pList (e : Nat → List Tk → PR) (f a : Nat) (ts : List Tk) : PR := need (isM 40 ts) ts fun ts1 =>
  sub (if isM 41 ts1 = true then .ok (.nil, [], ts1) else pMore e f a .nil [] ts1) fun x => need (isM 41 x.2.2) x.2.2 fun ts2 => .ok (x.1, x.2.1, ts2)
def pOne (e : Nat → List Tk → PR) (a : Nat) (op : Int) (ts : List Tk) : PR := need (isM 40 ts) ts fun ts1 => sub (e (a + 1) ts1) fun x =>
  need (isM 41 x.2.2) x.2.2 fun ts2 => .ok (.cons a op 0 x.1 .nil, x.2.1, ts2)
def pTwo (e : Nat → List Tk → PR) (a : Nat) (op : Int) (ts : List Tk) : PR := need (isM 40 ts) ts fun ts1 => sub (e (a + 1) ts1) fun x =>
  need (isM 44 x.2.2) x.2.2 fun ts2 => sub (e (a + 1 + sizeF x.1) ts2) fun y => need (isM 41 y.2.2) y.2.2 fun ts3 => .ok (.cons a op 0 (x.1.app y.1) .nil, x.2.1 ++ y.2.1, ts3)
def pIf (e : Nat → List Tk → PR) (a : Nat) (op : Int) (ts : List Tk) : PR := sub (e (a + 1) ts) fun x =>
  need (isW wThen x.2.2) x.2.2 fun ts2 => sub (e (a + 1 + sizeF x.1) ts2) fun y => need (isW wElse y.2.2) y.2.2 fun ts3 => sub (e (a + 1 + sizeF x.1 + sizeF y.1) ts3) fun z =>
  .ok (.cons a op 0 ((x.1.app y.1).app z.1) .nil, x.2.1 ++ y.2.1 ++ z.2.1, z.2.2)
def pLet (e : List Bs → Nat → List Tk → PR) (vs : List Bs) (a : Nat) (op : Int) (ts : List Tk) : PR := need (isN ts) ts fun ts1 => need (isM 61 ts1) ts1 fun ts2 =>
  sub (e vs (a + 1) ts2) fun x => need (isW wIn x.2.2) x.2.2 fun ts3 => sub (e (vs ++ [(hd ts).s]) (a + 1 + sizeF x.1) ts3) fun y => .ok (.cons a op 0 (x.1.app y.1) .nil, x.2.1 ++ y.2.1, y.2.2)
def pMany (e : Nat → List Tk → PR) (f a : Nat) (op : Int) (ts : List Tk) : PR := sub (pList e f (a + 1) ts) fun x => .ok (.cons a op 0 x.1 .nil, x.2.1, x.2.2)
def pNamed (e : Nat → List Tk → PR) (f fi a : Nat) (op : Int) (ts : List Tk) : PR := need (isN ts) ts fun ts1 => sub (pList e f (a + 1) ts1) fun x =>
  .ok (.cons a op 0 x.1 .nil, ⟨fi, a, (hd ts).ln, (hd ts).s⟩ :: x.2.1, x.2.2)
def pKey (e : List Bs → Nat → List Tk → PR) (f fi : Nat) (vs : List Bs) (a op fm : Nat) (ts : List Tk) : PR :=
  if fm = 0 then .error (hd ts).ln
  else if fm = 2 then pLet e vs a op (mv ts)
  else if fm = 3 then pIf (e vs) a op (mv ts)
  else if fm = 4 then pOne (e vs) a op (mv ts)
  else if fm = 5 then pTwo (e vs) a op (mv ts)
  else if fm = 6 then pMany (e vs) f a op (mv ts)
  else if fm = 7 then pNamed (e vs) f fi a op (mv ts)
  else .ok (.cons a op 0 .nil .nil, [], mv ts)
def pNode (e : List Bs → Nat → List Tk → PR) (f fi : Nat) (vs : List Bs) (a : Nat) (ts : List Tk) : PR :=
  if (hd ts).k = 3 then .ok (.cons a 1 ((intD (hd ts).s).getD 0) .nil .nil, [], mv ts)
  else if (hd ts).k ≠ 2 then .error (hd ts).ln
  else match kwOf (hd ts).s with
    | some x => pKey e f fi vs a x.1 x.2 ts
    | none => if isM 40 (mv ts) = true then pNamed (e vs) f fi a 13 ts
      else match varIx (hd ts).s vs with
        | some i => .ok (.cons a 3 i .nil .nil, [], mv ts)
        | none => .error (hd ts).ln
/-- An expression: its nodes (numbered from a on), the functions that it names. -/
def pE (fi : Nat) : Nat → List Bs → Nat → List Tk → PR
  | 0, _, _, ts => .error (hd ts).ln
  | f + 1, vs, a, ts => if 200 ≤ a then .error (hd ts).ln else pNode (pE fi f) f fi vs a ts
/-- Parameters, a comma between. -/
def pPars : Nat → List Bs → List Tk → Except Nat (List Bs × List Tk)
  | 0, _, ts => .error (hd ts).ln
  | f + 1, vs, ts => if isN ts = true then need (decide (vs.length < 9) && !vs.contains (hd ts).s) ts fun ts1 => if isM 44 ts1 = true then pPars f (vs ++ [(hd ts).s]) (mv ts1) else .ok (vs ++ [(hd ts).s], ts1) else .error (hd ts).ln
def pPar (f : Nat) (ts : List Tk) : Except Nat (List Bs × List Tk) := need (isM 40 ts) ts fun ts1 => sub (if isM 41 ts1 = true then .ok ([], ts1) else pPars f [] ts1) fun x =>
  need (isM 41 x.2) x.2 fun ts2 => .ok (x.1, ts2)
/-- What has been read: the functions' names, the functions, where functions are named. -/
structure PP where
  names : List Bs
  fns : List (Nat × Fo)
  uses : List Us
def pFun (g : Nat) (p : PP) (ts : List Tk) : Except Nat (PP × List Tk) := need (isW wFun ts && decide (p.fns.length < 64)) ts fun ts1 =>
  if isN ts1 = true then need (!p.names.contains (hd ts1).s) ts1 fun ts2 => sub (pPar g ts2) fun x => need (isM 61 x.2) x.2 fun ts3 => sub (pE p.fns.length g x.1 0 ts3) fun y =>
    .ok (⟨p.names ++ [(hd ts1).s], p.fns ++ [(x.1.length, y.1)], p.uses ++ y.2.1⟩, y.2.2) else .error (hd ts1).ln
def pFuns (g : Nat) : Nat → PP → List Tk → Except Nat PP
  | 0, p, _ => .ok p
  | f + 1, p, ts => if (hd ts).k = 0 then .ok p else sub (pFun g p ts) fun x => pFuns g f x.1 x.2
def setN (fs : List Fn) (i j : Nat) (v : Int) : List Fn := fs.modify i fun f => { f with ns := f.ns.modify j fun x => { x with n := v } }
/-- The numbers of the functions that are named. -/
def resol (names : List Bs) : List Us → List Fn → Except Nat (List Fn)
  | [], fs => .ok fs
  | u :: r, fs => match names.idxOf? u.nm with
    | some i => resol names r (setN fs u.fn u.nd (i : Int))
    | none => .error u.ln
inductive RdR where
  | long
  | wrong (ln : Nat)
  | bad
  | ok (fs : List Fn) (names : List Bs)
def fnOf (x : Nat × Fo) : Fn := { ps := x.1, ns := flat 0 x.2 }
/-- The program of a text. -/
def srcP (s : Bs) : RdR := if 1048576 < s.length then .long else
  match sub (pFuns (s.length + 2) (s.length + 2) ⟨[], [], []⟩ (toksF (s.length + 1) s 0)) fun p => sub (resol p.names p.uses (p.fns.map fnOf)) fun fs => .ok (p.names, fs) with
  | .error n => .wrong n
  | .ok x => if okP x.2 = true then .ok x.2 x.1 else .bad

theorem flat_app : ∀ (s t : Fo) (a : Nat), flat a (s.app t) = flat a s ++ flat (a + sizeF s) t
  | .nil, t, a => by simp [Fo.app, flat, sizeF]
  | .cons c op n k r, t, a => by
    rw [Fo.app, flat, flat, flat_app r t, List.cons_append, List.append_assoc, sizeF]
    rw [show a + 1 + sizeF k + sizeF r = a + (1 + sizeF k + sizeF r) by omega]
theorem size_app : ∀ (s t : Fo), sizeF (s.app t) = sizeF s + sizeF t
  | .nil, t => by simp [Fo.app, sizeF]
  | .cons c op n k r, t => by rw [Fo.app, sizeF, sizeF, size_app r t]; omega
theorem roots_app : ∀ (s t : Fo) (a : Nat), roots a (s.app t) = roots a s ++ roots (a + sizeF s) t
  | .nil, t, a => by simp [Fo.app, roots, sizeF]
  | .cons c op n k r, t, a => by
    rw [Fo.app, roots, roots, roots_app r t, List.cons_append, sizeF]
    rw [show a + 1 + sizeF k + sizeF r = a + (1 + sizeF k + sizeF r) by omega]
end Go.Proofs.YtjendlnicbieoaaGreatDoor
/-
  The text of a program (package source): of a forest's nodes, where so many variables stand. Plain, no walk.
-/
namespace Go.Proofs.YtjendlnicbieoaaGreatDoor

/-- Texts, a comma between; is one due? -/
def joinC : Bool → List Bs → Bs
  | _, [] => []
  | c, x :: r => (if c = true then [44, 32] else []) ++ (x ++ joinC true r)
def brk (l : List Bs) : Bs := 40 :: (joinC false l ++ [41])
/-- A node's text, out of those beneath it (k1: with one variable more). -/
def txN (op n : Int) (k0 k1 : List Bs) (d : Int) : Bs :=
  if op = 1 then Lib.itoa n
  else if op = 3 then 118 :: Lib.itoa n
  else if op = 4 then [108, 101, 116, 32] ++ (118 :: Lib.itoa d) ++ [32, 61, 32] ++ k0.getD 0 [] ++ [32, 105, 110, 32] ++ k1.getD 1 []
  else if op = 5 then [105, 102, 32] ++ k0.getD 0 [] ++ [32, 116, 104, 101, 110, 32] ++ k0.getD 1 [] ++ [32, 101, 108, 115, 101, 32] ++ k0.getD 2 []
  else if op = 13 then (102 :: Lib.itoa n) ++ brk k0
  else (wTab op.toNat).1 ++ (if (wTab op.toNat).2 = 1 then [] else (if (wTab op.toNat).2 = 7 then 32 :: 102 :: Lib.itoa n else []) ++ brk k0)
def txF : Fo → Int → List Bs
  | .nil, _ => []
  | .cons _ op n k r, d => txN op n (txF k d) (txF k (d + 1)) d :: txF r d
/-- Names of variables. -/
def varsT (m : Nat) : List Bs := (List.range m).map fun (k : Nat) => 118 :: Lib.itoa (k : Int)
def txFn (i : Nat) (ps : Int) (t : Fo) : Bs := [102, 117, 110, 32] ++ (102 :: Lib.itoa (i : Int)) ++ [40] ++ joinC false (varsT ps.toNat) ++ [41, 32, 61, 32] ++ (txF t ps).getD 0 [] ++ [10]
/-- The text of functions, numbered from i on. -/
def txP : Nat → List (Int × Fo) → Bs
  | _, [] => []
  | i, x :: r => txFn i x.1 x.2 ++ txP (i + 1) r

def Rn (n : Int) : Prop := -9223372036854775808 ≤ n ∧ n < 9223372036854775808
theorem joinC_len : ∀ (l : List Bs) (c : Bool), (joinC c l).length ≤ (l.map fun x => x.length + 2).sum
  | [], _ => by simp [joinC]
  | x :: r, c => by
    have := joinC_len r true
    cases c <;> simp [joinC] <;> omega
def wtF : Fo → List Nat
  | .nil => []
  | .cons _ _ _ k r => 80 * (1 + sizeF k) :: wtF r
theorem wtF_sum : ∀ t : Fo, (wtF t).sum = 80 * sizeF t
  | .nil => rfl
  | .cons _ _ _ k r => by simp [wtF, sizeF, wtF_sum r]; omega
theorem txF_length : ∀ (t : Fo) (d : Int), (txF t d).length = (wtF t).length
  | .nil, _ => rfl
  | .cons _ _ _ _ r, d => by simp [txF, wtF, txF_length r d]
/-- Do all nodes have numbers of the machine, no more than so many variables above the first? -/
def rnF : Fo → Prop
  | .nil => True
  | .cons _ _ n k r => Rn n ∧ rnF k ∧ rnF r
theorem getD_two (l : List Nat) (a b : Nat) (h : a < b) : l.getD a 0 + l.getD b 0 ≤ l.sum := by
  induction l generalizing a b with
  | nil => simp
  | cons x r ih =>
    cases a with
    | zero =>
      cases b with
      | zero => omega
      | succ b =>
        have : ∀ (l : List Nat) (b : Nat), l.getD b 0 ≤ l.sum := by
          intro l
          induction l with
          | nil => intro b; simp
          | cons y q ih2 =>
            intro b
            cases b with
            | zero => simp
            | succ b => have := ih2 b; simp at this ⊢; omega
        have := this r b
        simp at this ⊢
        omega
    | succ a =>
      cases b with
      | zero => omega
      | succ b =>
        have := ih a b (by omega)
        simp at this ⊢
        omega
theorem getD_three (l : List Nat) : l.getD 0 0 + l.getD 1 0 + l.getD 2 0 ≤ l.sum := by
  match l with
  | [] => simp
  | [a] => simp
  | [a, b] => simp
  | a :: b :: c :: r => simp; omega
theorem itoa_20 {n : Int} (h : Rn n) : (Lib.itoa n).length ≤ 21 := Lib.itoa_length_le n h.1 (by have := h.2; omega)
theorem wTab_le : ∀ m : Nat, (wTab m).1.length ≤ 6 := by
  intro m
  unfold wTab
  split <;> simp
theorem sum_of_le : ∀ (l : List Bs) (m : List Nat), l.length = m.length → (∀ i, (l.getD i []).length + 2 ≤ m.getD i 0 ∨ l.length ≤ i) → (l.map fun x => x.length + 2).sum ≤ m.sum
  | [], _, _, _ => by simp
  | x :: r, m, hl, h => by
    cases m with
    | nil => simp at hl
    | cons a q =>
      have h0 := h 0
      have := sum_of_le r q (by simpa using hl) fun i => by
        have := h (i + 1)
        simpa using this
      simp at h0 ⊢
      omega
theorem txF_len : ∀ (t : Fo) (d : Int), rnF t → 0 ≤ d → d + sizeF t < 1000000 → ∀ i, ((txF t d).getD i []).length + 2 ≤ (wtF t).getD i 0 ∨ (txF t d).length ≤ i
  | .nil, _, _, _, _, i => .inr (by simp [txF])
  | .cons c op n k r, d, hr, h0, hd, i => by
    obtain ⟨h1, h2, h3⟩ := hr
    rw [sizeF] at hd
    cases i with
    | succ i =>
      have := txF_len r d h3 h0 (by omega) i
      simpa [txF, wtF] using this
    | zero =>
      refine .inl ?_
      have i0 := txF_len k d h2 h0 (by omega)
      have i1 := txF_len k (d + 1) h2 (by omega) (by omega)
      have e0 : ∀ i, ((txF k d).getD i []).length ≤ (wtF k).getD i 0 := fun i => by
        rcases i0 i with h | h
        · omega
        · rw [List.getD_eq_getElem?_getD, List.getElem?_eq_none h]; simp
      have e1 : ∀ i, ((txF k (d + 1)).getD i []).length ≤ (wtF k).getD i 0 := fun i => by
        rcases i1 i with h | h
        · omega
        · rw [List.getD_eq_getElem?_getD, List.getElem?_eq_none h]; simp
      have hs := wtF_sum k
      have s2 := getD_two (wtF k) 0 1 (by omega)
      have s3 := getD_three (wtF k)
      have hb := joinC_len (txF k d) false
      have hb2 := sum_of_le (txF k d) (wtF k) (txF_length k d) i0
      have n20 := itoa_20 h1
      have d20 := itoa_20 (n := d) ⟨by omega, by omega⟩
      have w6 := wTab_le op.toNat
      have a0 := e0 0
      have a1 := e0 1
      have a2 := e0 2
      have b1 := e1 1
      show (txN op n (txF k d) (txF k (d + 1)) d).length + 2 ≤ 80 * (1 + sizeF k)
      unfold txN
      repeat' split
      all_goals
        try simp only [brk, List.length_cons, List.length_append, List.length_nil]
        omega
end Go.Proofs.YtjendlnicbieoaaGreatDoor
/-
  The tokens of a source text: how a text is cut, word by word. Plain, no walk.
-/
namespace Go.Proofs.YtjendlnicbieoaaGreatDoor

theorem dd_snoc {m d : Nat} (hm : 0 < m) (hd : d < 10) : Lib.decDigits (m * 10 + d) = Lib.decDigits m ++ [UInt8.ofNat (48 + d)] := by
  rw [Lib.decDigits, dif_neg (by omega), show (m * 10 + d) / 10 = m by omega, show (m * 10 + d) % 10 = d by omega]
theorem dd_digits (n : Nat) : ∀ c ∈ Lib.decDigits n, 48 ≤ c.toNat ∧ c.toNat ≤ 57 := by
  induction n using Nat.strongRecOn with
  | _ n ih =>
    intro c hc
    by_cases h : n < 10
    · rw [Lib.decDigits_one h] at hc
      have hc := List.mem_singleton.1 hc
      subst hc
      rw [UInt8.toNat_ofNat']
      omega
    · have e : n = (n / 10) * 10 + n % 10 := by omega
      have hs := dd_snoc (m := n / 10) (d := n % 10) (by omega) (by omega)
      rw [← e] at hs
      rw [hs] at hc
      rcases List.mem_append.1 hc with hc | hc
      · exact ih (n / 10) (by omega) c hc
      · have hc := List.mem_singleton.1 hc
        subst hc
        rw [UInt8.toNat_ofNat']
        omega
theorem dd_head (n : Nat) : ∃ d ds, d ≤ 9 ∧ (0 < n → 1 ≤ d) ∧ (n = 0 → ds = []) ∧ Lib.decDigits n = UInt8.ofNat (48 + d) :: ds := by
  induction n using Nat.strongRecOn with
  | _ n ih =>
    by_cases h : n < 10
    · exact ⟨n, [], by omega, fun h => h, fun _ => rfl, Lib.decDigits_one h⟩
    · have e : n = (n / 10) * 10 + n % 10 := by omega
      have hs := dd_snoc (m := n / 10) (d := n % 10) (by omega) (by omega)
      rw [← e] at hs
      obtain ⟨d, ds, h1, h2, -, h3⟩ := ih (n / 10) (by omega)
      exact ⟨d, ds ++ [UInt8.ofNat (48 + n % 10)], h1, fun _ => h2 (by omega), fun h0 => by omega, by rw [hs, h3]; rfl⟩
theorem pu_snoc (M : Nat) (c : UInt8) : ∀ (l : List UInt8) (acc : Nat), Lib.parseUintM M acc (l ++ [c]) = match Lib.parseUintM M acc l with
    | .ok v => Lib.parseUintM M v [c]
    | e => e
  | [], acc => by simp [Lib.parseUintM]
  | x :: r, acc => by
    rw [List.cons_append, Lib.parseUintM, Lib.parseUintM]
    repeat' split
    all_goals first
      | rfl
      | (rename_i h1 h2 h3; rw [pu_snoc M c r, h3])
      | (rename_i h1 h2 h3 h4; rw [pu_snoc M c r, h4])
      | simp_all [pu_snoc M c r]
theorem pu_dd (M : Nat) (hM : M ≤ 18446744073709551615) (n : Nat) (h : n ≤ M) : Lib.parseUintM M 0 (Lib.decDigits n) = .ok n := by
  induction n using Nat.strongRecOn with
  | _ n ih =>
    have one : ∀ d acc, d ≤ 9 → acc < 1844674407370955162 → acc * 10 + d ≤ M → Lib.parseUintM M acc [UInt8.ofNat (48 + d)] = .ok (acc * 10 + d) := by
      intro d acc hd ha hm
      have e : (UInt8.ofNat (48 + d)).toNat = 48 + d := by rw [UInt8.toNat_ofNat']; omega
      rw [Lib.parseUintM, e, if_pos (by omega), if_neg (by omega), show 48 + d - 48 = d by omega, if_neg (by omega), Lib.parseUintM]
    by_cases h10 : n < 10
    · rw [Lib.decDigits_one h10, one n 0 (by omega) (by omega) (by omega)]
      simp
    · have e : n = (n / 10) * 10 + n % 10 := by omega
      have hs := dd_snoc (m := n / 10) (d := n % 10) (by omega) (by omega)
      rw [← e] at hs
      rw [hs, pu_snoc, ih (n / 10) (by omega) (by omega)]
      dsimp only
      rw [one (n % 10) (n / 10) (by omega) (by omega) (by omega), ← e]
theorem pi_dd {n : Nat} (h : n < 9223372036854775808) : Lib.parseIntB 64 (Lib.decDigits n) = .ok (n : Int) := by
  obtain ⟨d, ds, h1, -, -, h4⟩ := dd_head n
  have e : (UInt8.ofNat (48 + d)).toNat = 48 + d := by rw [UInt8.toNat_ofNat']; omega
  have hu : Lib.parseUintB 64 (Lib.decDigits n) = .ok n := by
    unfold Lib.parseUintB
    rw [if_neg (by rw [h4]; simp), pu_dd _ (by decide) n (by omega)]
  rw [h4] at hu ⊢
  unfold Lib.parseIntB
  dsimp only
  rw [if_neg (show ¬ ((UInt8.ofNat (48 + d)).toNat = 43 ∨ (UInt8.ofNat (48 + d)).toNat = 45) by omega), hu]
  dsimp only
  rw [if_neg (by intro h; omega), if_neg (by intro h; omega), if_neg (by omega)]
theorem pi_neg {n : Nat} (h : n ≤ 9223372036854775808) : Lib.parseIntB 64 (45 :: Lib.decDigits n) = .ok (-(n : Int)) := by
  obtain ⟨d, ds, h1, -, -, h4⟩ := dd_head n
  have hu : Lib.parseUintB 64 (Lib.decDigits n) = .ok n := by
    unfold Lib.parseUintB
    rw [if_neg (by rw [h4]; simp), pu_dd _ (by decide) n (by omega)]
  unfold Lib.parseIntB
  dsimp only
  rw [if_pos (show (45 : UInt8).toNat = 43 ∨ (45 : UInt8).toNat = 45 from .inr rfl), hu]
  dsimp only
  rw [if_neg (by intro h; exact h.1 rfl), if_neg (by intro h; omega), if_pos (show (45 : UInt8).toNat = 45 from rfl)]
/-- A number's text is read as that number. -/
theorem intD_itoa {n : Int} (h : Rn n) : intD (Lib.itoa n) = some n := by
  obtain ⟨h1, h2⟩ := h
  by_cases hn : n < 0
  · obtain ⟨u, rfl⟩ : ∃ u : Nat, n = -(u : Int) := ⟨n.natAbs, by omega⟩
    obtain ⟨d, ds, d1, d2, -, d4⟩ := dd_head u
    have hd := d2 (by omega)
    rw [Lib.itoa_neg u (by omega)]
    unfold intD
    rw [if_neg, pi_neg (by omega)]
    rintro ⟨a, -⟩
    rw [if_pos (by rfl), List.tail_cons, d4, List.head?_cons] at a
    injection a with a
    have := congrArg UInt8.toNat a
    rw [UInt8.toNat_ofNat'] at this
    have e : (48 : UInt8).toNat = 48 := rfl
    omega
  · obtain ⟨u, rfl⟩ : ∃ u : Nat, n = u := ⟨n.toNat, by omega⟩
    obtain ⟨d, ds, d1, d2, d3, d4⟩ := dd_head u
    rw [Lib.itoa_nonneg]
    unfold intD
    rw [if_neg, pi_dd (by omega)]
    rintro ⟨a, b⟩
    have e48 : (48 : UInt8).toNat = 48 := rfl
    have e45 : (45 : UInt8).toNat = 45 := rfl
    have ed : (UInt8.ofNat (48 + d)).toNat = 48 + d := by rw [UInt8.toNat_ofNat']; omega
    rw [d4] at a b
    rw [if_neg, List.head?_cons] at a
    · injection a with a
      have := congrArg UInt8.toNat a
      have hd0 : d = 0 := by omega
      by_cases h0 : u = 0
      · rw [d3 h0, a] at b
        exact b rfl
      · have := d2 (by omega)
        omega
    · rw [List.head?_cons]
      intro a2
      injection a2 with a2
      have := congrArg UInt8.toNat a2
      omega

/-- The tokens of a text from a line on. -/
def lex (l : Bs) (n : Nat) : List Tk := toksF (l.length + 1) l n
theorem skipB_len : ∀ (l : Bs) (c : Bool) (n : Nat), (skipB c l n).1.length ≤ l.length
  | [], c, n => by simp [skipB]
  | x :: r, c, n => by
    rw [skipB]
    split
    · have := skipB_len r false (n + 1); simp; omega
    · split
      · have := skipB_len r c n; simp; omega
      · split
        · have := skipB_len r true n; simp; omega
        · exact Nat.le_refl _
theorem dropWhile_len (p : UInt8 → Bool) : ∀ r : Bs, (r.dropWhile p).length ≤ r.length
  | [] => by simp
  | x :: r => by
    rw [List.dropWhile_cons]
    split
    · have := dropWhile_len p r; simp; omega
    · exact Nat.le_refl _
theorem tok1_len (l : Bs) (n : Nat) (h : (tok1 l n).1.k ≠ 0) : (tok1 l n).2.1.length < l.length := by
  have hs := skipB_len l false n
  unfold tok1 at h ⊢
  split
  · rename_i m he
    rw [he] at h
    exact absurd rfl h
  · rename_i c r m he
    rw [he] at hs
    simp at hs
    have h1 := dropWhile_len isAn r
    have h2 := dropWhile_len isDi r
    unfold tokD
    dsimp only
    repeat' split
    all_goals (dsimp only; omega)
theorem toksF_fuel : ∀ (f g : Nat) (l : Bs) (n : Nat), l.length < f → l.length < g → toksF f l n = toksF g l n
  | 0, _, _, _, h, _ => by omega
  | _ + 1, 0, _, _, _, h => by omega
  | f + 1, g + 1, l, n, hf, hg => by
    rw [toksF, toksF]
    split
    · rfl
    · rename_i h
      have := tok1_len l n h
      rw [toksF_fuel f g _ _ (by omega) (by omega)]
theorem lex_eq (l : Bs) (n : Nat) : lex l n = if (tok1 l n).1.k = 0 then [(tok1 l n).1] else (tok1 l n).1 :: lex (tok1 l n).2.1 (tok1 l n).2.2 := by
  unfold lex
  rw [toksF]
  split
  · rfl
  · rename_i h
    have := tok1_len l n h
    rw [toksF_fuel l.length _ _ _ (by omega) (Nat.lt_succ_self _)]
theorem lex_nil (n : Nat) : lex [] n = [⟨0, [], n⟩] := by rw [lex_eq]; rfl
theorem lex_skip {l l' : Bs} {n n' : Nat} (h : skipB false l n = skipB false l' n') : lex l n = lex l' n' := by
  have : tok1 l n = tok1 l' n' := by unfold tok1; rw [h]
  rw [lex_eq, this, ← lex_eq]
theorem lex_sp (l : Bs) (n : Nat) : lex (32 :: l) n = lex l n := lex_skip (by rw [skipB, if_neg (by decide), if_pos (by decide)])
theorem lex_nl (l : Bs) (n : Nat) : lex (10 :: l) n = lex l (n + 1) := lex_skip (by rw [skipB, if_pos (by decide)])
/-- A byte at which a token begins. -/
def begs (c : UInt8) : Prop := c.toNat ≠ 10 ∧ c.toNat ≠ 32 ∧ c.toNat ≠ 9 ∧ c.toNat ≠ 35
theorem lex_tok {c : UInt8} (hb : begs c) (r : Bs) (n : Nat) (hk : (tokD c r n).1.k ≠ 0) : lex (c :: r) n = (tokD c r n).1 :: lex (tokD c r n).2 n := by
  obtain ⟨h1, h2, h3, h4⟩ := hb
  have : tok1 (c :: r) n = ((tokD c r n).1, (tokD c r n).2, n) := by
    unfold tok1
    rw [skipB, if_neg h1, if_neg (by simp [h2, h3]), if_neg h4]
  rw [lex_eq, this, if_neg hk]
theorem lex_mark {c : UInt8} (hc : c = 40 ∨ c = 41 ∨ c = 44 ∨ c = 61) (r : Bs) (n : Nat) : lex (c :: r) n = ⟨4, [c], n⟩ :: lex r n := by
  have ht : tokD c r n = (⟨4, [c], n⟩, r) := by
    unfold tokD
    rcases hc with rfl | rfl | rfl | rfl
    all_goals
      rw [if_neg (by decide), if_neg (by rintro (h | h); exact absurd h (by decide); exact absurd h.1 (by decide)), if_pos (by decide)]
  rw [lex_tok (by unfold begs; rcases hc with rfl | rfl | rfl | rfl <;> decide) r n (by rw [ht]; simp), ht]
/-- Does no name and no number go on here? -/
def sepS (l : Bs) : Prop := ∀ c, l.head? = some c → isAn c = false
theorem span_all (p : UInt8 → Bool) : ∀ (u l : Bs), u.all p = true → (∀ c, l.head? = some c → p c = false) → (u ++ l).takeWhile p = u ∧ (u ++ l).dropWhile p = l
  | [], l, _, h => by
    cases l with
    | nil => simp
    | cons c r => have := h c rfl; simp [this]
  | x :: u, l, hu, h => by
    simp only [List.all_cons, Bool.and_eq_true] at hu
    obtain ⟨h1, h2⟩ := span_all p u l hu.2 h
    simp [hu.1, h1, h2]
theorem lex_word {c : UInt8} {u l : Bs} {n : Nat} (hc : isLt c = true) (hu : u.all isAn = true) (hlen : u.length ≤ 15) (hl : sepS l) : lex (c :: (u ++ l)) n = ⟨2, c :: u, n⟩ :: lex l n := by
  obtain ⟨h1, h2⟩ := span_all isAn u l hu hl
  have ht : tokD c (u ++ l) n = (⟨2, c :: u, n⟩, l) := by
    unfold tokD
    rw [if_pos hc, h1, h2, if_pos (by simp; omega)]
  have hb : begs c := by unfold isLt at hc; simp at hc; unfold begs; omega
  rw [lex_tok hb _ n (by rw [ht]; simp), ht]
theorem dd_all (n : Nat) : (Lib.decDigits n).all isDi = true := by
  rw [List.all_eq_true]
  intro c hc
  have := dd_digits n c hc
  unfold isDi
  simpa using this
theorem an_di {c : UInt8} (h : isAn c = false) : isDi c = false := by
  unfold isAn at h
  simp at h
  exact h.2
theorem lex_num {v : Int} {l : Bs} {n : Nat} (hv : Rn v) (hl : sepS l) : lex (Lib.itoa v ++ l) n = ⟨3, Lib.itoa v, n⟩ :: lex l n := by
  have hi := intD_itoa hv
  obtain ⟨v1, v2⟩ := hv
  have hl2 : ∀ c, l.head? = some c → isDi c = false := fun c hc => an_di (hl c hc)
  by_cases hn : v < 0
  · obtain ⟨u, rfl⟩ : ∃ u : Nat, v = -(u : Int) := ⟨v.natAbs, by omega⟩
    rw [Lib.itoa_neg u (by omega)] at hi ⊢
    obtain ⟨h1, h2⟩ := span_all isDi (Lib.decDigits u) l (dd_all u) hl2
    obtain ⟨d, ds, d1, d2, d3, d4⟩ := dd_head u
    have hd : ((Lib.decDigits u ++ l).head?.map isDi) = some true := by
      have := dd_all u
      rw [d4] at this ⊢
      simp at this ⊢
      exact this.1
    have ht : tokD 45 (Lib.decDigits u ++ l) n = (⟨3, 45 :: Lib.decDigits u, n⟩, l) := by
      unfold tokD
      rw [if_neg (by decide), if_pos (.inr ⟨rfl, hd⟩), h1, h2, hi]
      rfl
    rw [List.cons_append, lex_tok (by unfold begs; decide) _ n (by rw [ht]; simp), ht]
  · obtain ⟨u, rfl⟩ : ∃ u : Nat, v = u := ⟨v.toNat, by omega⟩
    rw [Lib.itoa_nonneg] at hi ⊢
    obtain ⟨d, ds, d1, d2, d3, d4⟩ := dd_head u
    have ha := dd_all u
    rw [d4] at ha hi ⊢
    simp only [List.all_cons, Bool.and_eq_true] at ha
    obtain ⟨h1, h2⟩ := span_all isDi ds l ha.2 hl2
    have hx := ha.1
    generalize UInt8.ofNat (48 + d) = x at *
    have hx2 : 48 ≤ x.toNat ∧ x.toNat ≤ 57 := by unfold isDi at hx; simpa using hx
    have ht : tokD x (ds ++ l) n = (⟨3, x :: ds, n⟩, l) := by
      unfold tokD
      rw [if_neg (by unfold isLt; simp; omega), if_pos (.inl hx), h1, h2, hi]
      rfl
    rw [List.cons_append, lex_tok (by unfold begs; omega) _ n (by rw [ht]; simp), ht]
/-- A letter and a number. -/
theorem lex_called {c : UInt8} {v : Nat} {l : Bs} {n : Nat} (hc : isLt c = true) (hv : v < 100) (hl : sepS l) : lex (c :: (Lib.itoa (v : Int) ++ l)) n = ⟨2, c :: Lib.itoa (v : Int), n⟩ :: lex l n := by
  rw [Lib.itoa_nonneg]
  refine lex_word hc ?_ ?_ hl
  · have := dd_all v
    rw [List.all_eq_true] at this ⊢
    intro x hx
    unfold isAn
    rw [this x hx, Bool.or_true]
  · by_cases h : v < 10
    · rw [Lib.decDigits_one h]; simp
    · rw [Lib.decDigits_two h hv]; simp
end Go.Proofs.YtjendlnicbieoaaGreatDoor
