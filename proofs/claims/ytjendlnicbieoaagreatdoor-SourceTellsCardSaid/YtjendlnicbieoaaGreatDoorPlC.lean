/-
  A program's text is read as that program, in order: its functions, the functions that they name. Plain, no walk.
-/
import Derived.Test.YtjendlnicbieoaaGreatDoorPlB
namespace Go.Proofs.YtjendlnicbieoaaGreatDoor

/-- The nodes of a forest, read from a list that holds them at their numbers. -/
def rel (a : Nat) : Fo → Fo
  | .nil => .nil
  | .cons _ op n k r => .cons a op n (rel (a + 1) k) (rel (a + 1 + sizeF k) r)
theorem rel_size : ∀ (t : Fo) (a : Nat), sizeF (rel a t) = sizeF t
  | .nil, _ => rfl
  | .cons _ _ _ k r, a => by rw [rel, sizeF, sizeF, rel_size k, rel_size r]
theorem rel_roots : ∀ (t : Fo) (a : Nat), roots a (rel a t) = roots a t
  | .nil, _ => rfl
  | .cons _ _ _ k r, a => by rw [rel, roots, roots, rel_size, rel_roots r]
theorem rel_flat : ∀ (t : Fo) (a : Nat), flat a (rel a t) = flat a t
  | .nil, _ => rfl
  | .cons _ op n k r, a => by rw [rel, flat, flat, rel_roots, rel_flat k, rel_size, rel_flat r]
theorem flat_rd : ∀ (t : Fo) (a : Nat) (ns : List Nd), (∀ (i : Nat) (x : Nd), (flat a t)[i]? = some x → ns[a + i]? = some x) → RdF ns (roots a t) (rel a t)
  | .nil, _, _, _ => .nil
  | .cons c op n k r, a, ns, h => by
    rw [roots, rel]
    refine RdF.cons (x := ⟨op, n, roots (a + 1) k⟩) (by simpa [flat] using h 0 _ rfl) (flat_rd k (a + 1) ns fun i x hx => ?_) (flat_rd r (a + 1 + sizeF k) ns fun i x hx => ?_)
    · have hl := (List.getElem?_eq_some_iff.1 hx).1
      have := h (i + 1) x (by rw [flat, List.getElem?_cons_succ, List.getElem?_append_left hl]; exact hx)
      rwa [show a + 1 + i = a + (i + 1) by omega]
    · have := h (1 + sizeF k + i) x (by
        rw [show 1 + sizeF k + i = (sizeF k + i) + 1 by omega, flat, List.getElem?_cons_succ, List.getElem?_append_right (by rw [flat_length]; omega), flat_length, show sizeF k + i - sizeF k = i by omega]
        exact hx)
      rwa [show a + 1 + sizeF k + i = a + (1 + sizeF k + i) by omega]
theorem rel_cnt : ∀ (t : Fo) (a : Nat), cntF (rel a t) = cntF t
  | .nil, _ => rfl
  | .cons _ _ _ k r, a => by rw [rel, cntF, cntF, rel_cnt r]
theorem roots_one {t : Fo} (h : cntF t = 1) (a : Nat) : roots a t = [(a : Int)] := by
  obtain ⟨c1, o1, n1, k1, rfl⟩ := fo_one h
  simp [roots]
theorem flat_own {t : Fo} (h : cntF t = 1) : RdF (flat 0 t) [0] (rel 0 t) := by
  have := flat_rd t 0 (flat 0 t) fun i x hx => by rwa [Nat.zero_add]
  rwa [roots_one h] at this
/-- The trees of a program's functions. -/
inductive Trs : List Fn → List (Int × Fo) → Prop
  | nil : Trs [] []
  | cons {f : Fn} {t : Fo} {p : List Fn} {ts : List (Int × Fo)} : RdF f.ns [0] t → Trs p ts → Trs (f :: p) ((f.ps, t) :: ts)
def nrm (ts : List (Int × Fo)) : List Fn := ts.map fun x => ⟨x.1, flat 0 x.2⟩
theorem Trs.len {p ts} (h : Trs p ts) : ts.length = p.length := by
  induction h with
  | nil => rfl
  | cons _ _ ih => simp [ih]
theorem Trs.at_ {p ts} (h : Trs p ts) : ∀ (i : Nat) (f : Fn), p[i]? = some f → ∃ t, ts[i]? = some (f.ps, t) ∧ RdF f.ns [0] t := by
  induction h with
  | nil => intro i f h; simp at h
  | @cons f t p ts hr _ ih =>
    intro i g hg
    cases i with
    | zero =>
      obtain rfl : f = g := by simpa using hg
      exact ⟨t, rfl, hr⟩
    | succ i => exact ih i g (by simpa using hg)
theorem trs_all : ∀ (p : List Fn), (∀ f ∈ p, ∃ t, RdF f.ns [0] t) → ∃ ts, Trs p ts
  | [], _ => ⟨[], .nil⟩
  | f :: p, h => by
    obtain ⟨t, ht⟩ := h f (List.mem_cons_self ..)
    obtain ⟨ts, hts⟩ := trs_all p fun g hg => h g (List.mem_cons_of_mem _ hg)
    exact ⟨_, .cons ht hts⟩
/-- Of each node: its Op, its number, how many stand beneath it. -/
def eachF (Q : Int → Int → Nat → Prop) : Fo → Prop
  | .nil => True
  | .cons _ op n k r => Q op n (cntF k) ∧ eachF Q k ∧ eachF Q r
theorem RdF.each {ns : List Nd} {l : List Int} {t : Fo} (h : RdF ns l t) {Q : Int → Int → Nat → Prop} (hQ : ∀ x ∈ ns, Q x.op x.n x.l.length) : eachF Q t := by
  induction h with
  | nil => trivial
  | cons hx hk _ ih1 ih2 => exact ⟨by rw [← hk.cnt]; exact hQ _ (List.mem_of_getElem? hx), ih1, ih2⟩
theorem flat_each {Q : Int → Int → Nat → Prop} : ∀ {t : Fo} (a : Nat), eachF Q t → ∀ x ∈ flat a t, Q x.op x.n x.l.length
  | .nil, _, _, x, hx => by simp [flat] at hx
  | .cons c op n k r, a, h, x, hx => by
    obtain ⟨h1, h2, h3⟩ := h
    rw [flat, List.mem_cons, List.mem_append] at hx
    rcases hx with rfl | hx | hx
    · simpa [roots_cnt] using h1
    · exact flat_each (a + 1) h2 x hx
    · exact flat_each _ h3 x hx

/-- Children that stand at no place yet are given places. -/
theorem kidsP_all (n i : Nat) (d : Int) (lt : Bool) : ∀ (l : List Int) (k : Nat) (p : Pl), p.length = n → l.Nodup → (∀ c ∈ l, (i : Int) < c ∧ c < n ∧ (pl p c.toNat).1 < 0) → ∃ q, kidsP n i d lt k l p = some q
  | [], _, p, _, _, _ => ⟨p, rfl⟩
  | c :: r, k, p, hp, hn, h => by
    obtain ⟨h1, h2, h3⟩ := h c (List.mem_cons_self ..)
    rw [kidsP, if_neg (by omega)]
    obtain ⟨hc, hr⟩ := List.nodup_cons.1 hn
    refine kidsP_all n i d lt r (k + 1) _ (by simpa using hp) hr fun e he => ?_
    obtain ⟨e1, e2, e3⟩ := h e (List.mem_cons_of_mem _ he)
    refine ⟨e1, e2, ?_⟩
    have hne : ¬ c.toNat = e.toNat := by
      intro x
      apply hc
      have : c = e := by omega
      rw [this]
      exact he
    rw [pl_set _ _ _ _ (by omega), if_neg hne]
    exact e3
theorem roots_mem : ∀ (t : Fo) (a : Nat), ∀ c ∈ roots a t, (a : Int) ≤ c ∧ c < ((a + sizeF t : Nat) : Int)
  | .nil, _, c, h => by simp [roots] at h
  | .cons _ op n k r, a, c, h => by
    rw [roots, List.mem_cons] at h
    rw [sizeF]
    rcases h with rfl | h
    · omega
    · have := roots_mem r (a + 1 + sizeF k) c h
      omega
theorem roots_nodup : ∀ (t : Fo) (a : Nat), (roots a t).Nodup
  | .nil, _ => List.nodup_nil
  | .cons _ op n k r, a => by
    rw [roots, List.nodup_cons]
    refine ⟨fun h => ?_, roots_nodup r _⟩
    have := roots_mem r _ _ h
    omega
/-- A forest's nodes in order pass the look at a function. -/
theorem nodesP_flat (n : Nat) : ∀ (t : Fo) (a : Nat) (lt : Bool) (k : Nat) (d : Int) (p : Pl) (rest : List Nd), wfF lt k d t → p.length = n → a + sizeF t ≤ n →
    (∀ (m : Nat) (c : Int), (roots a t)[m]? = some c → (0 < c → 0 ≤ (pl p c.toNat).1) ∧ (pl p c.toNat).2 = depK lt (k + m) d) →
    (∀ j, a ≤ j → j < a + sizeF t → (j : Int) ∉ roots a t → (pl p j).1 < 0) →
    ∃ p', p'.length = n ∧ nodesP n a (flat a t ++ rest) p = nodesP n (a + sizeF t) rest p' ∧ ∀ j, j < a ∨ a + sizeF t ≤ j → pl p' j = pl p j
  | .nil, a, lt, k, d, p, rest, _, hp, _, _, _ => ⟨p, hp, rfl, fun _ _ => rfl⟩
  | .cons c0 op nn kf r, a, lt, k, d, p, rest, hw, hp, hs, hroot, hin => by
    obtain ⟨⟨w1, w2, w3, w4, w5⟩, w6⟩ := hw
    rw [sizeF] at hs hin
    have h0 := hroot 0 (a : Int) (by simp [roots])
    simp only [Int.toNat_natCast, Nat.add_zero] at h0
    have hnb : ¬ badN a ⟨op, nn, roots (a + 1) kf⟩ p := by
      unfold badN
      dsimp only
      rw [h0.2, roots_cnt, w1, w2]
      have := h0.1
      simp
      omega
    obtain ⟨q, hq⟩ := kidsP_all n a (pl p a).2 (op == 4) (roots (a + 1) kf) 0 p hp (roots_nodup _ _) fun c hc => by
      have hm := roots_mem _ _ c hc
      refine ⟨by omega, by omega, hin _ (by omega) (by omega) fun h => ?_⟩
      rw [roots, List.mem_cons] at h
      rcases h with h | h
      · omega
      · have := roots_mem r _ _ h; omega
    obtain ⟨q1, q2, q3, q4, q5⟩ := kidsP_spec _ _ _ _ _ _ _ _ hq hp
    have hne : ∀ j : Nat, (j : Int) ∉ roots (a + 1) kf → pl q j = pl p j := q5
    obtain ⟨p1, e1, e2, e3⟩ := nodesP_flat n kf (a + 1) (op == 4) 0 (depK lt k d) q (flat (a + 1 + sizeF kf) r ++ rest) w5 q1 (by omega) (fun m c hc => by
      have := q4 m c hc
      rw [this, h0.2]
      refine ⟨fun _ => by simp, by simp [depK]⟩) (fun j j1 j2 j3 => by
      rw [hne j j3]
      refine hin j (by omega) (by omega) fun h => ?_
      rw [roots, List.mem_cons] at h
      rcases h with h | h
      · omega
      · have := roots_mem r _ _ h; omega)
    have hkeep : ∀ j, j < a + 1 ∨ a + 1 + sizeF kf ≤ j → pl p1 j = pl p j := fun j hj => by
      rw [e3 j hj]
      exact hne j fun h => by have := roots_mem kf _ _ h; omega
    obtain ⟨p2, g1, g2, g3⟩ := nodesP_flat n r (a + 1 + sizeF kf) lt (k + 1) d p1 rest w6 e1 (by omega) (fun m c hc => by
      have hm := roots_mem r _ c (List.mem_of_getElem? hc)
      have := hroot (m + 1) c (by simpa [roots] using hc)
      rw [hkeep _ (by omega), show k + 1 + m = k + (m + 1) by omega]
      exact this) (fun j j1 j2 j3 => by
      rw [hkeep j (by omega)]
      refine hin j (by omega) (by omega) fun h => ?_
      rw [roots, List.mem_cons] at h
      rcases h with h | h
      · omega
      · exact j3 h)
    refine ⟨p2, g1, ?_, fun j hj => ?_⟩
    · rw [flat, List.cons_append, nodesP]
      unfold nodeP
      rw [if_neg hnb]
      dsimp only
      rw [hq]
      dsimp only
      rw [List.append_assoc, e2, g2, sizeF, show a + 1 + sizeF kf + sizeF r = a + (1 + sizeF kf + sizeF r) by omega]
    · rw [sizeF] at hj
      rw [g3 j (by omega), hkeep j (by omega)]
theorem okF_flat {t : Fo} {ps : Int} (h0 : 0 ≤ ps) (h9 : ps ≤ 9) (hc : cntF t = 1) (hs : sizeF t ≤ 200) (hw : wfF false 0 ps t) : okF ⟨ps, flat 0 t⟩ = true := by
  have h1 := cnt_size t
  unfold okF
  dsimp only
  rw [Bool.and_eq_true, decide_eq_true_eq, flat_length]
  refine ⟨⟨h0, h9, by omega, hs⟩, ?_⟩
  have hpl : ∀ j, pl (startP (sizeF t) ps) j = if 0 = j then (-1, ps) else pl (List.replicate (sizeF t) (-1, 0)) j := fun j => pl_set _ 0 j _ (by simp; omega)
  obtain ⟨p', p1, p2, p3⟩ := nodesP_flat (sizeF t) t 0 false 0 ps (startP (sizeF t) ps) [] hw (by simp [startP]) (by omega) (fun m c hm => by
    rw [roots_one hc] at hm
    have hc0 : c = 0 ∧ m = 0 := by
      cases m with
      | zero => simp at hm; omega
      | succ m => simp at hm
    obtain ⟨rfl, rfl⟩ := hc0
    rw [hpl]
    simp [depK]) (fun j _ j2 j3 => by
    rw [roots_one hc] at j3
    have : ¬ 0 = j := by rintro rfl; simp at j3
    rw [hpl, if_neg this]
    unfold pl
    rw [Nat.zero_add] at j2
    simp [List.getD_eq_getElem?_getD, j2])
  rw [List.append_nil] at p2
  rw [p2, nodesP]
  rfl
end Go.Proofs.YtjendlnicbieoaaGreatDoor
/-
  A program's text is read as that program, in order: the tokens of its functions, the numbers of the functions that are named. Plain, no walk.
-/
namespace Go.Proofs.YtjendlnicbieoaaGreatDoor

theorem mod_app {α : Type} (f : α → α) : ∀ (A B : List α) (j : Nat), (A ++ B).modify j f = if j < A.length then A.modify j f ++ B else A ++ B.modify (j - A.length) f
  | [], B, j => by simp
  | x :: A, B, 0 => by simp
  | x :: A, B, j + 1 => by
    have := mod_app f A B j
    simp only [List.cons_append, List.modify_succ_cons, List.length_cons, Nat.add_lt_add_iff_right, Nat.add_sub_add_right, this]
    split <;> rfl
theorem mod_set {α : Type} {l : List α} {i : Nat} {x : α} (f : α → α) (h : l[i]? = some x) : l.modify i f = l.set i (f x) := by
  apply List.ext_getElem?
  intro j
  have hl := (List.getElem?_eq_some_iff.1 h).1
  rw [List.getElem?_modify, List.getElem?_set]
  by_cases e : i = j
  · subst e
    have := (List.getElem?_eq_some_iff.1 h).2
    simp [hl, this]
  · simp [e]
/-- A node's number is set. -/
def setF (v : Int) : Nat → Fo → Fo
  | _, .nil => .nil
  | 0, .cons c op _ k r => .cons c op v k r
  | j + 1, .cons c op n k r => if j < sizeF k then .cons c op n (setF v j k) r else .cons c op n k (setF v (j - sizeF k) r)
theorem setF_size (v : Int) : ∀ (j : Nat) (t : Fo), sizeF (setF v j t) = sizeF t ∧ cntF (setF v j t) = cntF t
  | 0, .nil => by simp [setF]
  | _ + 1, .nil => by simp [setF]
  | 0, .cons c op n k r => ⟨rfl, rfl⟩
  | j + 1, .cons c op n k r => by
    rw [setF]
    split
    · exact ⟨by rw [sizeF, sizeF, (setF_size v j k).1], rfl⟩
    · exact ⟨by rw [sizeF, sizeF, (setF_size v (j - sizeF k) r).1], by rw [cntF, cntF, (setF_size v (j - sizeF k) r).2]⟩
theorem setF_roots (v : Int) : ∀ (j : Nat) (t : Fo) (a : Nat), roots a (setF v j t) = roots a t
  | 0, .nil, _ => by simp [setF]
  | _ + 1, .nil, _ => by simp [setF]
  | 0, .cons c op n k r, _ => rfl
  | j + 1, .cons c op n k r, a => by
    rw [setF]
    split
    · rw [roots, roots, (setF_size v j k).1]
    · rw [roots, roots, setF_roots v (j - sizeF k) r]
theorem setF_flat (v : Int) : ∀ (j : Nat) (t : Fo) (a : Nat), (flat a t).modify j (fun x => { x with n := v }) = flat a (setF v j t)
  | 0, .nil, _ => by simp [setF, flat]
  | _ + 1, .nil, _ => by simp [setF, flat]
  | 0, .cons c op n k r, a => by simp [setF, flat]
  | j + 1, .cons c op n k r, a => by
    rw [setF, flat, List.modify_succ_cons, mod_app, flat_length]
    split
    · rw [flat, setF_roots, setF_flat v j k, (setF_size v j k).1]
    · rw [flat, setF_flat v (j - sizeF k) r]
theorem ren_roots : ∀ (t : Fo) (a : Nat), roots a (ren a t) = roots a t
  | .nil, _ => rfl
  | .cons _ _ _ k r, a => by rw [ren, roots, roots, ren_size, ren_roots r]
theorem idx_none {s : Bs} : ∀ {l : List Bs}, s ∉ l → l.idxOf? s = none := by
  intro l h
  exact List.idxOf?_eq_none_iff.2 h
theorem idx_at {s : Bs} : ∀ {l : List Bs} {i : Nat}, l.Nodup → l[i]? = some s → l.idxOf? s = some i
  | [], i, _, h => by simp at h
  | v :: r, 0, hn, h => by
    obtain rfl : v = s := by simpa using h
    simp [List.idxOf?_cons]
  | v :: r, i + 1, hn, h => by
    have h := List.getElem?_cons_succ (a := v) ▸ h
    have hv : v ≠ s := by
      rintro rfl
      exact (List.nodup_cons.1 hn).1 (List.mem_of_getElem? h)
    rw [List.idxOf?_cons, idx_at (List.nodup_cons.1 hn).2 h]
    simp [hv]
/-- The functions that a forest names are resolved. -/
theorem res_uses {m fi ln : Nat} (hm : m ≤ 1000) {ps : Int} {us : List Us} : ∀ (t : Fo) (a : Nat) (pre post : List Nd) (fs : List Fn), pre.length = a → fs[fi]? = some ⟨ps, pre ++ (flat a (ren a t) ++ post)⟩ →
    eachF (fun op n _ => namesOp op = true → 0 ≤ n ∧ n < m) t → resol (namesT 102 m) (usesF fi ln a t ++ us) fs = resol (namesT 102 m) us (fs.set fi ⟨ps, pre ++ (flat a t ++ post)⟩)
  | .nil, a, pre, post, fs, _, hf, _ => by
    rw [usesF, List.nil_append]
    congr 1
    apply List.ext_getElem?
    intro j
    rw [List.getElem?_set]
    by_cases e : fi = j
    · subst e
      have hl := (List.getElem?_eq_some_iff.1 hf).1
      simp only [if_true, hl]
      exact hf
    · simp [e]
  | .cons c op n k r, a, pre, post, fs, hp, hf, he => by
    obtain ⟨he1, he2, he3⟩ := he
    have hl := (List.getElem?_eq_some_iff.1 hf).1
    rw [usesF, ren, flat] at *
    have hstep : resol (namesT 102 m) (((if namesOp op = true then [(⟨fi, a, ln, 102 :: Lib.itoa n⟩ : Us)] else []) ++ (usesF fi ln (a + 1) k ++ usesF fi ln (a + 1 + sizeF k) r)) ++ us) fs =
        resol (namesT 102 m) (usesF fi ln (a + 1) k ++ (usesF fi ln (a + 1 + sizeF k) r ++ us)) (fs.set fi ⟨ps, pre ++ (({ op := op, n := n, l := roots (a + 1) k } :: (flat (a + 1) (ren (a + 1) k) ++ flat (a + 1 + sizeF k) (ren (a + 1 + sizeF k) r))) ++ post)⟩) := by
      rw [ren_roots, ren_size] at hf
      cases hk : namesOp op with
      | true =>
        obtain ⟨n0, n1⟩ := he1 hk
        obtain ⟨u, rfl⟩ := Int.eq_ofNat_of_zero_le n0
        simp only [if_true, List.cons_append, List.nil_append, List.append_assoc]
        rw [resol]
        dsimp only
        rw [idx_at (names_nodup hm) (names_at (i := u) (by simpa using n1))]
        dsimp only
        unfold setN
        rw [mod_set _ hf]
        dsimp only
        rw [mod_app, if_neg (by omega), hp, Nat.sub_self]
        simp
      | false =>
        simp only [Bool.false_eq_true, if_false, List.nil_append, List.append_assoc]
        congr 1
        have hr : renN op n = n := by simp [renN, hk]
        rw [hr] at hf
        apply List.ext_getElem?
        intro j
        rw [List.getElem?_set]
        by_cases e : fi = j
        · subst e
          simp only [if_true, hl]
          simpa using hf
        · simp [e]
    rw [hstep, res_uses (ps := ps) hm k (a + 1) (pre ++ [{ op := op, n := n, l := roots (a + 1) k }]) (flat (a + 1 + sizeF k) (ren (a + 1 + sizeF k) r) ++ post) _ (by simp [hp]) (by simp [hl]) he2,
      res_uses (ps := ps) hm r (a + 1 + sizeF k) (pre ++ ({ op := op, n := n, l := roots (a + 1) k } :: flat (a + 1) k)) post _ (by simp [hp, flat_length]; omega) (by simp [hl]) he3]
    congr 1
    rw [List.set_set, List.set_set]
    simp

/-- The tokens of a function. -/
def parK (ln m : Nat) (c : Bool) (j : Nat) : List Tk := joinK ln c ((List.range' j m).map fun (k : Nat) => [tw (118 :: Lib.itoa (k : Int)) ln])
def tkFn (i : Nat) (m : Nat) (t : Fo) (ln : Nat) : List Tk := tw wFun ln :: tw (102 :: Lib.itoa (i : Int)) ln :: tm 40 ln :: (parK ln m false 0 ++ tm 41 ln :: tm 61 ln :: (tkF t m ln).getD 0 [])
theorem lex_pars {ln : Nat} {l : Bs} : ∀ (m j : Nat) (c : Bool), j + m ≤ 100 → lex (joinC c ((List.range' j m).map fun (k : Nat) => 118 :: Lib.itoa (k : Int)) ++ 41 :: l) ln = parK ln m c j ++ lex (41 :: l) ln
  | 0, j, c, _ => by simp [parK, joinC, joinK]
  | m + 1, j, c, h => by
    have e := lex_pars (ln := ln) (l := l) m (j + 1) true (by omega)
    have hs : sepS (joinC true ((List.range' (j + 1) m).map fun (k : Nat) => 118 :: Lib.itoa (k : Int)) ++ 41 :: l) := by
      cases m with
      | zero => exact sep_of (by decide)
      | succ m => rw [List.range'_succ]; exact sep_of (by decide)
    unfold parK at e ⊢
    rw [List.range'_succ, List.map_cons, List.map_cons, joinC, joinK]
    cases c with
    | false =>
      simp only [Bool.false_eq_true, if_false, List.nil_append, List.append_assoc, List.cons_append]
      rw [lex_called (by decide) (by omega) hs, e]
      rfl
    | true =>
      simp only [if_true, List.append_assoc, List.cons_append, List.nil_append]
      rw [lex_mark (by simp), lex_sp, lex_called (by decide) (by omega) hs, e]
      rfl
theorem lex_fn {i m ln : Nat} {t : Fo} {l : Bs} (hi : i < 100) (hm : m ≤ 9) (hc : cntF t = 1) (hw : wfF false 0 (m : Int) t) : lex (txFn i m t ++ l) ln = tkFn i m t ln ++ lex l (ln + 1) := by
  obtain ⟨c1, o1, n1, k1, rfl⟩ := fo_one hc
  have ha := (lx_all (.cons c1 o1 n1 k1 .nil)).1
  have hp := fun r => lex_pars (ln := ln) (l := r) m 0 false (by omega)
  have hb := ha m ln (10 :: l) (by omega) (by simpa [depK, wfN] using hw.1) (sep_of (by decide))
  unfold txFn tkFn
  have hv : varsT (m : Int).toNat = (List.range' 0 m).map fun (k : Nat) => 118 :: Lib.itoa (k : Int) := by
    unfold varsT
    rw [Int.toNat_natCast, List.range_eq_range']
  rw [hv]
  have l1 := fun x => lex_wd (w := wFun) (l := 32 :: x) (ln := ln) ⟨102, [117, 110], rfl, by decide, by decide, by decide⟩ (sep_sp _)
  simp only [txF, tkF, List.getD_cons_zero, List.append_assoc, List.cons_append, List.nil_append, wFun] at hp hb l1 ⊢
  rw [l1, lex_sp, lex_called (by decide) (by omega) (sep_of (by decide)), lex_mark (by simp), hp, lex_mark (by simp), lex_sp, lex_mark (by simp), lex_sp, hb, lex_nl]
  rfl
theorem pPars_all {ln : Nat} {R : List Tk} : ∀ (m j f : Nat), j + (m + 1) ≤ 9 → m + 1 ≤ f → pPars f (namesT 118 j) (parK ln (m + 1) false j ++ tm 41 ln :: R) = .ok (namesT 118 (j + (m + 1)), tm 41 ln :: R)
  | m, j, 0, _, h => by omega
  | m, j, f + 1, hj, hf => by
    have hnot : (namesT 118 j).contains (118 :: Lib.itoa (j : Int)) = false := by
      rw [Bool.eq_false_iff]
      intro h
      have h := List.contains_iff_mem.1 h
      have hn := names_nodup (c := 118) (m := j + 1) (by omega)
      rw [names_succ, List.nodup_append] at hn
      exact hn.2.2 _ h _ (List.mem_singleton.2 rfl) rfl
    rw [pPars]
    unfold parK
    rw [List.range'_succ, List.map_cons, joinK]
    simp only [Bool.false_eq_true, if_false, List.nil_append, List.cons_append]
    rw [if_pos (isN_name (by omega) ..)]
    have hd1 : ∀ T, (hd (tw (118 :: Lib.itoa (j : Int)) ln :: T)).s = 118 :: Lib.itoa (j : Int) := fun _ => rfl
    rw [hd1, hnot]
    cases m with
    | zero =>
      simp only [List.range'_zero, List.map_nil, joinK, List.nil_append]
      rw [need_true (by simp [names_len]; omega), mv_cons (by simp), if_neg (by rw [isM_ne (by decide)]; simp), names_succ]
    | succ m =>
      have ih := pPars_all (ln := ln) (R := R) m (j + 1) f (by omega) (by omega)
      unfold parK at ih
      rw [need_true (by simp [names_len]; omega)]
      have hne : (List.range' (j + 1) (m + 1)).map (fun (k : Nat) => [tw (118 :: Lib.itoa (k : Int)) ln]) ≠ [] := by rw [List.range'_succ]; simp
      rw [joinK_true hne, List.cons_append, mv_cons (by simp), if_pos (isM_tm ..), mv_cons (by simp), ← names_succ, ih, show j + 1 + (m + 1) = j + (m + 1 + 1) by omega]
theorem pPar_all {ln m f : Nat} {R : List Tk} (hm : m ≤ 9) (hf : m ≤ f) (hR : R ≠ []) : pPar f (tm 40 ln :: (parK ln m false 0 ++ tm 41 ln :: R)) = .ok (namesT 118 m, R) := by
  unfold pPar
  rw [need_true (isM_tm ..), mv_cons (by simp)]
  cases m with
  | zero =>
    have : parK ln 0 false 0 = [] := rfl
    rw [this, List.nil_append, if_pos (isM_tm ..), sub_ok]
    dsimp only
    rw [need_true (isM_tm ..), mv_cons hR]
    rfl
  | succ m =>
    have hh : isM 41 (parK ln (m + 1) false 0 ++ tm 41 ln :: R) = false := by
      unfold parK
      rw [List.range'_succ, List.map_cons, joinK]
      exact isM_k (by simp [tw])
    have h0 := pPars_all (ln := ln) (R := R) m 0 f (by omega) hf
    rw [Nat.zero_add] at h0
    have hz : namesT 118 0 = [] := rfl
    rw [hz] at h0
    rw [if_neg (by rw [hh]; simp), h0, sub_ok]
    dsimp only
    rw [need_true (isM_tm ..), mv_cons hR]
theorem pFun_all {g i m ln : Nat} {t : Fo} {R : List Tk} {fns : List (Nat × Fo)} {us : List Us} (hi : i < 64) (hm : m ≤ 9) (hc : cntF t = 1) (hw : wfF false 0 (m : Int) t) (hs : sizeF t ≤ 200) (hg : sizeF t ≤ g) (hgm : m ≤ g) (hfl : fns.length = i)
    (hR : R ≠ []) (h40 : isM 40 R = false) : pFun g ⟨namesT 102 i, fns, us⟩ (tkFn i m t ln ++ R) = .ok (⟨namesT 102 (i + 1), fns ++ [(m, ren 0 t)], us ++ usesF i ln 0 t⟩, R) := by
  obtain ⟨c1, o1, n1, k1, rfl⟩ := fo_one hc
  have hp := (pe_all (.cons c1 o1 n1 k1 .nil)).1
  simp only [sizeF, Nat.add_zero] at hs hg
  have e := hp g i 0 m ln R (by simpa [depK, wfN] using hw.1) hR h40 hg (by omega)
  have hnot : (namesT 102 i).contains (102 :: Lib.itoa (i : Int)) = false := by
    rw [Bool.eq_false_iff]
    intro h
    have h := List.contains_iff_mem.1 h
    have hn := names_nodup (c := 102) (m := i + 1) (by omega)
    rw [names_succ, List.nodup_append] at hn
    exact hn.2.2 _ h _ (List.mem_singleton.2 rfl) rfl
  unfold pFun tkFn
  simp only [List.cons_append, List.append_assoc]
  rw [need_true (by rw [isW_tw]; simp [hfl]; exact hi), mv_cons (by simp), if_pos (isN_name (by omega) ..)]
  have hd1 : ∀ T, (hd (tw (102 :: Lib.itoa (i : Int)) ln :: T)).s = 102 :: Lib.itoa (i : Int) := fun _ => rfl
  rw [hd1, hnot, need_true (by rfl), mv_cons (by simp), pPar_all hm hgm (by simp), sub_ok]
  dsimp only
  have ht := tkN_head o1 n1 (tkF k1 m ln) (tkF k1 (m + 1) ln) m ln
  rw [need_true (isM_tm ..), mv_cons (by obtain ⟨t, u, h1, -⟩ := ht; simp only [tkF, List.getD_cons_zero, h1]; simp)]
  simp only [tkF, List.getD_cons_zero, hfl]
  rw [e, sub_ok, ← names_succ, names_len]
  simp [ren, usesF]
end Go.Proofs.YtjendlnicbieoaaGreatDoor
/-
  A program's text is read as that program, in order (srcP_txP); a program that was read stands in order (srcP_own). Plain, no walk.
-/
namespace Go.Proofs.YtjendlnicbieoaaGreatDoor

/-- What is known of a valid program's trees. -/
structure TrOk (m : Nat) (x : Int × Fo) : Prop where
  p0 : 0 ≤ x.1
  p9 : x.1 ≤ 9
  one : cntF x.2 = 1
  most : sizeF x.2 ≤ 200
  wf : wfF false 0 x.1 x.2
  num : eachF (fun op n _ => namesOp op = true → 0 ≤ n ∧ n < m) x.2
theorem nameOk_num {p : List Fn} {x : Nd} {d : Int} (h : nameOk p x = true) (hn : numOk x.op x.n d = true) (hk : namesOp x.op = true) : 0 ≤ x.n ∧ x.n < p.length := by
  have h0 := num_named hn hk
  unfold nameOk at h
  rw [if_pos hk] at h
  split at h
  · simp at h
    omega
  · cases h
theorem okP_trs {p : List Fn} (h : okP p = true) : ∃ ts, Trs p ts := by
  unfold okP at h
  simp only [Bool.and_eq_true, List.all_eq_true] at h
  exact trs_all p fun f hf => by
    obtain ⟨q, hq⟩ := okF_good (h.1.1.2 f hf)
    exact hq.tree
theorem okP_trOk {p : List Fn} (h : okP p = true) (hn : ∀ f ∈ p, ∀ x ∈ f.ns, Rn x.n) {ts : List (Int × Fo)} (ht : Trs p ts) : ∀ x ∈ ts, TrOk p.length x := by
  unfold okP at h
  simp only [Bool.and_eq_true, List.all_eq_true] at h
  intro x hx
  obtain ⟨i, hi⟩ := List.mem_iff_getElem?.1 hx
  have hil := (List.getElem?_eq_some_iff.1 hi).1
  rw [ht.len] at hil
  obtain ⟨t, h1, h2⟩ := ht.at_ i p[i] (List.getElem?_eq_getElem hil)
  rw [h1] at hi
  injection hi with hi
  subst hi
  have hf : p[i] ∈ p := List.getElem_mem hil
  obtain ⟨q, hq⟩ := okF_good (h.1.1.2 _ hf)
  have hsz : sizeF t = p[i].ns.length := by rw [← sizeF_labels]; exact h2.size hq
  have hroot : (pl q (0 : Int).toNat).2 = p[i].ps := by
    have := hq.root
    simp [this]
  refine ⟨hq.ps0, hq.ps9, ?_, by rw [hsz]; exact hq.most, h2.wf hq (hn _ hf) false 0 p[i].ps fun m c hc => ?_, h2.each (Q := fun op n _ => namesOp op = true → 0 ≤ n ∧ n < p.length) fun y hy hk => ?_⟩
  · rw [← h2.cnt]; rfl
  · cases m with
    | zero =>
      obtain rfl : (0 : Int) = c := by simpa using hc
      simpa [depK] using hroot
    | succ m => simp at hc
  · obtain ⟨j, hj⟩ := List.mem_iff_getElem?.1 hy
    exact nameOk_num (h.2 _ hf y hy) (hq.to_.fit j y (List.getElem?_eq_some_iff.1 hj).1 hj).2.1 hk
theorem nrm_at {ts : List (Int × Fo)} {i : Nat} : (nrm ts)[i]? = ts[i]?.map fun x => ⟨x.1, flat 0 x.2⟩ := by simp [nrm]
/-- The program in order may be. -/
theorem okP_nrm {p : List Fn} (h : okP p = true) (hn : ∀ f ∈ p, ∀ x ∈ f.ns, Rn x.n) {ts : List (Int × Fo)} (ht : Trs p ts) : okP (nrm ts) = true := by
  have hT := okP_trOk h hn ht
  unfold okP at h ⊢
  simp only [Bool.and_eq_true, List.all_eq_true, decide_eq_true_eq] at h ⊢
  obtain ⟨⟨⟨h1, h2⟩, h3⟩, h4⟩ := h
  have hl : (nrm ts).length = p.length := by simp [nrm, ht.len]
  refine ⟨⟨⟨by omega, fun g hg => ?_⟩, ?_⟩, fun g hg y hy => ?_⟩
  · obtain ⟨x, hx, rfl⟩ := List.mem_map.1 hg
    obtain ⟨a1, a2, a3, a4, a5, a6⟩ := hT x hx
    exact okF_flat a1 a2 a3 a4 a5
  · cases ht with
    | nil => cases h3
    | cons _ _ => exact h3
  · obtain ⟨x, hx, rfl⟩ := List.mem_map.1 hg
    obtain ⟨i, hi⟩ := List.mem_iff_getElem?.1 hx
    have hil := (List.getElem?_eq_some_iff.1 hi).1
    rw [ht.len] at hil
    obtain ⟨t, e1, e2⟩ := ht.at_ i p[i] (List.getElem?_eq_getElem hil)
    rw [e1] at hi
    injection hi with hi
    subst hi
    have hQ := e2.each (Q := fun op n m => ∀ l : List Int, l.length = m → nameOk p ⟨op, n, l⟩ = true) fun z hz l hl => by
      have := h4 _ (List.getElem_mem hil) z hz
      unfold nameOk at this ⊢
      dsimp only at this ⊢
      split
      · rename_i hk
        rw [if_pos hk] at this
        split
        · rename_i g hg
          rw [hg] at this
          dsimp only at this
          unfold fitN at this ⊢
          dsimp only at this ⊢
          rw [hl]
          exact this
        · rename_i hg
          rw [hg] at this
          cases this
      · rfl
    have := flat_each 0 hQ y hy y.l rfl
    unfold nameOk at this ⊢
    dsimp only at this
    split
    · rename_i hk
      rw [if_pos hk] at this
      split at this
      · rename_i g hg
        have hgl := (List.getElem?_eq_some_iff.1 hg).1
        obtain ⟨t2, e3, _⟩ := ht.at_ _ g hg
        rw [nrm_at, e3]
        dsimp only [Option.map]
        simp only [Bool.and_eq_true, decide_eq_true_eq] at this ⊢
        rw [hl]
        exact this
      · cases this
    · rfl

/-- A text is no shorter than its tree. -/
def GE (op n : Int) (k : Fo) : Prop := ∀ d : Int, 0 ≤ d → wfN d op n k → 1 + sizeF k ≤ (txN op n (txF k d) (txF k (d + 1)) d).length
theorem join_ge : ∀ (k : Fo) (d : Int) (c : Bool) (j : Nat), AllF GE k → 0 ≤ d → wfF false j d k → sizeF k ≤ (joinC c (txF k d)).length
  | .nil, _, _, _, _, _, _ => by simp [sizeF]
  | .cons _ op n k r, d, c, j, ha, h0, hw => by
    have h1 := ha.1 d h0 (by simpa [depK, wfN] using hw.1)
    have h2 := join_ge r d true (j + 1) ha.2 h0 hw.2
    rw [txF, joinC, sizeF]
    simp only [List.length_append]
    omega
theorem itoa_pos (n : Int) (h : Rn n) : 1 ≤ (Lib.itoa n).length := by
  rcases Nat.eq_zero_or_pos (Lib.itoa n).length with h0 | h0
  · have := intD_itoa h
    rw [List.eq_nil_of_length_eq_zero h0] at this
    exact absurd this (by simp [intD, Lib.parseIntB])
  · exact h0
theorem ge_all : ∀ t, AllF GE t := allF fun op n k ha => by
  intro d h0 hw
  obtain ⟨w1, w2, w3, w4, w5⟩ := hw
  unfold txN
  by_cases h1 : op = 1
  · rw [if_pos h1]
    subst h1
    obtain rfl := fo_zero (k := k) (by simpa [kidsOk] using w1)
    simpa [sizeF] using itoa_pos n w4
  rw [if_neg h1]
  by_cases h3 : op = 3
  · subst h3
    obtain rfl := fo_zero (k := k) (by simpa [kidsOk] using w1)
    rw [if_pos rfl]
    simp [sizeF]
  rw [if_neg h3]
  by_cases h4 : op = 4
  · subst h4
    obtain ⟨c1, o1, n1, k1, c2, o2, n2, k2, rfl⟩ := fo_two (by simpa [kidsOk] using w1)
    obtain ⟨v1, v2, -⟩ := w5
    obtain ⟨a1, a2, -⟩ := ha
    have e1 := a1 d h0 (by simpa [depK, wfN] using v1)
    have e2 := a2 (d + 1) (by omega) (by simpa [depK, wfN] using v2)
    rw [if_pos rfl]
    simp only [txF, List.getD_cons_zero, List.getD_cons_succ, sizeF, List.length_append, List.length_cons, List.length_nil]
    omega
  rw [if_neg h4]
  by_cases h5 : op = 5
  · subst h5
    obtain ⟨c1, o1, n1, k1, c2, o2, n2, k2, c3, o3, n3, k3, rfl⟩ := fo_three (by simpa [kidsOk] using w1)
    obtain ⟨v1, v2, v3, -⟩ := w5
    obtain ⟨a1, a2, a3, -⟩ := ha
    have e1 := a1 d h0 (by simpa [depK, wfN] using v1)
    have e2 := a2 d h0 (by simpa [depK, wfN] using v2)
    have e3 := a3 d h0 (by simpa [depK, wfN] using v3)
    rw [if_pos rfl]
    simp only [txF, List.getD_cons_zero, List.getD_cons_succ, sizeF, List.length_append, List.length_cons, List.length_nil]
    omega
  rw [if_neg h5]
  have hb := join_ge k d false 0 ha h0 (wf_false (by simpa using h4) w5)
  by_cases h13 : op = 13
  · rw [if_pos h13]
    simp only [brk, List.length_append, List.length_cons, List.length_nil]
    omega
  rw [if_neg h13]
  have hop := op_rest w1 h1 h3 h4 h5 h13
  have hwd := wTab_wd hop
  obtain ⟨c, u, hu, -⟩ := hwd
  by_cases hf1 : (wTab op.toNat).2 = 1
  · rcases form_op hop w1 with ⟨q, hm, hk⟩ | ⟨q, hm, hk⟩ | ⟨q, hm, hk⟩ | ⟨q, hk⟩ | ⟨q, hk⟩
    · obtain rfl := fo_zero hm
      rw [if_pos hf1, hu]
      simp [sizeF]
    all_goals (rw [q] at hf1; exact absurd hf1 (by decide))
  · rw [if_neg hf1, hu]
    simp only [brk, List.length_append, List.length_cons, List.length_nil]
    omega
theorem txFn_ge {i m : Nat} {t : Fo} (hc : cntF t = 1) (hw : wfF false 0 (m : Int) t) : sizeF t + 1 ≤ (txFn i m t).length := by
  obtain ⟨c1, o1, n1, k1, rfl⟩ := fo_one hc
  have := (ge_all (.cons c1 o1 n1 k1 .nil)).1 m (by omega) (by simpa [depK, wfN] using hw.1)
  unfold txFn
  simp only [txF, List.getD_cons_zero, sizeF, List.length_append, List.length_cons, List.length_nil]
  omega
/-- The functions that trees name, functions numbered from i on, one a line. -/
def usesP : Nat → List (Int × Fo) → List Us
  | _, [] => []
  | i, x :: r => usesF i i 0 x.2 ++ usesP (i + 1) r
theorem lex_head {t : Fo} {i m : Nat} {ln : Nat} : ∃ R, tkFn i m t ln = tw wFun ln :: R := ⟨_, rfl⟩
theorem pFuns_all {g : Nat} (hg9 : 9 ≤ g) : ∀ (ts : List (Int × Fo)) (i f m : Nat) (fns : List (Nat × Fo)) (us : List Us), i + ts.length ≤ 64 → fns.length = i → (∀ x ∈ ts, TrOk m x) → (∀ x ∈ ts, sizeF x.2 ≤ g) → ts.length ≤ f →
    pFuns g f ⟨namesT 102 i, fns, us⟩ (lex (txP i ts) i) = .ok ⟨namesT 102 (i + ts.length), fns ++ ts.map (fun x => (x.1.toNat, ren 0 x.2)), us ++ usesP i ts⟩
  | [], i, f, m, fns, us, _, _, _, _, _ => by
    rw [txP, lex_nil]
    cases f with
    | zero => simp [pFuns, usesP]
    | succ f =>
      rw [pFuns, if_pos (by rfl)]
      simp [usesP]
  | x :: r, i, 0, m, _, _, _, _, _, _, hf => by simp at hf
  | x :: r, i, f + 1, m, fns, us, hi, hl, hT, hG, hf => by
    obtain ⟨a1, a2, a3, a4, a5, a6⟩ := hT x (List.mem_cons_self ..)
    simp only [List.length_cons] at hi hf
    obtain ⟨u, hu⟩ := Int.eq_ofNat_of_zero_le a1
    have e : lex (txP i (x :: r)) i = tkFn i u x.2 i ++ lex (txP (i + 1) r) (i + 1) := by
      rw [txP, hu]
      exact lex_fn (by omega) (by omega) a3 (by rw [hu] at a5; exact a5)
    have hR : lex (txP (i + 1) r) (i + 1) ≠ [] := by rw [lex_eq]; split <;> simp
    have h40 : isM 40 (lex (txP (i + 1) r) (i + 1)) = false := by
      cases r with
      | nil => rw [txP, lex_nil]; rfl
      | cons y r =>
        obtain ⟨b1, b2, b3, b4, b5, b6⟩ := hT y (by simp)
        obtain ⟨v, hv⟩ := Int.eq_ofNat_of_zero_le b1
        simp only [List.length_cons] at hi
        have e2 : lex (txP (i + 1) (y :: r)) (i + 1) = tkFn (i + 1) v y.2 (i + 1) ++ lex (txP (i + 1 + 1) r) (i + 1 + 1) := by
          rw [txP, hv]
          exact lex_fn (by omega) (by omega) b3 (by rw [hv] at b5; exact b5)
        rw [e2]
        exact isM_k (by simp [tw])
    have hk : ¬ (hd (tkFn i u x.2 i ++ lex (txP (i + 1) r) (i + 1))).k = 0 := by
      show ¬ (2 : Nat) = 0
      decide
    rw [e, pFuns, if_neg hk, pFun_all (by omega) (by omega) a3 (by rw [hu] at a5; exact a5) a4 (hG x (List.mem_cons_self ..)) (by omega) hl hR h40, sub_ok]
    dsimp only
    rw [pFuns_all hg9 r (i + 1) f m _ _ (by omega) (by simp [hl]) (fun y hy => hT y (List.mem_cons_of_mem _ hy)) (fun y hy => hG y (List.mem_cons_of_mem _ hy)) (by omega)]
    simp only [List.length_cons, List.map_cons, usesP, List.append_assoc, List.cons_append, List.nil_append]
    rw [hu, Int.toNat_natCast, show i + 1 + r.length = i + (r.length + 1) by omega]
theorem res_all {m : Nat} (hm : m ≤ 1000) : ∀ (ts : List (Int × Fo)) (i : Nat) (dn : List Fn), dn.length = i → (∀ x ∈ ts, TrOk m x) →
    resol (namesT 102 m) (usesP i ts) (dn ++ ts.map fun x => ⟨x.1, flat 0 (ren 0 x.2)⟩) = .ok (dn ++ nrm ts)
  | [], i, dn, _, _ => by simp [usesP, resol, nrm]
  | x :: r, i, dn, hd, hT => by
    rw [usesP]
    have := res_uses (m := m) (fi := i) (ln := i) (us := usesP (i + 1) r) (ps := x.1) hm x.2 0 [] [] (dn ++ (x :: r).map fun x => ⟨x.1, flat 0 (ren 0 x.2)⟩) rfl (by simp [hd]) (hT x (List.mem_cons_self ..)).num
    rw [this]
    have ih := res_all hm r (i + 1) (dn ++ [⟨x.1, flat 0 x.2⟩]) (by simp [hd]) fun y hy => hT y (List.mem_cons_of_mem _ hy)
    subst hd
    simp only [nrm, List.map_cons, List.append_assoc, List.cons_append, List.nil_append, List.append_nil] at ih ⊢
    rw [← ih]
    congr 1
    rw [List.set_append]
    simp
theorem txP_len {m : Nat} : ∀ (ts : List (Int × Fo)) (i : Nat), (∀ x ∈ ts, TrOk m x) → i + ts.length ≤ 64 → 10 * ts.length ≤ (txP i ts).length ∧ (txP i ts).length ≤ 16300 * ts.length ∧ ∀ x ∈ ts, sizeF x.2 ≤ (txP i ts).length
  | [], _, _, _ => by simp [txP]
  | x :: r, i, hT, hi => by
    simp only [List.length_cons] at hi
    obtain ⟨i1, i2, i3⟩ := txP_len r (i + 1) (fun y hy => hT y (List.mem_cons_of_mem _ hy)) (by omega)
    obtain ⟨a1, a2, a3, a4, a5, a6⟩ := hT x (List.mem_cons_self ..)
    obtain ⟨u, hu⟩ := Int.eq_ofNat_of_zero_le a1
    have h1 : sizeF x.2 + 1 ≤ (txFn i x.1 x.2).length := by
      have a5 := a5
      rw [hu] at a5 ⊢
      exact txFn_ge a3 a5
    have h0 : 10 ≤ (txFn i x.1 x.2).length := by
      unfold txFn
      simp only [List.length_append, List.length_cons, List.length_nil]
      omega
    have h2 : (txFn i x.1 x.2).length ≤ 16300 := by
      obtain ⟨ps, t⟩ := x
      dsimp only at *
      obtain ⟨c1, o1, n1, k1, rfl⟩ := fo_one a3
      have hr : ∀ (t : Fo) (lt : Bool) (k : Nat) (d : Int), wfF lt k d t → rnF t := by
        intro t
        induction t with
        | nil => intros; trivial
        | cons c op n k r ih1 ih2 =>
          intro lt j d hw
          exact ⟨hw.1.2.2.2.1, ih1 _ _ _ hw.1.2.2.2.2, ih2 _ _ _ hw.2⟩
      have hl := txF_len (.cons c1 o1 n1 k1 .nil) ps (hr _ _ _ _ a5) a1 (by omega) 0
      have hl2 : ((txF (.cons c1 o1 n1 k1 .nil) ps).getD 0 []).length ≤ 16000 := by
        rcases hl with hl | hl
        · simp only [wtF, List.getD_cons_zero, sizeF] at hl a4 ⊢
          omega
        · simp [txF] at hl
      have hv : ∀ (m : Nat), m ≤ 9 → (joinC false (varsT m)).length ≤ 216 := by
        intro m hm
        have h1 := joinC_len (varsT m) false
        have h2 : ((varsT m).map fun x => x.length + 2).sum ≤ 24 * m := by
          unfold varsT
          rw [List.map_map]
          have : ∀ (l : List Nat), (∀ k ∈ l, k < 100) → (l.map ((fun x : Bs => x.length + 2) ∘ fun (k : Nat) => 118 :: Lib.itoa (k : Int))).sum ≤ 24 * l.length := by
            intro l
            induction l with
            | nil => intro _; simp
            | cons y q ih =>
              intro h
              have h1 := ih fun k hk => h k (List.mem_cons_of_mem _ hk)
              have h2 := h y (List.mem_cons_self ..)
              have h3 := itoa_20 (n := (y : Int)) ⟨by omega, by omega⟩
              simp at h1 ⊢
              omega
          have := this (List.range m) fun k hk => by have := List.mem_range.1 hk; omega
          simpa using this
        omega
      have hu := hv ps.toNat (by omega)
      have hi2 := itoa_20 (n := (i : Int)) ⟨by omega, by omega⟩
      unfold txFn
      simp only [List.length_append, List.length_cons, List.length_nil]
      omega
    rw [txP]
    simp only [List.length_append, List.length_cons]
    refine ⟨by omega, by omega, fun y hy => ?_⟩
    rcases List.mem_cons.1 hy with rfl | hy
    · omega
    · have := i3 y hy
      omega
/-- The text of a valid program is read as that program, in order. -/
theorem srcP_txP {p : List Fn} (h : okP p = true) (hn : ∀ f ∈ p, ∀ x ∈ f.ns, Rn x.n) {ts : List (Int × Fo)} (ht : Trs p ts) : srcP (txP 0 ts) = .ok (nrm ts) (namesT 102 ts.length) := by
  have hT := okP_trOk h hn ht
  have hok := okP_nrm h hn ht
  have hl : 1 ≤ p.length ∧ p.length ≤ 64 := by
    unfold okP at h
    simp only [Bool.and_eq_true, decide_eq_true_eq] at h
    exact h.1.1.1
  have hl2 := ht.len
  obtain ⟨l1, l2, l3⟩ := txP_len ts 0 hT (by omega)
  have e1 := pFuns_all (g := (txP 0 ts).length + 2) (by omega) ts 0 ((txP 0 ts).length + 2) p.length [] [] (by omega) rfl hT (fun x hx => by have := l3 x hx; omega) (by omega)
  have e2 := res_all (m := ts.length) (by omega) ts 0 [] rfl (by rw [hl2]; exact hT)
  have hz : namesT 102 0 = [] := rfl
  unfold lex at e1
  unfold srcP
  simp only [hz, Nat.zero_add, List.nil_append] at e1 e2 ⊢
  rw [if_neg (by omega), e1, sub_ok]
  dsimp only
  have hmap : (ts.map fun x => (x.1.toNat, ren 0 x.2)).map fnOf = ts.map fun x => ⟨x.1, flat 0 (ren 0 x.2)⟩ := by
    rw [List.map_map]
    apply List.map_congr_left
    intro x hx
    have := (hT x hx).p0
    simp [fnOf, Int.toNat_of_nonneg this]
  rw [hmap, e2, sub_ok]
  dsimp only
  rw [if_pos hok]
theorem sub_is {α β : Type} {r : Except Nat α} {k : α → Except Nat β} {y : β} (h : sub r k = .ok y) : ∃ x, r = .ok x ∧ k x = .ok y := by
  unfold sub at h
  split at h
  · cases h
  · exact ⟨_, rfl, h⟩
theorem need_is {α : Type} {b : Bool} {ts : List Tk} {k : List Tk → Except Nat α} {y : α} (h : need b ts k = .ok y) : b = true ∧ k (mv ts) = .ok y := by
  unfold need at h
  split at h
  · rename_i hb
    exact ⟨hb, h⟩
  · cases h
/-- An expression is one node's. -/
theorem pNode_one {e : List Bs → Nat → List Tk → PR} {f fi : Nat} {vs : List Bs} {a : Nat} {ts : List Tk} {x : Fo × List Us × List Tk} (h : pNode e f fi vs a ts = .ok x) : cntF x.1 = 1 := by
  have h1 : ∀ (c : Nat) (op n : Int) (k : Fo), cntF (.cons c op n k .nil) = 1 := fun _ _ _ _ => rfl
  have named : ∀ op, pNamed (e vs) f fi a op ts = .ok x → cntF x.1 = 1 := by
    intro op h
    unfold pNamed at h
    obtain ⟨-, h⟩ := need_is h
    obtain ⟨y, -, h⟩ := sub_is h
    injection h with h
    rw [← h]
    rfl
  unfold pNode at h
  split at h
  · injection h with h
    rw [← h]
    rfl
  · split at h
    · cases h
    · split at h
      · unfold pKey at h
        split at h
        · cases h
        split at h
        · unfold pLet at h
          obtain ⟨-, h⟩ := need_is h
          obtain ⟨-, h⟩ := need_is h
          obtain ⟨y, -, h⟩ := sub_is h
          obtain ⟨-, h⟩ := need_is h
          obtain ⟨z, -, h⟩ := sub_is h
          injection h with h
          rw [← h]
          rfl
        split at h
        · unfold pIf at h
          obtain ⟨y, -, h⟩ := sub_is h
          obtain ⟨-, h⟩ := need_is h
          obtain ⟨z, -, h⟩ := sub_is h
          obtain ⟨-, h⟩ := need_is h
          obtain ⟨u, -, h⟩ := sub_is h
          injection h with h
          rw [← h]
          rfl
        split at h
        · unfold pOne at h
          obtain ⟨-, h⟩ := need_is h
          obtain ⟨y, -, h⟩ := sub_is h
          obtain ⟨-, h⟩ := need_is h
          injection h with h
          rw [← h]
          rfl
        split at h
        · unfold pTwo at h
          obtain ⟨-, h⟩ := need_is h
          obtain ⟨y, -, h⟩ := sub_is h
          obtain ⟨-, h⟩ := need_is h
          obtain ⟨z, -, h⟩ := sub_is h
          obtain ⟨-, h⟩ := need_is h
          injection h with h
          rw [← h]
          rfl
        split at h
        · unfold pMany at h
          obtain ⟨y, -, h⟩ := sub_is h
          injection h with h
          rw [← h]
          rfl
        split at h
        · unfold pNamed at h
          obtain ⟨-, h⟩ := need_is h
          obtain ⟨y, -, h⟩ := sub_is h
          injection h with h
          rw [← h]
          rfl
        · injection h with h
          rw [← h]
          rfl
      · split at h
        · exact named _ h
        · split at h
          · injection h with h
            rw [← h]
            rfl
          · cases h
theorem pE_one {fi f : Nat} {vs : List Bs} {a : Nat} {ts : List Tk} {x : Fo × List Us × List Tk} (h : pE fi f vs a ts = .ok x) : cntF x.1 = 1 := by
  cases f with
  | zero => cases h
  | succ f =>
    rw [pE] at h
    split at h
    · cases h
    · exact pNode_one h
theorem pFuns_one {g : Nat} : ∀ (f : Nat) (p : PP) (ts : List Tk) (q : PP), (∀ x ∈ p.fns, cntF x.2 = 1) → pFuns g f p ts = .ok q → ∀ x ∈ q.fns, cntF x.2 = 1
  | 0, p, ts, q, hp, h => by
    rw [pFuns] at h
    injection h with h
    rw [← h]
    exact hp
  | f + 1, p, ts, q, hp, h => by
    rw [pFuns] at h
    split at h
    · injection h with h
      rw [← h]
      exact hp
    · obtain ⟨y, h1, h2⟩ := sub_is h
      refine pFuns_one f y.1 y.2 q ?_ h2
      unfold pFun at h1
      obtain ⟨-, h1⟩ := need_is h1
      split at h1
      · obtain ⟨-, h1⟩ := need_is h1
        obtain ⟨z, -, h1⟩ := sub_is h1
        obtain ⟨-, h1⟩ := need_is h1
        obtain ⟨u, hu, h1⟩ := sub_is h1
        injection h1 with h1
        rw [← h1]
        intro x hx
        rcases List.mem_append.1 hx with hx | hx
        · exact hp x hx
        · obtain rfl := List.mem_singleton.1 hx
          exact pE_one hu
      · cases h1
/-- A function whose nodes stand in order. -/
def ownF (f : Fn) : Prop := ∃ t, cntF t = 1 ∧ f.ns = flat 0 t
theorem res_own {names : List Bs} : ∀ (us : List Us) (fs gs : List Fn), (∀ f ∈ fs, ownF f) → resol names us fs = .ok gs → ∀ f ∈ gs, ownF f
  | [], fs, gs, h, he => by
    rw [resol] at he
    injection he with he
    rw [← he]
    exact h
  | u :: r, fs, gs, h, he => by
    rw [resol] at he
    split at he
    · refine res_own r _ gs (fun f hf => ?_) he
      unfold setN at hf
      obtain ⟨j, hj⟩ := List.mem_iff_getElem?.1 hf
      rw [List.getElem?_modify] at hj
      cases hg : fs[j]? with
      | none => rw [hg] at hj; cases hj
      | some g =>
        rw [hg] at hj
        obtain ⟨t, t1, t2⟩ := h g (List.mem_of_getElem? hg)
        replace hj : (if u.fn = j then _ else g) = f := Option.some.inj hj
        split at hj
        · rw [← hj]
          exact ⟨setF _ u.nd t, (setF_size _ _ _).2.trans t1, by dsimp only; rw [t2, setF_flat]⟩
        · rw [← hj]
          exact ⟨t, t1, t2⟩
    · cases he
theorem trs_own : ∀ (p : List Fn), (∀ f ∈ p, ownF f) → ∃ ts, Trs p ts ∧ nrm ts = p
  | [], _ => ⟨[], .nil, rfl⟩
  | f :: p, h => by
    obtain ⟨t, h1, h2⟩ := h f (List.mem_cons_self ..)
    obtain ⟨ts, h3, h4⟩ := trs_own p fun g hg => h g (List.mem_cons_of_mem _ hg)
    have hr := flat_own h1
    rw [← h2] at hr
    refine ⟨_, .cons hr h3, ?_⟩
    unfold nrm at h4 ⊢
    rw [List.map_cons, h4]
    dsimp only
    rw [rel_flat, ← h2]
/-- A program that was read may be, and stands in order. -/
theorem srcP_own {s : Bs} {fs : List Fn} {names : List Bs} (h : srcP s = .ok fs names) : okP fs = true ∧ ∃ ts, Trs fs ts ∧ nrm ts = fs := by
  unfold srcP at h
  split at h
  · cases h
  · split at h
    · cases h
    · rename_i x hx
      split at h
      · rename_i hok
        injection h with h _
        rw [h] at hok
        refine ⟨hok, trs_own fs fun f hf => ?_⟩
        obtain ⟨p, hp, hx⟩ := sub_is hx
        obtain ⟨gs, hg, hx⟩ := sub_is hx
        injection hx with hx
        rw [← hx] at h
        dsimp only at h
        rw [← h] at hf
        refine res_own _ _ _ (fun g hgm => ?_) hg f hf
        obtain ⟨y, hy, rfl⟩ := List.mem_map.1 hgm
        exact ⟨y.2, pFuns_one _ _ _ _ (by simp) hp y hy, rfl⟩
      · cases h
end Go.Proofs.YtjendlnicbieoaaGreatDoor
