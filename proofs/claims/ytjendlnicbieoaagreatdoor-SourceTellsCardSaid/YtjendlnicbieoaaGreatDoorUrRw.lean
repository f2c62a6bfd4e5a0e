/-
  Package source's reader, plain: the nodes at which functions are named are nodes of what was read.
-/
import Derived.Test.YtjendlnicbieoaaGreatDoorExLi
import Derived.Test.YtjendlnicbieoaaGreatDoorPcFn
import Derived.BigQuiet
import Derived.Lib.QuietBelow
namespace Go.Proofs.YtjendlnicbieoaaGreatDoor

/-- The places named lie among the nodes from b on, so many. -/
def InR (fi b n : Nat) (us : List Us) : Prop := ∀ u ∈ us, u.fn = fi ∧ b ≤ u.nd ∧ u.nd < b + n
theorem InR.app {fi b n b1 n1 b2 n2 : Nat} {us vs : List Us} (h : InR fi b1 n1 us) (h' : InR fi b2 n2 vs) (h1 : b ≤ b1) (h2 : b1 + n1 ≤ b + n) (h3 : b ≤ b2) (h4 : b2 + n2 ≤ b + n) : InR fi b n (us ++ vs) := fun u hu => by
  rcases List.mem_append.1 hu with hu | hu
  · obtain ⟨e1, e2, e3⟩ := h u hu
    exact ⟨e1, by omega, by omega⟩
  · obtain ⟨e1, e2, e3⟩ := h' u hu
    exact ⟨e1, by omega, by omega⟩
theorem InR.nil (fi b n : Nat) : InR fi b n [] := fun u hu => by cases hu
theorem InR.more {fi b n b1 n1 : Nat} {us : List Us} (h : InR fi b1 n1 us) (h1 : b ≤ b1) (h2 : b1 + n1 ≤ b + n) : InR fi b n us := fun u hu => by
  obtain ⟨e1, e2, e3⟩ := h u hu
  exact ⟨e1, by omega, by omega⟩
theorem pMore_us {fi : Nat} {e : Nat → List Tk → PR} (he : ∀ a ts x, e a ts = .ok x → InR fi a (sizeF x.1) x.2.1) : ∀ (f a b : Nat) (d : Fo) (us : List Us) (ts : List Tk) (x : Fo × List Us × List Tk), a = b + sizeF d → InR fi b (sizeF d) us → pMore e f a d us ts = .ok x →
    InR fi b (sizeF x.1) x.2.1
  | 0, a, b, d, us, ts, x, ha, hu, h => by cases h
  | f + 1, a, b, d, us, ts, x, ha, hu, h => by
    rw [pMore] at h
    obtain ⟨y, h1, h⟩ := sub_is h
    have hy := he _ _ _ h1
    have hs := szF_app d y.1
    have hA : InR fi b (sizeF (d.app y.1)) (us ++ y.2.1) := hu.app hy (by omega) (by omega) (by omega) (by omega)
    split at h
    · exact pMore_us he f _ b _ _ _ _ (by omega) hA h
    · injection h with h
      subst h
      exact hA
theorem pList_us {fi : Nat} {e : Nat → List Tk → PR} (he : ∀ a ts x, e a ts = .ok x → InR fi a (sizeF x.1) x.2.1) {f a : Nat} {ts : List Tk} {x : Fo × List Us × List Tk} (h : pList e f a ts = .ok x) : InR fi a (sizeF x.1) x.2.1 := by
  unfold pList at h
  obtain ⟨-, h⟩ := need_is h
  obtain ⟨y, h1, h⟩ := sub_is h
  obtain ⟨-, h⟩ := need_is h
  injection h with h
  subst h
  split at h1
  · injection h1 with h1
    subst h1
    exact InR.nil _ _ _
  · exact pMore_us he f a a .nil [] (mv ts) y rfl (InR.nil _ _ _) h1
theorem pNode_us {fi : Nat} {e : List Bs → Nat → List Tk → PR} (he : ∀ vs a ts x, e vs a ts = .ok x → InR fi a (sizeF x.1) x.2.1) {f : Nat} {vs : List Bs} {a : Nat} {ts : List Tk} {x : Fo × List Us × List Tk} (h : pNode e f fi vs a ts = .ok x) : InR fi a (sizeF x.1) x.2.1 := by
  have named : ∀ op ts', pNamed (e vs) f fi a op ts' = .ok x → InR fi a (sizeF x.1) x.2.1 := by
    intro op ts' h
    unfold pNamed at h
    obtain ⟨-, h⟩ := need_is h
    obtain ⟨y, h1, h⟩ := sub_is h
    have hy := pList_us (he vs) h1
    injection h with h
    subst h
    intro u hu
    simp only [sizeF]
    rcases List.mem_cons.1 hu with rfl | hu
    · exact ⟨rfl, Nat.le_refl _, by dsimp only; omega⟩
    · obtain ⟨e1, e2, e3⟩ := hy u hu
      exact ⟨e1, by omega, by omega⟩
  unfold pNode at h
  split at h
  · injection h with h
    rw [← h]
    exact InR.nil _ _ _
  · split at h
    · cases h
    · split at h
      · unfold pKey at h
        split at h
        · cases h
        split at h
        · unfold pLet at h
          obtain ⟨-, h⟩ := need_is h
          obtain ⟨-, h⟩ := need_is h
          obtain ⟨y, h1, h⟩ := sub_is h
          obtain ⟨-, h⟩ := need_is h
          obtain ⟨z, h2, h⟩ := sub_is h
          have hy := he _ _ _ _ h1
          have hz := he _ _ _ _ h2
          injection h with h
          subst h
          refine hy.app hz ?_ ?_ ?_ ?_
          all_goals first | omega | (simp only [sizeF, szF_app]; omega)
        split at h
        · unfold pIf at h
          obtain ⟨y, h1, h⟩ := sub_is h
          obtain ⟨-, h⟩ := need_is h
          obtain ⟨z, h2, h⟩ := sub_is h
          obtain ⟨-, h⟩ := need_is h
          obtain ⟨u, h3, h⟩ := sub_is h
          have hy := he _ _ _ _ h1
          have hz := he _ _ _ _ h2
          have hu := he _ _ _ _ h3
          injection h with h
          subst h
          have hyz : InR fi (a + 1) (sizeF y.1 + sizeF z.1) (y.2.1 ++ z.2.1) := hy.app hz (by omega) (by omega) (by omega) (by omega)
          refine hyz.app hu ?_ ?_ ?_ ?_
          all_goals first | omega | (simp only [sizeF, szF_app]; omega)
        split at h
        · unfold pOne at h
          obtain ⟨-, h⟩ := need_is h
          obtain ⟨y, h1, h⟩ := sub_is h
          obtain ⟨-, h⟩ := need_is h
          have hy := he _ _ _ _ h1
          injection h with h
          subst h
          exact hy.more (by omega) (by simp only [sizeF]; omega)
        split at h
        · unfold pTwo at h
          obtain ⟨-, h⟩ := need_is h
          obtain ⟨y, h1, h⟩ := sub_is h
          obtain ⟨-, h⟩ := need_is h
          obtain ⟨z, h2, h⟩ := sub_is h
          obtain ⟨-, h⟩ := need_is h
          have hy := he _ _ _ _ h1
          have hz := he _ _ _ _ h2
          injection h with h
          subst h
          refine hy.app hz ?_ ?_ ?_ ?_
          all_goals first | omega | (simp only [sizeF, szF_app]; omega)
        split at h
        · unfold pMany at h
          obtain ⟨y, h1, h⟩ := sub_is h
          have hy := pList_us (he vs) h1
          injection h with h
          subst h
          exact hy.more (by omega) (by simp only [sizeF]; omega)
        split at h
        · exact named _ _ h
        · injection h with h
          rw [← h]
          exact InR.nil _ _ _
      · split at h
        · exact named _ _ h
        · split at h
          · injection h with h
            rw [← h]
            exact InR.nil _ _ _
          · cases h
theorem pE_us {fi : Nat} : ∀ (f : Nat) (vs : List Bs) (a : Nat) (ts : List Tk) (x : Fo × List Us × List Tk), pE fi f vs a ts = .ok x → InR fi a (sizeF x.1) x.2.1
  | 0, vs, a, ts, x, h => by cases h
  | f + 1, vs, a, ts, x, h => by
    rw [pE] at h
    split at h
    · cases h
    · exact pNode_us (fun vs a ts x => pE_us f vs a ts x) h
/-- Where functions are named, nodes stand. -/
def UsIn (p : PP) : Prop := ∀ u ∈ p.uses, ∃ x, p.fns[u.fn]? = some x ∧ u.nd < sizeF x.2
theorem pFun_us {g : Nat} {p : PP} {ts : List Tk} {x : PP × List Tk} (hp : UsIn p) (h : pFun g p ts = .ok x) : UsIn x.1 := by
  unfold pFun at h
  obtain ⟨-, h⟩ := need_is h
  split at h
  · obtain ⟨-, h⟩ := need_is h
    obtain ⟨v, -, h⟩ := sub_is h
    obtain ⟨-, h⟩ := need_is h
    obtain ⟨y, h1, h⟩ := sub_is h
    have hy := pE_us _ _ _ _ _ h1
    injection h with h
    subst h
    intro u hu
    rcases List.mem_append.1 hu with hu | hu
    · obtain ⟨z, h1, h2⟩ := hp u hu
      exact ⟨z, by dsimp only; rw [List.getElem?_append_left (List.getElem?_eq_some_iff.1 h1).1]; exact h1, h2⟩
    · obtain ⟨e1, e2, e3⟩ := hy u hu
      exact ⟨(v.1.length, y.1), by rw [e1]; simp, by dsimp only; omega⟩
  · cases h
theorem pFuns_us {g : Nat} : ∀ (f : Nat) (p : PP) (ts : List Tk) (q : PP), UsIn p → pFuns g f p ts = .ok q → UsIn q
  | 0, p, ts, q, hp, h => by
    injection h with h
    exact h ▸ hp
  | f + 1, p, ts, q, hp, h => by
    rw [pFuns] at h
    split at h
    · injection h with h
      exact h ▸ hp
    · obtain ⟨x, h1, h⟩ := sub_is h
      exact pFuns_us f _ _ _ (pFun_us hp h1) h
end Go.Proofs.YtjendlnicbieoaaGreatDoor
/-
  Package source's reader: resolve.
-/
namespace Go.Proofs.YtjendlnicbieoaaGreatDoor
open Go.RowKit Go.Sort

def FA.fn (x : FA) : Fn := ⟨(x.ps : Nat), x.ns.map NA.nd⟩
def NA.setN (v : Int) (y : NA) : NA := { y with nd := { y.nd with n := v } }
def FA.setN (j : Nat) (v : Int) (x : FA) : FA := { x with ns := x.ns.modify j (NA.setN v) }
theorem FA.setN_sl (j : Nat) (v : Int) (x : FA) : (x.setN j v).sl = x.sl := by simp [FA.setN, FA.sl]
theorem FA.setN_cs (j : Nat) (v : Int) (x : FA) : (x.setN j v).cs = x.cs := by simp [FA.setN, FA.cs]
theorem map_modify_same {α β : Type} {f : α → β} {g : α → α} (h : ∀ x, f (g x) = f x) : ∀ (l : List α) (i : Nat), (l.modify i g).map f = l.map f
  | [], i => by simp
  | x :: r, 0 => by simp [h]
  | x :: r, i + 1 => by simp [map_modify_same h r i]
theorem map_modify_to {α β : Type} {f : α → β} {g : α → α} {k : β → β} (h : ∀ x, f (g x) = k (f x)) : ∀ (l : List α) (i : Nat), (l.modify i g).map f = (l.map f).modify i k
  | [], i => by simp
  | x :: r, 0 => by simp [h]
  | x :: r, i + 1 => by simp [map_modify_to h r i]
theorem FA.setN_fn (j : Nat) (v : Int) (x : FA) : (x.setN j v).fn = { x.fn with ns := x.fn.ns.modify j fun y => { y with n := v } } := by
  unfold FA.setN FA.fn
  dsimp only
  rw [map_modify_to (f := NA.nd) (k := fun y => { y with n := v }) (fun _ => rfl)]
theorem setN_map (fas : List FA) (i j : Nat) (v : Int) : (fas.modify i (FA.setN j v)).map FA.fn = Go.Proofs.YtjendlnicbieoaaGreatDoor.setN (fas.map FA.fn) i j v := map_modify_to (fun x => FA.setN_fn j v x) fas i
theorem cs_set (v : Int) : ∀ (ns : List NA) (j : Nat), j < ns.length → (ns.flatMap NA.cs).set (j * 3 + 1) (.int .i64 v) = (ns.modify j (NA.setN v)).flatMap NA.cs
  | [], j, h => by simp at h
  | y :: r, 0, _ => by simp [NA.cs, NA.setN]
  | y :: r, j + 1, h => by
    have ih := cs_set v r j (by simpa using h)
    rw [List.modify_succ_cons, List.flatMap_cons, List.flatMap_cons, ← ih]
    unfold NA.cs
    rw [show (j + 1) * 3 + 1 = j * 3 + 1 + 1 + 1 + 1 by omega]
    simp [List.set_cons_succ]
/-- The reader behind its last function. -/
structure Rv (w : World) (lo R : Nat) (names : List Bs) (us : List Us) (fas : List FA) (vN : Value) (fa : Option Addr) (fc : Nat) (vU : Value) : Prop where
  lt : R < w.heap.size
  c9 : w.cell? ⟨R, 9, none⟩ = some vN
  c10 : w.cell? ⟨R, 10, none⟩ = some (.slice fa fas.length fc)
  c11 : w.cell? ⟨R, 11, none⟩ = some vU
  rN : w.ownsRow lo 9 1 vN names.length (strsV names)
  rU : w.ownsRow lo 152 4 vU us.length (us.flatMap usC)
  rF : w.ownsRow lo 46 2 (.slice fa fas.length fc) fas.length (fas.flatMap FA.cs)
  fns : ∀ x ∈ fas, x.Ok w lo
  dj : (fas.map FA.sl).Pairwise fun x y => ∀ q, x.ownBlock = some q → ¬ y.ownBlock = some q
theorem Sp.rv {w : World} {lo R : Nat} {s : ByteArray} {ts : List Tk} {p : PP} {fas : List FA} {vN : Value} {fa : Option Addr} {fc : Nat} {ns : List NA} {vs : List Bs} {vU vD vV : Value} (h : Sp w lo R s ts p fas vN fa fc ns vs vU vD vV) : Rv w lo R p.names p.uses fas vN fa fc vU :=
  ⟨h.st.rd.lt, h.st.rd.tl_ (q := 0) rfl, h.st.rd.tl_ (q := 1) rfl, h.st.rd.tl_ (q := 2) rfl, h.rN, h.st.ru, h.rF, h.fns, List.pairwise_map.2 h.dj⟩
theorem Sp.fns_ {w : World} {lo R : Nat} {s : ByteArray} {ts : List Tk} {p : PP} {fas : List FA} {vN : Value} {fa : Option Addr} {fc : Nat} {ns : List NA} {vs : List Bs} {vU vD vV : Value} (h : Sp w lo R s ts p fas vN fa fc ns vs vU vD vV) : fas.map FA.fn = p.fns.map fnOf := by
  have e1 : fas.map FA.fn = (fas.map FA.key).map fun k => ⟨(k.1 : Nat), k.2⟩ := by rw [List.map_map]; rfl
  have e2 : p.fns.map fnOf = (p.fns.map keyF).map fun k => ⟨(k.1 : Nat), k.2⟩ := by rw [List.map_map]; rfl
  rw [e1, e2, h.key]
section
variable {w w' : World} {lo R : Nat} {names : List Bs} {us : List Us} {fas : List FA} {vN : Value} {fa : Option Addr} {fc : Nat} {vU : Value}
theorem Rv.below (h : Rv w lo R names us fas vN fa fc vU) (hb : Below w.heap.size w w') : Rv w' lo R names us fas vN fa fc vU := by
  have hkp : ∀ {T : TypeId} {sz n : Nat} {v : Value} {xs : List Value}, w.ownsRow lo T sz v n xs → w'.ownsRow lo T sz v n xs := fun hrw => row_keep hrw fun q _ hq => hb.block q hq
  exact ⟨Nat.lt_of_lt_of_le h.lt hb.size, (hb.cell h.lt).trans h.c9, (hb.cell h.lt).trans h.c10, (hb.cell h.lt).trans h.c11, hkp h.rN, hkp h.rU, hkp h.rF, fun x hx => ⟨hkp (h.fns x hx).1, fun y hy => ⟨hkp ((h.fns x hx).2 y hy).1, ((h.fns x hx).2 y hy).2⟩⟩, h.dj⟩
theorem pw_at {α : Type} {r : α → α → Prop} {l : List α} (h : l.Pairwise r) {i j : Nat} {x y : α} (hx : l[i]? = some x) (hy : l[j]? = some y) (hij : i < j) : r x y := by
  obtain ⟨h1, rfl⟩ := List.getElem?_eq_some_iff.1 hx
  obtain ⟨h2, rfl⟩ := List.getElem?_eq_some_iff.1 hy
  exact List.pairwise_iff_getElem.1 h i j h1 h2 hij
/-- A function's number is written into a node. -/
theorem Rv.set (h : Rv w lo R names us fas vN fa fc vU) (hR : R < lo) {i j g dc : Nat} {ps : Nat} {ns : List NA} (hx : fas[i]? = some ⟨ps, ns, some ⟨g, 0, none⟩, dc⟩) (hj : j < ns.length) (v : Int) (hv : Rng v) :
    Rv (w.setCell ⟨g, j * 3 + 1, none⟩ (.int .i64 v)) lo R names us (fas.modify i (FA.setN j v)) vN fa fc vU := by
  have hxm : (⟨ps, ns, some ⟨g, 0, none⟩, dc⟩ : FA) ∈ fas := List.mem_of_getElem? hx
  have hrow := (h.fns _ hxm).1
  have hlo := row_base hrow g rfl
  have hfin : Fr (fun q => q = g) w (w.setCell ⟨g, j * 3 + 1, none⟩ (.int .i64 v)) := Fr.set (.inl rfl)
  have hkp : ∀ {T : TypeId} {sz n : Nat} {v' : Value} {xs : List Value}, w.ownsRow lo T sz v' n xs → T ≠ 59 → (w.setCell ⟨g, j * 3 + 1, none⟩ (.int .i64 v)).ownsRow lo T sz v' n xs := fun hrw hT => row_keep hrw fun q hq hq2 => hfin.block q hq2 fun e => by
    subst e
    exact rows_ne hrw hrow hT _ hq rfl
  have hcl : ∀ {o : Nat}, (w.setCell ⟨g, j * 3 + 1, none⟩ (.int .i64 v)).cell? ⟨R, o, none⟩ = w.cell? ⟨R, o, none⟩ := hfin.cell h.lt (by omega)
  have hlen : (fas.modify i (FA.setN j v)).length = fas.length := by simp
  have hcs : (fas.modify i (FA.setN j v)).flatMap FA.cs = fas.flatMap FA.cs := by
    rw [List.flatMap_def, List.flatMap_def, map_modify_same (FA.setN_cs j v)]
  refine ⟨Nat.lt_of_lt_of_le h.lt hfin.size, hcl.trans h.c9, by rw [hlen]; exact hcl.trans h.c10, hcl.trans h.c11, hkp h.rN (by decide), hkp h.rU (by decide), by rw [hlen, hcs]; exact hkp h.rF (by decide), fun y hy => ?_, by rw [map_modify_same (FA.setN_sl j v)]; exact h.dj⟩
  obtain ⟨k, hk⟩ := List.getElem?_of_mem hy
  rw [List.getElem?_modify] at hk
  by_cases hik : i = k
  · subst hik
    rw [hx] at hk
    simp only [Option.map_eq_map, Option.map_some, if_true, Option.some.injEq] at hk
    subst hk
    refine ⟨?_, fun z hz => ?_⟩
    · have := (hrow.stored (j * 3 + 1) (.int .i64 v)).1
      rw [cs_set v ns j hj] at this
      simpa [FA.setN] using this
    · have hz' : ∃ z0 ∈ ns, z = z0 ∨ z = NA.setN v z0 := by
        obtain ⟨m, hm⟩ := List.getElem?_of_mem hz
        simp only [FA.setN] at hm
        rw [List.getElem?_modify] at hm
        obtain ⟨z0, h0, rfl⟩ := Option.map_eq_some_iff.1 hm
        refine ⟨z0, List.mem_of_getElem? h0, ?_⟩
        split
        · exact .inr rfl
        · exact .inl rfl
      obtain ⟨z0, hz0, e⟩ := hz'
      have hz1 := (h.fns _ hxm).2 z0 hz0
      rcases e with rfl | rfl
      · exact ⟨hkp hz1.1 (by decide), hz1.2⟩
      · exact ⟨hkp hz1.1 (by decide), hz1.2.1, hv, hz1.2.2.2⟩
  · obtain ⟨y0, h0, e0⟩ := Option.map_eq_some_iff.1 hk
    rw [if_neg hik] at e0
    subst e0
    have hy0 := h.fns _ (List.mem_of_getElem? h0)
    have hne : ¬ y0.sl.ownBlock = some g := fun e => by
      have h1 : (fas.map FA.sl)[i]? = some (.slice (some ⟨g, 0, none⟩) ns.length dc) := by rw [List.getElem?_map, hx]; rfl
      have h2 : (fas.map FA.sl)[k]? = some y0.sl := by rw [List.getElem?_map, h0]; rfl
      rcases Nat.lt_or_gt_of_ne hik with hlt | hlt
      · exact pw_at h.dj h1 h2 hlt g rfl e
      · exact pw_at h.dj h2 h1 hlt g e rfl
    refine ⟨row_keep hy0.1 fun q hq hq2 => hfin.block q hq2 fun e => hne (by rw [← e]; exact hq), fun z hz => ⟨hkp (hy0.2 z hz).1 (by decide), (hy0.2 z hz).2⟩⟩
theorem us_at {us : List Us} {k : Nat} {u : Us} (h : us[k]? = some u) {j : Nat} {v : Value} (hv : (usC u)[j]? = some v) : (us.flatMap usC)[k * 4 + j]? = some v := by
  induction us generalizing k with
  | nil => simp at h
  | cons x r ih =>
    cases k with
    | zero =>
      rw [List.getElem?_cons_zero] at h
      injection h with h
      subst h
      rw [List.flatMap_cons, List.getElem?_append_left (by have := (List.getElem?_eq_some_iff.1 hv).1; simp only [usC, List.length_cons, List.length_nil] at this ⊢; omega)]
      rw [Nat.zero_mul, Nat.zero_add]
      exact hv
    | succ k =>
      rw [List.getElem?_cons_succ] at h
      rw [List.flatMap_cons, List.getElem?_append_right (by simp only [usC, List.length_cons, List.length_nil]; omega)]
      rw [show (k + 1) * 4 + j - (usC x).length = k * 4 + j by simp only [usC, List.length_cons, List.length_nil]; omega]
      exact ih h
theorem fa_at {fas : List FA} {k : Nat} {x : FA} (h : fas[k]? = some x) {j : Nat} {v : Value} (hv : (FA.cs x)[j]? = some v) : (fas.flatMap FA.cs)[k * 2 + j]? = some v := by
  induction fas generalizing k with
  | nil => simp at h
  | cons y r ih =>
    cases k with
    | zero =>
      rw [List.getElem?_cons_zero] at h
      injection h with h
      subst h
      rw [List.flatMap_cons, List.getElem?_append_left (by have := (List.getElem?_eq_some_iff.1 hv).1; simp only [FA.cs, List.length_cons, List.length_nil] at this ⊢; omega)]
      rw [Nat.zero_mul, Nat.zero_add]
      exact hv
    | succ k =>
      rw [List.getElem?_cons_succ] at h
      rw [List.flatMap_cons, List.getElem?_append_right (by simp only [FA.cs, List.length_cons, List.length_nil]; omega)]
      rw [show (k + 1) * 2 + j - (FA.cs y).length = k * 2 + j by simp only [FA.cs, List.length_cons, List.length_nil]; omega]
      exact ih h
theorem na_at {ns : List NA} {k : Nat} {x : NA} (h : ns[k]? = some x) {j : Nat} {v : Value} (hv : (NA.cs x)[j]? = some v) : (ns.flatMap NA.cs)[k * 3 + j]? = some v := by
  induction ns generalizing k with
  | nil => simp at h
  | cons y r ih =>
    cases k with
    | zero =>
      rw [List.getElem?_cons_zero] at h
      injection h with h
      subst h
      rw [List.flatMap_cons, List.getElem?_append_left (by have := (List.getElem?_eq_some_iff.1 hv).1; simp only [NA.cs, List.length_cons, List.length_nil] at this ⊢; omega)]
      rw [Nat.zero_mul, Nat.zero_add]
      exact hv
    | succ k =>
      rw [List.getElem?_cons_succ] at h
      rw [List.flatMap_cons, List.getElem?_append_right (by simp only [NA.cs, List.length_cons, List.length_nil]; omega)]
      rw [show (k + 1) * 3 + j - (NA.cs y).length = k * 3 + j by simp only [NA.cs, List.length_cons, List.length_nil]; omega]
      exact ih h
end
end Go.Proofs.YtjendlnicbieoaaGreatDoor
/-
  Package source's reader: resolve is walked.
-/
namespace Go.Proofs.YtjendlnicbieoaaGreatDoor
open Go.RowKit Go.Sort

/-- What resolve leaves. -/
def RsE (r : Except Nat (List Fn)) (lo R : Nat) (names : List Bs) (us : List Us) (vN : Value) (fa : Option Addr) (fc : Nat) (vU : Value) (w : World) (e : Ending) (w' : World) : Prop := Fr (fun q => R ≤ q) w w' ∧ match r with
  | .error n => e = WrongS n
  | .ok fs => e = .returned (.tuple #[]) ∧ EnvP w' ∧ ∃ fas', fas'.map FA.fn = fs ∧ Rv w' lo R names us fas' vN fa fc vU
set_option maxRecDepth 100000 in
set_option maxHeartbeats 4000000 in
theorem resolve_any (lo R : Nat) (names : List Bs) (us : List Us) (fas : List FA) (vN : Value) (fa : Option Addr) (fc : Nat) (vU : Value) (w : World) (h : Rv w lo R names us fas vN fa fc vU) (hRl : R < lo) (hE : EnvP w) (he3 : 3 < R)
    (hul : us.length ≤ 20000) (hnl : names.length ≤ 64) (hfl : fas.length ≤ 64) (hin : ∀ u ∈ us, ∃ x, fas[u.fn]? = some x ∧ u.nd < x.ns.length) :
    Calls Tryz.prog 61 #[.pointer (some ⟨R, 0, none⟩)] w (RsE (resol names us (fas.map FA.fn)) lo R names us vN fa fc vU w) := by
  obtain ⟨r, hrr⟩ : ∃ r, resol names us (fas.map FA.fn) = r := ⟨_, rfl⟩
  rw [hrr]
  obtain ⟨ua, uc, rfl, huc, hum, -⟩ := row_form h.rU
  obtain ⟨na, nc, rfl, -, -, -⟩ := row_form h.rN
  have c11 := h.c11
  have HRR := Lib.hid hrr
  clear hrr huc hum
  go_enter Tryz.func61, Tryz.ntmps61
  go_wp2_with fail
  clear c11
  go_loopw [3, 4, 10] (fun _ _ kv wr => ∃ (k : Nat) (fas' : List FA), kv = .int .i64 (k : Nat) ∧ k ≤ us.length ∧ resol names (us.drop k) (fas'.map FA.fn) = r ∧ Rv wr lo R names us fas' (.slice na names.length nc) fa fc (.slice ua us.length uc) ∧ Fr (fun q => R ≤ q) w wr ∧ EnvP wr ∧ fas'.length ≤ 64 ∧
      ∀ u ∈ us, ∃ x, fas'[u.fn]? = some x ∧ u.nd < x.ns.length) (fun _ _ kv _ => us.length - (intOf kv).toNat)
  case atStart => exact ⟨0, fas, rfl, Nat.zero_le _, HRR.out, h, Fr.refl _ _, hE, hfl, hin⟩
  case round =>
    obtain ⟨k, fas', rfl, hk, hrs, hv, hfr, hEr, hfl', hin'⟩ := hrel
    by_cases hlt : k < us.length
    case' neg =>
      have hd : decide ((k : Int) < us.length) = false := by simp; omega
      rw [List.drop_eq_nil_of_le (by omega)] at hrs
      have HS := Lib.hid hrs
      clear hrs hin'
      go_wp2_with fail
      go_end0
      rw [← HS.out]
      exact ⟨hfr, rfl, hEr, fas', rfl, hv⟩
    case' pos =>
      have hd : decide ((k : Int) < us.length) = true := by simp; omega
      obtain ⟨u, hu⟩ : ∃ u, us[k]? = some u := ⟨us[k], List.getElem?_eq_getElem hlt⟩
      rw [List.drop_eq_getElem_cons hlt, show us[k] = u by rw [List.getElem?_eq_getElem hlt] at hu; exact Option.some.inj hu] at hrs
      obtain ⟨x, hx, hxn⟩ := hin' u (List.mem_of_getElem? hu)
      obtain ⟨ua', uc', eU, huc, hum, hcU⟩ := row_form hv.rU
      obtain ⟨gu, eg, -, -, d0⟩ := hcU (k * 4 + 0) _ (us_at hu (j := 0) (v := .int .i64 (u.fn : Nat)) rfl)
      injection eU with eU1 _ eU3
      subst eU1 eU3 eg
      have d1 := row_c hv.rU (us_at hu (j := 1) rfl)
      have d2 := row_c hv.rU (us_at hu (j := 2) rfl)
      have d3 := row_c hv.rU (us_at hu (j := 3) rfl)
      rw [Nat.add_zero] at d0
      obtain ⟨ufn, und, uln, unm⟩ := u
      dsimp only at d0 d1 d2 d3 hrs hx hxn
      obtain ⟨S, hS⟩ : ∃ S : ByteArray, (⟨unm.toArray⟩ : ByteArray) = S := ⟨_, rfl⟩
      rw [hS] at d3
      have hSl : S.data.toList = unm := by rw [← hS]
      rw [resol] at hrs
      dsimp only at hrs
      rw [← hSl] at hrs
      have hb1 := below_new wr (.cells #[.int .i64 (ufn : Nat), .int .i64 (und : Nat), .int .i64 (uln : Nat), .string S] 152)
      have hv1 := hv.below hb1
      have hbu := Blk.new wr 152 [.int .i64 (ufn : Nat), .int .i64 (und : Nat), .int .i64 (uln : Nat), .string S]
      clear hS hSl
      go_upto_region 3 with fail
      clear d0 d1 d2 d3
      generalize wr.alloc (.cells #[.int .i64 (ufn : Nat), .int .i64 (und : Nat), .int .i64 (uln : Nat), .string S] 152) = w1 at *
      have b0 := hbu.c 0 rfl
      have b1 := hbu.c 1 rfl
      have b2 := hbu.c 2 rfl
      have b3 := hbu.c 3 rfl
      have c9 := fun d os => cell_regrown hv1.c9 d os
      have e3 := fun d os => cell_regrown b3 d os
      have hcc : ∀ (ix : Int), idxI (names.idxOf? S.data.toList) = ix → ∀ d os, Calls Tryz.prog 90 #[.slice na names.length nc, .string S] (grow (redrawn w1 d) os) fun e w'' => e = .returned (.int .i64 ix) ∧ ∃ p : Regrown, w'' = grow (redrawn w1 p.d) p.os := fun ix hix d os => by
        refine (index_any S (hv1.below (below_regrown w1 d os)).rN).mono ?_
        rintro e w'' ⟨rfl, rfl⟩
        exact ⟨by rw [← hix], ⟨d, os⟩, rfl⟩
      have hfr1 : Fr (fun q => R ≤ q) w w1 := hfr.same (Fr.belowAll hb1)
      have hE1 : EnvP w1 := hEr.fr (S := fun _ => False) (Fr.belowAll hb1) (fun h => h)
      cases hix : names.idxOf? S.data.toList with
      | none =>
        have hcn := hcc (-1) (by rw [hix]; rfl)
        rw [hix] at hrs
        dsimp only at hrs
        have HS := Lib.hid hrs
        clear hrs hcc hix b0 b1 b2 b3
        refine wp_region_quiet_below (by kernel_rfl) (by kernel_rfl) ?_
        repeat (go_big_quiet_step (exact hcn _ _))
        refine wpQuiet_nil ?_
        intro _ hw'
        obtain ⟨⟨dq, osq⟩, hw''⟩ := hw'
        subst hw''
        have hb2 := below_regrown w1 dq osq
        have b2 := (hbu.belowAll hb2).c 2 rfl
        go_wp2_with fail
        rw [← HS.out]
        exact ⟨rfl, hfr1.same (Fr.belowAll hb2), rfl⟩
      | some i =>
        have hi64 : i < 64 := by
          have := List.idxOf?_eq_some_iff.1 hix
          obtain ⟨h1, -⟩ := this
          omega
        have hcn := hcc i (by rw [hix]; rfl)
        rw [hix] at hrs
        dsimp only at hrs
        have HS := Lib.hid hrs
        clear hrs hcc hix b0 b1 b2 b3
        refine wp_region_quiet_below (by kernel_rfl) (by kernel_rfl) ?_
        repeat (go_big_quiet_step (exact hcn _ _))
        refine wpQuiet_nil ?_
        intro _ hw'
        obtain ⟨⟨dq, osq⟩, hw''⟩ := hw'
        subst hw''
        have hb2 := below_regrown w1 dq osq
        have hv2 := hv1.below hb2
        have hbu2 := hbu.belowAll hb2
        have hfr2 : Fr (fun q => R ≤ q) w (grow (redrawn w1 dq) osq) := hfr1.same (Fr.belowAll hb2)
        have hE2 : EnvP (grow (redrawn w1 dq) osq) := hE1.fr (S := fun _ => False) (Fr.belowAll hb2) (fun h => h)
        clear c9 e3 hcn
        generalize grow (redrawn w1 dq) osq = w2 at *
        have b0 := hbu2.c 0 rfl
        have b1 := hbu2.c 1 rfl
        obtain ⟨xps, xns, xda, xdc⟩ := x
        dsimp only at hxn
        have hrX := (hv2.fns _ (List.mem_of_getElem? hx)).1
        dsimp only at hrX
        obtain ⟨y, hy⟩ : ∃ y, xns[und]? = some y := ⟨xns[und], List.getElem?_eq_getElem hxn⟩
        obtain ⟨da', dc', eD, hdc1, hdc2, hcD⟩ := row_form hrX
        obtain ⟨gd, eg, hgl, hglt, k1⟩ := hcD (und * 3 + 1) _ (na_at hy (j := 1) (v := .int .i64 y.nd.n) rfl)
        injection eD with eD1 _ eD3
        subst eD1 eD3 eg
        have kz := row_fz hrX (und * 3 + 1)
        have hfn : ufn < fas'.length := (List.getElem?_eq_some_iff.1 hx).1
        obtain ⟨fa', fc', eF, hfc1, hfc2, hcF⟩ := row_form hv2.rF
        obtain ⟨gf, eg, -, -, m1⟩ := hcF (ufn * 2 + 1) _ (fa_at hx (j := 1) (v := .slice (some ⟨gd, 0, none⟩) xns.length xdc) rfl)
        injection eF with eF1 _ eF3
        subst eF1 eF3 eg
        have c10 := hv2.c10
        go_wp2_with fail
        go_region
        have hv3 := (hv2.set hRl hx hxn (i : Nat) ⟨by omega, by omega⟩).below (Below.refl _ _).drew
        have hf3 : Fr (fun q => R ≤ q) w (w2.setCell ⟨gd, und * 3 + 1, none⟩ (.int .i64 (i : Nat))).drew := (hfr2.same (Fr.set (.inl (by dsimp only; omega)))).same Fr.drew
        have hE3 : EnvP (w2.setCell ⟨gd, und * 3 + 1, none⟩ (.int .i64 (i : Nat))).drew := hE2.fr (S := fun q => q = gd) ((Fr.set (S := fun q => q = gd) (q := ⟨gd, und * 3 + 1, none⟩) (.inl rfl)).same Fr.drew) (by omega)
        clear b0 b1 k1 kz m1 c10
        generalize (w2.setCell ⟨gd, und * 3 + 1, none⟩ (.int .i64 (i : Nat))).drew = w3 at *
        go_wp2_with fail
        go_roundw
        case' rel =>
          refine ⟨k + 1, fas'.modify ufn (FA.setN und i), by go_num, by omega, by rw [setN_map]; exact HS.out, hv3, hf3, hE3, by simpa using hfl', fun u hu => ?_⟩
          obtain ⟨x, h1, h2⟩ := hin' u hu
          by_cases e : ufn = u.fn
          · refine ⟨x.setN und i, ?_, by simpa [FA.setN] using h2⟩
            rw [List.getElem?_modify, h1, e]
            simp
          · refine ⟨x, ?_, h2⟩
            rw [List.getElem?_modify, h1]
            simp [e]
        case' measure =>
          show us.length - ((k : Int) + 1).toNat < us.length - ((k : Nat) : Int).toNat
          omega
end Go.Proofs.YtjendlnicbieoaaGreatDoor
