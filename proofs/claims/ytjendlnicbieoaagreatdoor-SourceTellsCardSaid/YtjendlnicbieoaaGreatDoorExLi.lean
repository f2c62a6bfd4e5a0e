/-
  Package source's reader: what stands in its rows while an expression is read; expression's contract.
-/
import Derived.Test.YtjendlnicbieoaaGreatDoorUsKx
import Derived.Test.YtjendlnicbieoaaGreatDoorPlC
namespace Go.Proofs.YtjendlnicbieoaaGreatDoor
open Go.RowKit Go.Sort

/-- A node and where its children's row lies. -/
structure NA where
  nd : Nd
  la : Option Addr
  lc : Nat
def NA.cs (x : NA) : List Value := [.int .i64 x.nd.op, .int .i64 x.nd.n, .slice x.la x.nd.l.length x.lc]
def NA.sl (x : NA) : Value := .slice x.la x.nd.l.length x.lc
def intsV (l : List Int) : List Value := l.map fun i => .int .i64 i
def strsV (l : List Bs) : List Value := l.map fun v => .string ⟨v.toArray⟩
def NA.Ok (w : World) (lo : Nat) (x : NA) : Prop := w.ownsRow lo 3 1 (.slice x.la x.nd.l.length x.lc) x.nd.l.length (intsV x.nd.l) ∧ Rng x.nd.op ∧ Rng x.nd.n ∧ ∀ y ∈ x.nd.l, Rng y
/-- The reader before tokens; its rows. -/
structure St (w : World) (lo R : Nat) (s : ByteArray) (ts : List Tk) (vN : Value) (fa : Option Addr) (fi fc : Nat) (us : List Us) (ns : List NA) (vs : List Bs) (vU vD vV : Value) : Prop where
  rd : Rdr w R s ts [vN, .slice fa fi fc, vU, vD, vV]
  ru : w.ownsRow lo 152 4 vU us.length (us.flatMap usC)
  rn : w.ownsRow lo 59 3 vD ns.length (ns.flatMap NA.cs)
  rv : w.ownsRow lo 9 1 vV vs.length (strsV vs)
  kids : ∀ x ∈ ns, x.Ok w lo
/-- What a call may turn. -/
def Sx (R : Nat) (vU vD vV : Value) (k : Nat) : Prop := k = R ∨ vU.ownBlock = some k ∨ vD.ownBlock = some k ∨ vV.ownBlock = some k
/-- A row's own block afterwards: the old one or a new one. -/
def Own2 (w : World) (v v' : Value) : Prop := ∀ q, v'.ownBlock = some q → v.ownBlock = some q ∨ w.heap.size ≤ q
theorem Own2.refl (w : World) (v : Value) : Own2 w v v := fun _ h => .inl h
theorem Own2.trans {w w' : World} {v v' v'' : Value} (h1 : Own2 w v v') (h2 : Own2 w' v' v'') (hs : w.heap.size ≤ w'.heap.size) : Own2 w v v'' := fun q hq => by
  rcases h2 q hq with h | h
  · exact h1 q h
  · exact .inr (by omega)
/-- Frames one after the other, the second one's rows being the first one's or new. -/
theorem Fr.sx {w w' w'' : World} {R : Nat} {vU vD vV vU' vD' vV' : Value} (h1 : Fr (Sx R vU vD vV) w w') (h2 : Fr (Sx R vU' vD' vV') w' w'') (oU : Own2 w vU vU') (oD : Own2 w vD vD') (oV : Own2 w vV vV') : Fr (Sx R vU vD vV) w w'' := by
  refine h1.trans h2 fun k hk h => ?_
  rcases h with h | h | h | h
  · exact .inl h
  · exact (oU k h).elim (fun h => .inr (.inl h)) (fun h => by omega)
  · exact (oD k h).elim (fun h => .inr (.inr (.inl h))) (fun h => by omega)
  · exact (oV k h).elim (fun h => .inr (.inr (.inr h))) (fun h => by omega)
/-- Blocks of different types are different. -/
theorem rows_ne {w : World} {lo lo' n n' sz sz' : Nat} {T T' : TypeId} {v v' : Value} {xs xs' : List Value} (h : w.ownsRow lo T sz v n xs) (h' : w.ownsRow lo' T' sz' v' n' xs') (hT : T ≠ T') : ∀ q, v.ownBlock = some q → ¬ v'.ownBlock = some q := by
  intro q hq hq'
  rcases h.2 with ⟨rfl, -⟩ | ⟨g, c, cu, rfl, -, hg, -⟩
  · cases hq
  · rcases h'.2 with ⟨rfl, -⟩ | ⟨g', c', cu', rfl, -, hg', -⟩
    · cases hq'
    · simp only [Value.ownBlock, Option.some.injEq] at hq hq'
      subst hq
      rw [show g' = g from hq'] at hg'
      rw [hg] at hg'
      injection hg' with hg'
      injection hg' with _ h2 _
      exact hT h2
section
variable {w w' : World} {lo R : Nat} {s : ByteArray} {ts : List Tk} {vN : Value} {fa : Option Addr} {fi fc : Nat} {us : List Us} {ns : List NA} {vs : List Bs} {vU vD vV : Value} {S : Nat → Prop}
theorem NA.Ok.fr {x : NA} (h : x.Ok w lo) (hf : Fr S w w') (hS : ∀ q, (Value.slice x.la x.nd.l.length x.lc).ownBlock = some q → ¬ S q) : x.Ok w' lo := ⟨row_keep h.1 fun q hq hq2 => hf.block q hq2 (hS q hq), h.2⟩
/-- A frame that touches none of the reader's blocks. -/
theorem St.below (h : St w lo R s ts vN fa fi fc us ns vs vU vD vV) (hb : Below w.heap.size w w') : St w' lo R s ts vN fa fi fc us ns vs vU vD vV :=
  ⟨h.rd.belowAll hb, row_keep h.ru fun q _ hq => hb.block q hq, row_keep h.rn fun q _ hq => hb.block q hq, row_keep h.rv fun q _ hq => hb.block q hq, fun x hx => ⟨row_keep (h.kids x hx).1 fun q _ hq => hb.block q hq, (h.kids x hx).2⟩⟩
/-- move and need: only the reader's own block turns. -/
theorem St.moved {ts' : List Tk} (h : St w lo R s ts vN fa fi fc us ns vs vU vD vV) (hR : R < lo) (hf : FrB R w w') (hr : Rdr w' R s ts' [vN, .slice fa fi fc, vU, vD, vV]) : St w' lo R s ts' vN fa fi fc us ns vs vU vD vV := by
  have hk : ∀ {T : TypeId} {sz n : Nat} {v : Value} {xs : List Value}, w.ownsRow lo T sz v n xs → w'.ownsRow lo T sz v n xs := fun hrow => row_keep hrow fun q hq hq2 => hf.block q hq2 (by have := row_base hrow q hq; omega)
  exact ⟨hr, hk h.ru, hk h.rn, hk h.rv, fun x hx => ⟨hk (h.kids x hx).1, (h.kids x hx).2⟩⟩
/-- Only a row of numbers turns that is none of the nodes'. -/
theorem St.ints (h : St w lo R s ts vN fa fi fc us ns vs vU vD vV) (hR : R < lo) {n : Nat} {v : Value} {xs : List Value} (hv : w.ownsRow lo 3 1 v n xs) (hf : Fr (fun q => v.ownBlock = some q) w w') (hk : ∀ x ∈ ns, ∀ q, x.sl.ownBlock = some q → ¬ v.ownBlock = some q) : St w' lo R s ts vN fa fi fc us ns vs vU vD vV :=
  ⟨h.rd.fr hf fun e => by have := row_base hv R e; omega,
    row_keep h.ru fun q hq hq2 => hf.block q hq2 (rows_ne h.ru hv (by decide) q hq), row_keep h.rn fun q hq hq2 => hf.block q hq2 (rows_ne h.rn hv (by decide) q hq), row_keep h.rv fun q hq hq2 => hf.block q hq2 (rows_ne h.rv hv (by decide) q hq),
    fun x hx => (h.kids x hx).fr hf (hk x hx)⟩
/-- A row of numbers is none of what a call may turn. -/
theorem St.ints_no (h : St w lo R s ts vN fa fi fc us ns vs vU vD vV) (hR : R < lo) {n : Nat} {v : Value} {xs : List Value} (hv : w.ownsRow lo 3 1 v n xs) (q : Nat) (hq : v.ownBlock = some q) : ¬ Sx R vU vD vV q := by
  rintro (e | e | e | e)
  · have := row_base hv q hq; omega
  · exact rows_ne h.ru hv (by decide) q e hq
  · exact rows_ne h.rn hv (by decide) q e hq
  · exact rows_ne h.rv hv (by decide) q e hq
end
/-- What a call of expression leaves. -/
def ExE (r : PR) (lo R : Nat) (s : ByteArray) (vN : Value) (fa : Option Addr) (fi fc : Nat) (us : List Us) (ns : List NA) (vs : List Bs) (vU vD vV : Value) (w : World) (e : Ending) (w' : World) : Prop :=
  Fr (Sx R vU vD vV) w w' ∧ match r with
    | .error n => e = WrongS n
    | .ok x => EnvP w' ∧ e = .returned (.int .i64 (ns.length : Nat)) ∧ ∃ (ns' : List NA) (vU' vD' vV' : Value), ns'.map NA.nd = flat ns.length x.1 ∧
      St w' lo R s x.2.2 vN fa fi fc (us ++ x.2.1) (ns ++ ns') vs vU' vD' vV' ∧ Own2 w vU vU' ∧ Own2 w vD vD' ∧ Own2 w vV vV' ∧ ∀ x ∈ ns', ∀ q, x.sl.ownBlock = some q → w.heap.size ≤ q
/-- expression reads what it shall, for tokens of at most that number. -/
def ExC (f : Nat) : Prop := ∀ (lo R : Nat) (s : ByteArray) (ts : List Tk) (vN : Value) (fa : Option Addr) (fi fc : Nat) (us : List Us) (ns : List NA) (vs : List Bs) (vU vD vV : Value) (w : World),
  ts.length ≤ f → St w lo R s ts vN fa fi fc us ns vs vU vD vV → us.length ≤ 200 * fi + ns.length → fi ≤ 64 → ns.length ≤ 200 → vs.length ≤ 9 + ns.length → R < lo → lo ≤ w.heap.size → s.size ≤ 4000000 → EnvP w → 3 < R →
  Calls Tryz.prog 89 #[.pointer (some ⟨R, 0, none⟩)] w (ExE (pE fi f vs ns.length ts) lo R s vN fa fi fc us ns vs vU vD vV w)
end Go.Proofs.YtjendlnicbieoaaGreatDoor
/-
  Package source's reader, plain: how much an expression that was read takes.
-/
namespace Go.Proofs.YtjendlnicbieoaaGreatDoor

theorem mv_le (ts : List Tk) : (mv ts).length ≤ ts.length := by
  match ts with
  | [] => exact Nat.le_refl _
  | [_] => exact Nat.le_refl _
  | _ :: u :: r => simp [mv]
theorem szF_app : ∀ x y : Fo, sizeF (x.app y) = sizeF x + sizeF y
  | .nil, y => by simp [Fo.app, sizeF]
  | .cons c op n k r, y => by simp [Fo.app, sizeF, szF_app r y]; omega
/-- What an expression from a on took: the tokens left are no more, its places no more than its nodes, its nodes have room. -/
def Tk3 (a : Nat) (ts : List Tk) (x : Fo × List Us × List Tk) : Prop := x.2.2.length ≤ ts.length ∧ x.2.1.length ≤ sizeF x.1 ∧ a + sizeF x.1 ≤ 200
theorem pMore_tk {e : Nat → List Tk → PR} (he : ∀ a ts x, e a ts = .ok x → Tk3 a ts x) : ∀ (f a : Nat) (d : Fo) (us : List Us) (ts : List Tk) (x : Fo × List Us × List Tk), us.length ≤ sizeF d → pMore e f a d us ts = .ok x →
    x.2.2.length ≤ ts.length ∧ x.2.1.length ≤ sizeF x.1 ∧ a + sizeF x.1 ≤ 200 + sizeF d
  | 0, a, d, us, ts, x, hu, h => by cases h
  | f + 1, a, d, us, ts, x, hu, h => by
    rw [pMore] at h
    obtain ⟨y, h1, h⟩ := sub_is h
    obtain ⟨y1, y2, y3⟩ := he _ _ _ h1
    have hs := szF_app d y.1
    split at h
    · obtain ⟨z1, z2, z3⟩ := pMore_tk he f _ _ _ _ _ (by rw [List.length_append, hs]; omega) h
      have := mv_le y.2.2
      exact ⟨by omega, z2, by omega⟩
    · injection h with h
      subst h
      refine ⟨y1, ?_, ?_⟩
      · rw [List.length_append, hs]; omega
      · dsimp only; rw [hs]; omega
theorem pList_tk {e : Nat → List Tk → PR} (he : ∀ a ts x, e a ts = .ok x → Tk3 a ts x) {f a : Nat} {ts : List Tk} {x : Fo × List Us × List Tk} (ha : a ≤ 200) (h : pList e f a ts = .ok x) : Tk3 a ts x := by
  unfold pList at h
  obtain ⟨-, h⟩ := need_is h
  obtain ⟨y, h1, h⟩ := sub_is h
  obtain ⟨-, h⟩ := need_is h
  injection h with h
  subst h
  have m1 := mv_le ts
  have m2 := mv_le y.2.2
  split at h1
  · injection h1 with h1
    subst h1
    exact ⟨by dsimp only at m2 ⊢; omega, Nat.le_refl _, ha⟩
  · obtain ⟨z1, z2, z3⟩ := pMore_tk he _ _ _ _ _ _ (Nat.le_refl _) h1
    simp only [sizeF] at z3
    exact ⟨by dsimp only; omega, z2, by dsimp only; omega⟩
theorem pNode_tk {e : List Bs → Nat → List Tk → PR} (he : ∀ vs a ts x, e vs a ts = .ok x → Tk3 a ts x) {f fi : Nat} {vs : List Bs} {a : Nat} (ha : a < 200) {ts : List Tk} {x : Fo × List Us × List Tk} (h : pNode e f fi vs a ts = .ok x) : Tk3 a ts x := by
  have m0 := mv_le ts
  have m1 := mv_le (mv ts)
  have leaf : ∀ op n, Tk3 a ts (.cons a op n .nil .nil, [], mv ts) := fun op n => ⟨m0, Nat.zero_le _, by simp [sizeF]; omega⟩
  have named : ∀ op ts', ts'.length ≤ ts.length → pNamed (e vs) f fi a op ts' = .ok x → Tk3 a ts x := by
    intro op ts' hl h
    unfold pNamed at h
    obtain ⟨-, h⟩ := need_is h
    obtain ⟨y, h1, h⟩ := sub_is h
    obtain ⟨y1, y2, y3⟩ := pList_tk (he vs) (by omega) h1
    have := mv_le ts'
    injection h with h
    subst h
    exact ⟨by dsimp only; omega, by simp only [List.length_cons, sizeF]; omega, by simp only [sizeF]; omega⟩
  unfold pNode at h
  split at h
  · injection h with h
    rw [← h]
    exact leaf _ _
  · split at h
    · cases h
    · split at h
      · unfold pKey at h
        split at h
        · cases h
        split at h
        · unfold pLet at h
          obtain ⟨-, h⟩ := need_is h
          obtain ⟨-, h⟩ := need_is h
          obtain ⟨y, h1, h⟩ := sub_is h
          obtain ⟨-, h⟩ := need_is h
          obtain ⟨z, h2, h⟩ := sub_is h
          obtain ⟨y1, y2, y3⟩ := he _ _ _ _ h1
          obtain ⟨z1, z2, z3⟩ := he _ _ _ _ h2
          have := mv_le y.2.2
          have := mv_le (mv (mv ts))
          injection h with h
          subst h
          refine ⟨?_, ?_, ?_⟩
          all_goals simp only [List.length_append, sizeF, szF_app]
          all_goals omega
        split at h
        · unfold pIf at h
          obtain ⟨y, h1, h⟩ := sub_is h
          obtain ⟨-, h⟩ := need_is h
          obtain ⟨z, h2, h⟩ := sub_is h
          obtain ⟨-, h⟩ := need_is h
          obtain ⟨u, h3, h⟩ := sub_is h
          obtain ⟨y1, y2, y3⟩ := he _ _ _ _ h1
          obtain ⟨z1, z2, z3⟩ := he _ _ _ _ h2
          obtain ⟨u1, u2, u3⟩ := he _ _ _ _ h3
          have := mv_le y.2.2
          have := mv_le z.2.2
          injection h with h
          subst h
          refine ⟨?_, ?_, ?_⟩
          all_goals simp only [List.length_append, sizeF, szF_app]
          all_goals omega
        split at h
        · unfold pOne at h
          obtain ⟨-, h⟩ := need_is h
          obtain ⟨y, h1, h⟩ := sub_is h
          obtain ⟨-, h⟩ := need_is h
          obtain ⟨y1, y2, y3⟩ := he _ _ _ _ h1
          have := mv_le y.2.2
          injection h with h
          subst h
          refine ⟨?_, ?_, ?_⟩
          all_goals simp only [sizeF]
          all_goals omega
        split at h
        · unfold pTwo at h
          obtain ⟨-, h⟩ := need_is h
          obtain ⟨y, h1, h⟩ := sub_is h
          obtain ⟨-, h⟩ := need_is h
          obtain ⟨z, h2, h⟩ := sub_is h
          obtain ⟨-, h⟩ := need_is h
          obtain ⟨y1, y2, y3⟩ := he _ _ _ _ h1
          obtain ⟨z1, z2, z3⟩ := he _ _ _ _ h2
          have := mv_le y.2.2
          have := mv_le z.2.2
          injection h with h
          subst h
          refine ⟨?_, ?_, ?_⟩
          all_goals simp only [List.length_append, sizeF, szF_app]
          all_goals omega
        split at h
        · unfold pMany at h
          obtain ⟨y, h1, h⟩ := sub_is h
          obtain ⟨y1, y2, y3⟩ := pList_tk (he vs) (by omega) h1
          injection h with h
          subst h
          refine ⟨?_, ?_, ?_⟩
          all_goals simp only [sizeF]
          all_goals omega
        split at h
        · exact named _ _ m0 h
        · injection h with h
          rw [← h]
          exact leaf _ _
      · split at h
        · exact named _ _ (Nat.le_refl _) h
        · split at h
          · injection h with h
            rw [← h]
            exact leaf _ _
          · cases h
theorem pE_tk {fi : Nat} : ∀ (f : Nat) (vs : List Bs) (a : Nat) (ts : List Tk) (x : Fo × List Us × List Tk), pE fi f vs a ts = .ok x → Tk3 a ts x
  | 0, vs, a, ts, x, h => by cases h
  | f + 1, vs, a, ts, x, h => by
    rw [pE] at h
    split at h
    · cases h
    · exact pNode_tk (fun vs a ts x => pE_tk f vs a ts x) (by omega) h
end Go.Proofs.YtjendlnicbieoaaGreatDoor
/-
  Package source's reader: list, where expression reads what it shall.
-/
namespace Go.Proofs.YtjendlnicbieoaaGreatDoor
open Go.RowKit Go.Sort

theorem need_yes {R : Nat} {s : ByteArray} {ts : List Tk} {tl : List Value} {w : World} (h : Rdr w R s ts tl) (hs : s.size ≤ 4000000) (hE : EnvP w) (hb3 : R ≠ 3) :
    Calls Tryz.prog 83 #[.pointer (some ⟨R, 0, none⟩), .bool true] w (MoveE R s ts tl w) := by
  refine (need_any true R s ts tl w h hs hE hb3).mono ?_
  intro e w' he
  unfold NeedE at he
  rwa [if_pos rfl] at he
theorem need_no {R : Nat} {s : ByteArray} {ts : List Tk} {tl : List Value} {w : World} (h : Rdr w R s ts tl) (hs : s.size ≤ 4000000) (hE : EnvP w) (hb3 : R ≠ 3) :
    Calls Tryz.prog 83 #[.pointer (some ⟨R, 0, none⟩), .bool false] w fun e w' => e = .panicked [{ v := .iface 119 (.int .i64 ((hd ts).ln : Nat)), recovered := false }] ∧ w = w' := by
  refine (need_any false R s ts tl w h hs hE hb3).mono ?_
  intro e w' he
  unfold NeedE at he
  rwa [if_neg (by simp)] at he
/-- What stays so while the reader reads. -/
structure RdOk (lo R : Nat) (s : ByteArray) (w : World) : Prop where
  rl : R < lo
  ll : lo ≤ w.heap.size
  sz : s.size ≤ 4000000
  E : EnvP w
  e3 : 3 < R
theorem RdOk.ne {lo R : Nat} {s : ByteArray} {w : World} (h : RdOk lo R s w) : R ≠ 3 := by have := h.e3; omega
theorem RdOk.to {lo R : Nat} {s : ByteArray} {w w' : World} (h : RdOk lo R s w) (hE : EnvP w') (hs : w.heap.size ≤ w'.heap.size) : RdOk lo R s w' := ⟨h.rl, Nat.le_trans h.ll hs, h.sz, hE, h.e3⟩
theorem Rdr.mv_lt {w : World} {R : Nat} {s : ByteArray} {ts : List Tk} {tl : List Value} (h : Rdr w R s ts tl) (hk : (hd ts).k ≠ 0) : (mv ts).length < ts.length := by
  obtain ⟨i, n, k1, S1, l1, k2, S2, l2, hl, hi, hn, hl1, hl2, hk1, hk2, hts, e2, e1⟩ := h.at_
  rw [hts, strm_hd] at hk
  rw [hts]
  unfold strm
  rw [if_neg hk]
  split <;> simp [mv]
theorem Rdr.ne_nil {w : World} {R : Nat} {s : ByteArray} {ts : List Tk} {tl : List Value} (h : Rdr w R s ts tl) : 1 ≤ ts.length := by
  obtain ⟨i, n, k1, S1, l1, k2, S2, l2, hl, hi, hn, hl1, hl2, hk1, hk2, hts, e2, e1⟩ := h.at_
  rw [hts]
  unfold strm
  split <;> simp
theorem isM_ne0 {c : UInt8} {ts : List Tk} (h : isM c ts = true) : (hd ts).k ≠ 0 := by
  unfold isM at h
  simp only [Bool.and_eq_true, beq_iff_eq] at h
  omega
def lenV : Value → Nat
  | .slice _ n _ => n
  | _ => 0
/-- The state of list's loop: the trees read so far. -/
structure LiI (e : Nat → List Tk → PR) (f g : Nat) (d : Fo) (us' : List Us) (ns' : List NA) (ts0 ts : List Tk) (la : Option Addr) (lc : Nat) (lo R : Nat) (s : ByteArray) (vN : Value) (fa : Option Addr) (fi fc : Nat) (us : List Us) (ns : List NA) (vs : List Bs) (vU vD vV vU' vD' vV' : Value) (w wr : World) : Prop where
  p : pMore e f ns.length .nil [] ts0 = pMore e g (ns.length + sizeF d) d us' ts
  g : ts.length ≤ g
  tl : ts.length ≤ f
  u : us'.length ≤ sizeF d
  z : ns.length + sizeF d ≤ 200
  fr : Fr (Sx R vU vD vV) w wr
  E : EnvP wr
  nd : ns'.map NA.nd = flat ns.length d
  row : wr.ownsRow lo 3 1 (.slice la (roots ns.length d).length lc) (roots ns.length d).length (intsV (roots ns.length d))
  st : St wr lo R s ts vN fa fi fc (us ++ us') (ns ++ ns') vs vU' vD' vV'
  oU : Own2 w vU vU'
  oD : Own2 w vD vD'
  oV : Own2 w vV vV'
  on : ∀ q, (Value.slice la (roots ns.length d).length lc).ownBlock = some q → w.heap.size ≤ q ∧ ∀ x ∈ ns', ¬ x.sl.ownBlock = some q
  kn : ∀ x ∈ ns', ∀ q, x.sl.ownBlock = some q → w.heap.size ≤ q
theorem roots_le : ∀ (t : Fo) (a : Nat), (roots a t).length ≤ sizeF t
  | .nil, _ => Nat.le_refl _
  | .cons _ _ _ k r, a => by
    have := roots_le r (a + 1 + sizeF k)
    simp only [roots, List.length_cons, sizeF]
    omega
/-- What a call of list leaves. -/
def LiE (r : PR) (lo R : Nat) (s : ByteArray) (vN : Value) (fa : Option Addr) (fi fc : Nat) (us : List Us) (ns : List NA) (vs : List Bs) (vU vD vV : Value) (w : World) (e : Ending) (w' : World) : Prop :=
  Fr (Sx R vU vD vV) w w' ∧ match r with
    | .error n => e = WrongS n
    | .ok x => EnvP w' ∧ ∃ (ns' : List NA) (vU' vD' vV' : Value) (la : Option Addr) (lc : Nat), e = .returned (.slice la (roots ns.length x.1).length lc) ∧ ns'.map NA.nd = flat ns.length x.1 ∧
      w'.ownsRow lo 3 1 (.slice la (roots ns.length x.1).length lc) (roots ns.length x.1).length (intsV (roots ns.length x.1)) ∧
      St w' lo R s x.2.2 vN fa fi fc (us ++ x.2.1) (ns ++ ns') vs vU' vD' vV' ∧ Own2 w vU vU' ∧ Own2 w vD vD' ∧ Own2 w vV vV' ∧
      (∀ q, (Value.slice la (roots ns.length x.1).length lc).ownBlock = some q → w.heap.size ≤ q ∧ ∀ x ∈ ns', ¬ x.sl.ownBlock = some q) ∧ ∀ x ∈ ns', ∀ q, x.sl.ownBlock = some q → w.heap.size ≤ q
set_option maxRecDepth 100000 in
set_option maxHeartbeats 4000000 in
theorem list_any (f : Nat) (hC : ExC f) (lo R : Nat) (s : ByteArray) (ts : List Tk) (vN : Value) (fa : Option Addr) (fi fc : Nat) (us : List Us) (ns : List NA) (vs : List Bs) (vU vD vV : Value) (w : World)
    (hl : ts.length ≤ f) (h : St w lo R s ts vN fa fi fc us ns vs vU vD vV) (hul : us.length ≤ 200 * fi + ns.length) (hfi : fi ≤ 64) (hnl : ns.length ≤ 200) (hvl : vs.length ≤ 9 + ns.length) (hr : RdOk lo R s w) :
    Calls Tryz.prog 121 #[.pointer (some ⟨R, 0, none⟩)] w (LiE (pList (pE fi f vs) f ns.length ts) lo R s vN fa fi fc us ns vs vU vD vV w) := by
  have hM := isMark_any R s ts _ w h.rd
  cases hm : isM 40 ts with
  | false =>
    have hN := need_no h.rd hr.sz hr.E hr.ne
    have hM1 := hM ⟨#[40]⟩ 40 rfl
    rw [hm] at hM1
    have HM := Lib.hid hm
    clear hM hm
    go_enter Tryz.func121, Tryz.ntmps121
    go_wp2_with first
      | (go_at_call 88; refine hM1.mono ?_; rintro e w1 ⟨rfl, rfl⟩)
      | (go_at_call 83; refine hN.mono ?_; rintro e w1 ⟨rfl, rfl⟩)
    refine ⟨rfl, Fr.refl _ _, ?_⟩
    unfold pList need
    rw [HM.out]
    rfl
  | true =>
    have hN := need_yes h.rd hr.sz hr.E hr.ne
    have hM1 := hM ⟨#[40]⟩ 40 rfl
    rw [hm] at hM1
    have HM := Lib.hid hm
    clear hM hm
    go_enter Tryz.func121, Tryz.ntmps121
    go_upto_region 3 with first
      | (go_at_call 88; refine hM1.mono ?_; rintro e w1 ⟨rfl, rfl⟩)
      | (go_at_call 83; refine hN.mono ?_; rintro e w1 ⟨rfl, hf1, hE1, hR1⟩)
    have h1 := h.moved hr.rl hf1 hR1
    have hr1 := hr.to hE1 hf1.size
    have hM2 := isMark_any R s _ _ w1 h1.rd ⟨#[41]⟩ 41 rfl
    cases hm2 : isM 41 (mv ts) with
    | true =>
      have hN2 := need_yes h1.rd hr1.sz hr1.E hr1.ne
      rw [hm2] at hM2
      have HM2 := Lib.hid hm2
      clear hM1 hN hm2
      go_wp2_with first
        | (go_at_call 88; refine hM2.mono ?_; rintro e w2 ⟨rfl, rfl⟩)
        | (go_at_call 83; refine hN2.mono ?_; rintro e w2 ⟨rfl, hf2, hE2, hR2⟩)
      go_ret
      refine ⟨(hf1.same hf2).more fun k _ h => .inl h, ?_⟩
      have hp : pList (pE fi f vs) f ns.length ts = .ok (.nil, [], mv (mv ts)) := by
        unfold pList need
        simp only [HM.out, HM2.out, if_true, sub]
      rw [hp]
      exact ⟨hE2, [], vU, vD, vV, none, 0, rfl, rfl, row_none _ _ _ _, by simpa using h1.moved hr.rl hf2 hR2, Own2.refl _ _, Own2.refl _ _, Own2.refl _ _, fun q hq => (by cases hq), fun x hx => (by cases hx)⟩
    | false =>
      rw [hm2] at hM2
      obtain ⟨e0, he0⟩ : ∃ e, pE fi f vs = e := ⟨_, rfl⟩
      have htk : ∀ a ts x, e0 a ts = .ok x → Tk3 a ts x := by
        subst he0
        exact fun a ts x h => pE_tk f vs a ts x h
      rw [he0]
      have HP : Hid (pList e0 f ns.length ts = sub (pMore e0 f ns.length .nil [] (mv ts)) fun x => need (isM 41 x.2.2) x.2.2 fun ts2 => .ok (x.1, x.2.1, ts2)) := by
        show _ = _
        unfold pList
        rw [need, if_pos HM.out, hm2]
        rfl
      have hlm := mv_le ts
      have HE0 := Lib.hid he0
      clear hM1 hN hm2 he0
      go_wp2_with first
        | (go_at_call 88; refine hM2.mono ?_; rintro e w2 ⟨rfl, rfl⟩)
      go_loopw [3] (fun lv wr => ∃ (g : Nat) (d : Fo) (us' : List Us) (ns' : List NA) (tr : List Tk) (la : Option Addr) (lc : Nat) (vU' vD' vV' : Value), lv = .slice la (roots ns.length d).length lc ∧ LiI e0 f g d us' ns' (mv ts) tr la lc lo R s vN fa fi fc us ns vs vU vD vV vU' vD' vV' w wr) (fun lv _ => 300 - lenV lv)
      case atStart =>
        refine ⟨f, .nil, [], [], mv ts, none, 0, vU, vD, vV, rfl, ?_⟩
        exact ⟨rfl, by omega, by omega, Nat.le_refl _, hnl, hf1.more fun k _ h => .inl h, hE1, rfl, row_none _ _ _ _, by simpa using h1, Own2.refl _ _, Own2.refl _ _, Own2.refl _ _, fun q hq => (by cases hq), fun x hx => (by cases hx)⟩
      case round =>
        obtain ⟨g, d, us', ns', tr, la, lc, vU', vD', vV', rfl, hI⟩ := hrel
        have hnl' : ns'.length = sizeF d := by have := congrArg List.length hI.nd; rwa [List.length_map, flat_length] at this
        have hz := hI.fr.size
        have hzz := hI.z
        have hu := hI.u
        have hCal := hC lo R s tr vN fa fi fc (us ++ us') (ns ++ ns') vs vU' vD' vV' wr hI.tl hI.st (by simp only [List.length_append]; omega) hfi (by simp only [List.length_append]; omega) (by simp only [List.length_append]; omega) hr.rl (Nat.le_trans hr.ll hz) hr.sz hI.E hr.e3
        rw [List.length_append, hnl', HE0.out] at hCal
        have hg1 := Nat.le_trans hI.st.rd.ne_nil hI.g
        obtain ⟨g, rfl⟩ : ∃ g0, g = g0 + 1 := ⟨g - 1, by omega⟩
        cases hx : e0 (ns.length + sizeF d) tr with
        | error n =>
          rw [hx] at hCal
          unfold ExE WrongS at hCal
          dsimp only at hCal
          have HPE : Hid (pList e0 f ns.length ts = .error n) := by
            show _ = _
            rw [HP.out, hI.p, pMore, hx]
            rfl
          clear hx
          go_wp2_with (go_at_call 89; refine hCal.mono ?_; rintro e w3 ⟨hf3, rfl⟩)
          refine ⟨rfl, hI.fr.sx hf3 hI.oU hI.oD hI.oV, ?_⟩
          rw [HE0.out, HPE.out]
          rfl
        | ok x =>
          rw [hx] at hCal
          unfold ExE at hCal
          dsimp only at hCal
          obtain ⟨x1, x2, x3⟩ := htk _ _ _ hx
          have hone : cntF x.1 = 1 := pE_one (by rw [HE0.out]; exact hx)
          have hro := roots_one hone (ns.length + sizeF d)
          have hrd : roots ns.length (d.app x.1) = roots ns.length d ++ [((ns.length + sizeF d : Nat) : Int)] := by rw [roots_app, hro]
          have hrl := roots_le d ns.length
          have HPE : Hid (pMore e0 f ns.length .nil [] (mv ts) = if isM 44 x.2.2 = true then pMore e0 g (ns.length + sizeF (d.app x.1)) (d.app x.1) (us' ++ x.2.1) (mv x.2.2) else .ok (d.app x.1, us' ++ x.2.1, x.2.2)) := by
            show _ = _
            rw [hI.p, pMore, hx, szF_app, ← Nat.add_assoc]
            rfl
          clear hx
          simp only [List.length_append, hnl'] at hCal
          go_upto_region 5 with first
            | (go_at_call 89; refine hCal.mono ?_; rintro e w3 ⟨hf3, hE3, rfl, nx, vU3, vD3, vV3, hnd3, hst3, oU3, oD3, oV3, kn3⟩; have hrow3 := row_keep hI.row fun q hq hq2 => hf3.block q hq2 (hI.st.ints_no hr.rl hI.row q hq); have hz3 := hf3.size; have hnw3 := heap_alloc_new w3 (.cells #[.int .i64 ((ns.length + sizeF d : Nat) : Int)] 3); have hll3 := hr.ll)
            | (at_builtin; refine wpList_row _ rfl (.tmp 11) (.tmp 14) 57 3 _ 1 8 Tryz.underlying57 int_info rfl (by decide) (by decide) rfl lo (.slice la (roots ns.length d).length lc) (roots ns.length d).length (intsV (roots ns.length d)) rfl (hrow3.alloc _) w3.heap.size [.int .i64 ((ns.length + sizeF d : Nat) : Int)] rfl hnw3 rfl (by intro u hu; simp at hu; subst hu; rfl) (by omega) (by simp only [World.size_alloc]; omega) ?_; intro g' cap' w5 hr5 hg5 ha5)
          have hfr5 : Fr (fun q => (Value.slice la (roots ns.length d).length lc).ownBlock = some q) w3 w5 := (Fr.alloc _).same (Fr.grown hg5 fun g hg => .inl hg)
          have hlo1 := hI.on
          have hll1 := hI.row.lt
          have hst5 := hst3.ints hr.rl hrow3 hfr5 (by
            intro y hy q hq hq2
            rcases List.mem_append.1 hy with hy | hy
            · rcases List.mem_append.1 hy with hy | hy
              · have h1 := ((h.kids y hy).1.lt q hq).2
                have h2 := (hlo1 q hq2).1
                omega
              · exact (hlo1 q hq2).2 y hy hq
            · have h1 := kn3 y hy q hq
              have h2 := (hll1 q hq2).2
              omega)
          have hE5 : EnvP w5 := hE3.fr hfr5 fun hq => by have h1 := (hll1 _ hq).1; have h2 := hr.e3; have h3 := hr.rl; omega
          have hrow5 : w5.ownsRow lo 3 1 (.slice (some ⟨g', 0, none⟩) (roots ns.length (d.app x.1)).length cap') (roots ns.length (d.app x.1)).length (intsV (roots ns.length (d.app x.1))) := by
            rw [hrd]
            simpa [intsV] using hr5
          have hon5 : ∀ q, (Value.slice (some ⟨g', 0, none⟩) (roots ns.length (d.app x.1)).length cap').ownBlock = some q → w.heap.size ≤ q ∧ ∀ y ∈ ns' ++ nx, ¬ y.sl.ownBlock = some q := by
            intro q hq
            simp only [Value.ownBlock, Option.some.injEq] at hq
            subst hq
            rcases ha5 with ha | ha
            · refine ⟨(hlo1 _ ha).1, fun y hy hq => ?_⟩
              rcases List.mem_append.1 hy with hy | hy
              · exact (hlo1 _ ha).2 y hy hq
              · have h1 := kn3 y hy _ hq
                have h2 := (hll1 _ ha).2
                omega
            · simp only [World.size_alloc] at ha
              refine ⟨by omega, fun y hy hq => ?_⟩
              have h1 := ((hst3.kids y (by simp only [List.mem_append] at hy ⊢; rcases hy with hy | hy; (exact .inl (.inr hy)); exact .inr hy)).1.lt _ hq).2
              omega
          have hz5 := hfr5.size
          have hfrA : Fr (Sx R vU vD vV) w w5 := (hI.fr.sx hf3 hI.oU hI.oD hI.oV).trans hfr5 fun k hk h => by have := (hlo1 k h).1; omega
          have hndA : (ns' ++ nx).map NA.nd = flat ns.length (d.app x.1) := by rw [List.map_append, hI.nd, hnd3, flat_app]
          have oUA := hI.oU.trans oU3 hz
          have oDA := hI.oD.trans oD3 hz
          have oVA := hI.oV.trans oV3 hz
          have hknA : ∀ y ∈ ns' ++ nx, ∀ q, y.sl.ownBlock = some q → w.heap.size ≤ q := fun y hy q hq => by
            rcases List.mem_append.1 hy with hy | hy
            · exact hI.kn y hy q hq
            · exact Nat.le_trans hz (kn3 y hy q hq)
          rw [List.append_assoc, List.append_assoc] at hst5
          have hgg := hI.g
          have htl := hI.tl
          have hM5 := isMark_any R s _ _ w5 hst5.rd ⟨#[44]⟩ 44 rfl
          cases hm5 : isM 44 x.2.2 with
          | true =>
            have hMv := move_any R s _ _ w5 hst5.rd hr.sz hE5 hr.ne
            have hlt := hst5.rd.mv_lt (isM_ne0 hm5)
            rw [hm5] at hM5
            have HM5 := Lib.hid hm5
            clear hm5
            go_wp2_with first
              | (go_at_call 88; refine hM5.mono ?_; rintro e w6 ⟨rfl, rfl⟩)
              | (go_at_call 59; refine hMv.mono ?_; rintro e w6 ⟨rfl, hf6, hE6, hR6⟩)
            go_roundw
            case' rel =>
              refine ⟨g, d.app x.1, us' ++ x.2.1, ns' ++ nx, mv x.2.2, some ⟨g', 0, none⟩, cap', vU3, vD3, vV3, by rw [hrd]; simp, ?_⟩
              exact { p := by rw [HPE.out, if_pos HM5.out], g := by omega, tl := by omega, u := by rw [List.length_append, szF_app]; omega, z := by rw [szF_app]; omega, fr := hfrA.same (hf6.more fun k _ h => .inl h), E := hE6, nd := hndA, row := row_keep hrow5 fun q hq hq2 => hf6.block q hq2 (by have := row_base hrow5 q hq; have := hr.rl; omega), st := hst5.moved hr.rl hf6 hR6, oU := oUA, oD := oDA, oV := oVA, on := hon5, kn := hknA }
            case' measure =>
              show 300 - ((roots ns.length d).length + 1) < 300 - (roots ns.length d).length
              omega
          | false =>
            have HPF : Hid (pMore e0 f ns.length .nil [] (mv ts) = .ok (d.app x.1, us' ++ x.2.1, x.2.2)) := by
              show _ = _
              rw [HPE.out, if_neg (by rw [hm5]; simp)]
            rw [hm5] at hM5
            clear hm5
            go_upto_region 7 with first
              | (go_at_call 88; refine hM5.mono ?_; rintro e w6 ⟨rfl, rfl⟩)
              | fail
            have hM6 := isMark_any R s _ _ w5 hst5.rd ⟨#[41]⟩ 41 rfl
            cases hm6 : isM 41 x.2.2 with
            | true =>
              have hN6 := need_yes hst5.rd hr.sz hE5 hr.ne
              have HR : Hid (pList e0 f ns.length ts = .ok (d.app x.1, us' ++ x.2.1, mv x.2.2)) := by
                show _ = _
                rw [HP.out, HPF.out]
                simp only [sub, need, hm6, if_true]
              rw [hm6] at hM6
              clear hm6 hM5 hM2
              go_wp2_with first
                | (go_at_call 88; refine hM6.mono ?_; rintro e w6 ⟨rfl, rfl⟩)
                | (go_at_call 83; refine hN6.mono ?_; rintro e w6 ⟨rfl, hf6, hE6, hR6⟩)
              go_ret
              refine ⟨hfrA.same (hf6.more fun k _ h => .inl h), ?_⟩
              rw [HE0.out, HR.out]
              exact ⟨hE6, ns' ++ nx, vU3, vD3, vV3, some ⟨g', 0, none⟩, cap', by rw [hrd]; simp, hndA, row_keep hrow5 fun q hq hq2 => hf6.block q hq2 (by have := row_base hrow5 q hq; have := hr.rl; omega), hst5.moved hr.rl hf6 hR6, oUA, oDA, oVA, hon5, hknA⟩
            | false =>
              have hN6 := need_no hst5.rd hr.sz hE5 hr.ne
              have HR : Hid (pList e0 f ns.length ts = .error (hd x.2.2).ln) := by
                show _ = _
                rw [HP.out, HPF.out]
                simp [sub, need, hm6]
              rw [hm6] at hM6
              clear hm6 hM5 hM2
              go_wp2_with first
                | (go_at_call 88; refine hM6.mono ?_; rintro e w6 ⟨rfl, rfl⟩)
                | (go_at_call 83; refine hN6.mono ?_; rintro e w6 ⟨rfl, rfl⟩)
              refine ⟨rfl, hfrA, ?_⟩
              rw [HE0.out, HR.out]
              rfl
end Go.Proofs.YtjendlnicbieoaaGreatDoor
/-
  Package source's reader: a node stored into the row of nodes.
-/
namespace Go.Proofs.YtjendlnicbieoaaGreatDoor
open Go.RowKit Go.Sort

theorem set3 (x : NA) : ∀ (ns : List NA) (k : Nat), k < ns.length → (((ns.flatMap NA.cs).set (k * 3) (.int .i64 x.nd.op)).set (k * 3 + 1) (.int .i64 x.nd.n)).set (k * 3 + 2) (.slice x.la x.nd.l.length x.lc) = (ns.set k x).flatMap NA.cs
  | [], k, h => by simp at h
  | y :: r, 0, _ => by simp [NA.cs]
  | y :: r, k + 1, h => by
    have ih := set3 x r k (by simpa using h)
    rw [List.set_cons_succ, List.flatMap_cons, List.flatMap_cons, ← ih]
    unfold NA.cs
    rw [show (k + 1) * 3 = k * 3 + 1 + 1 + 1 by omega, show k * 3 + 1 + 1 + 1 + 1 = k * 3 + 1 + 1 + 1 + 1 by rfl]
    simp [List.set_cons_succ]
/-- The row of nodes after the three cells of node k have been stored. -/
theorem row_set3 {w : World} {lo g cap : Nat} {ns : List NA} (h : w.ownsRow lo 59 3 (.slice (some ⟨g, 0, none⟩) ns.length cap) ns.length (ns.flatMap NA.cs)) (x : NA) (k : Nat) (hk : k < ns.length) :
    (((w.setCell ⟨g, k * 3, none⟩ (.int .i64 x.nd.op)).setCell ⟨g, k * 3 + 1, none⟩ (.int .i64 x.nd.n)).setCell ⟨g, k * 3 + 2, none⟩ (.slice x.la x.nd.l.length x.lc)).ownsRow lo 59 3 (.slice (some ⟨g, 0, none⟩) ns.length cap) ns.length ((ns.set k x).flatMap NA.cs) := by
  have h1 := (h.stored (k * 3) (.int .i64 x.nd.op)).1
  have h2 := (h1.stored (k * 3 + 1) (.int .i64 x.nd.n)).1
  have h3 := (h2.stored (k * 3 + 2) (.slice x.la x.nd.l.length x.lc)).1
  rwa [set3 x ns k hk] at h3
end Go.Proofs.YtjendlnicbieoaaGreatDoor
