/-
  Package source's reader: keyword, form by form.
-/
import Derived.Test.YtjendlnicbieoaaGreatDoorExLi
namespace Go.Proofs.YtjendlnicbieoaaGreatDoor
open Go.RowKit Go.Sort

/-- What a call of keyword or of node leaves, whose node is number a, ns being the nodes before it and itself. -/
def KyE (r : PR) (a lo R : Nat) (s : ByteArray) (vN : Value) (fa : Option Addr) (fi fc : Nat) (us : List Us) (ns : List NA) (vs : List Bs) (vU vD vV : Value) (w : World) (e : Ending) (w' : World) : Prop :=
  Fr (Sx R vU vD vV) w w' ∧ match r with
    | .error n => e = WrongS n
    | .ok x => EnvP w' ∧ ∃ (op n : Int) (k : Fo) (ns' : List NA) (vU' vD' vV' : Value) (la : Option Addr) (lc : Nat), x.1 = .cons a op n k .nil ∧ e = .returned (.agg #[.int .i64 op, .int .i64 n, .slice la (roots (a + 1) k).length lc]) ∧ ns'.map NA.nd = flat (a + 1) k ∧ Rng op ∧ Rng n ∧
      w'.ownsRow lo 3 1 (.slice la (roots (a + 1) k).length lc) (roots (a + 1) k).length (intsV (roots (a + 1) k)) ∧
      St w' lo R s x.2.2 vN fa fi fc (us ++ x.2.1) (ns ++ ns') vs vU' vD' vV' ∧ Own2 w vU vU' ∧ Own2 w vD vD' ∧ Own2 w vV vV' ∧
      (∀ q, (Value.slice la (roots (a + 1) k).length lc).ownBlock = some q → w.heap.size ≤ q ∧ ∀ x ∈ ns', ¬ x.sl.ownBlock = some q) ∧ ∀ x ∈ ns', ∀ q, x.sl.ownBlock = some q → w.heap.size ≤ q
set_option maxRecDepth 100000 in
set_option maxHeartbeats 4000000 in
theorem keyword_0 (f : Nat) (op lo R : Nat) (s : ByteArray) (ts : List Tk) (vN : Value) (fa : Option Addr) (fi fc : Nat) (us : List Us) (ns : List NA) (vs : List Bs) (vU vD vV : Value) (a : Nat) (w : World)
    (h : St w lo R s ts vN fa fi fc us ns vs vU vD vV) :
    Calls Tryz.prog 119 #[.pointer (some ⟨R, 0, none⟩), .int .i64 (a : Nat), .agg #[.int .i64 (op : Nat), .int .i64 0]] w (KyE (pKey (pE fi f) f fi vs a op 0 ts) a lo R s vN fa fi fc us ns vs vU vD vV w) := by
  have hb1 : Below w.heap.size w ((w.alloc (.cells #[.int .i64 (op : Nat), .int .i64 0] 172)).alloc (.cells #[.int .i64 0, .int .i64 0, .slice none 0 0] 59)) := (below_new _ _).alloc (by simp) _
  have h1 := h.below hb1
  have hF := sfail_any R s ts _ _ h1.rd
  unfold WrongS at hF
  go_enter Tryz.func119, Tryz.ntmps119
  go_wp2_with (go_at_call 102; refine hF.mono ?_; rintro e w3 ⟨rfl, rfl⟩)
  refine ⟨rfl, Fr.belowAll hb1, ?_⟩
  unfold pKey
  rw [if_pos rfl]
  rfl
set_option maxRecDepth 100000 in
set_option maxHeartbeats 4000000 in
theorem keyword_1 (f : Nat) (op lo R : Nat) (hop : op ≤ 100) (s : ByteArray) (ts : List Tk) (vN : Value) (fa : Option Addr) (fi fc : Nat) (us : List Us) (ns : List NA) (vs : List Bs) (vU vD vV : Value) (a : Nat) (w : World)
    (h : St w lo R s ts vN fa fi fc us ns vs vU vD vV) (hr : RdOk lo R s w) :
    Calls Tryz.prog 119 #[.pointer (some ⟨R, 0, none⟩), .int .i64 (a : Nat), .agg #[.int .i64 (op : Nat), .int .i64 1]] w (KyE (pKey (pE fi f) f fi vs a op 1 ts) a lo R s vN fa fi fc us ns vs vU vD vV w) := by
  have hb1 : Below w.heap.size w ((w.alloc (.cells #[.int .i64 (op : Nat), .int .i64 1] 172)).alloc (.cells #[.int .i64 0, .int .i64 0, .slice none 0 0] 59)) := (below_new _ _).alloc (by simp) _
  go_enter Tryz.func119, Tryz.ntmps119
  go_upto_region 4 with fail
  have hb2 := hb1.alloc hb1.size (.cells #[.int .i64 (op : Nat), .int .i64 0, .slice none 0 0] 59)
  have h2 := h.below hb2
  have hE2 : EnvP _ := hr.E.fr (S := fun _ => False) (Fr.belowAll hb2) (fun h => h)
  have hz2 := hb2.size
  have hbn := Blk.new ((w.alloc (.cells #[.int .i64 (op : Nat), .int .i64 1] 172)).alloc (.cells #[.int .i64 0, .int .i64 0, .slice none 0 0] 59)) 59 [.int .i64 (op : Nat), .int .i64 0, .slice none 0 0]
  have hkw := ((Blk.new w 172 [.int .i64 (op : Nat), .int .i64 1]).alloc (.cells #[.int .i64 0, .int .i64 0, .slice none 0 0] 59)).alloc (.cells #[.int .i64 (op : Nat), .int .i64 0, .slice none 0 0] 59)
  have hrs := (Blk.new (w.alloc (.cells #[.int .i64 (op : Nat), .int .i64 1] 172)) 59 [.int .i64 0, .int .i64 0, .slice none 0 0]).alloc (.cells #[.int .i64 (op : Nat), .int .i64 0, .slice none 0 0] 59)
  simp only [World.size_alloc] at hrs hbn
  have hMv := move_any R s ts _ _ h2.rd hr.sz hE2 hr.ne
  have hRl := hr.rl
  have hll := hr.ll
  go_wp2_with (go_at_call 59; refine hMv.mono ?_; rintro e w3 ⟨rfl, hf3, hE3, hR3⟩; have hbn3 := hbn.fr hf3 (by omega); have hkw3 := hkw.fr hf3 (by omega); have hrs3 := hrs.fr hf3 (by omega); have k0 := hkw3.c 0 rfl; have k1 := hkw3.c 1 rfl; have r0 := hrs3.c 0 rfl; have r1 := hrs3.c 1 rfl; have r2 := hrs3.c 2 rfl; have rz0 := hrs3.fz 0; have rz1 := hrs3.fz 1; have rz2 := hrs3.fz 2; have n0 := hbn3.c 0 rfl; have n1 := hbn3.c 1 rfl; have n2 := hbn3.c 2 rfl)
  have hf9 : Fr (Sx R vU vD vV) w w3 := ((Fr.belowAll (S := Sx R vU vD vV) hb2)).trans hf3 fun k _ h => .inl h
  have hz3 := hf3.size
  have hB := ((hrs3.set 0 (.int .i64 (op : Nat))).set 1 (.int .i64 0)).set 2 (.slice none 0 0)
  have b0 := hB.c 0 rfl
  have b1 := hB.c 1 rfl
  have b2 := hB.c 2 rfl
  refine bodyPost_ret (v := .agg #[.int .i64 (op : Nat), .int .i64 0, .slice none 0 0]) (by simp [results, Tryz.results119, go_sem, b0, b1, b2]) rfl ?_
  have hs1 : ¬ (w.heap.size + 1 < w.heap.size) := by omega
  have hst3 := h2.moved hr.rl hf3 hR3
  have hfs : Fr (fun _ => False) w w3 → True := fun _ => trivial
  have hfin : Fr (fun q => q = w.heap.size + 1) w3 _ := ((Fr.set (S := fun q => q = w.heap.size + 1) (q := ⟨w.heap.size + 1, 0, none⟩) (u := .int .i64 (op : Nat)) (.inl rfl)).same (Fr.set (q := ⟨w.heap.size + 1, 1, none⟩) (u := .int .i64 0) (.inl rfl))).same (Fr.set (q := ⟨w.heap.size + 1, 2, none⟩) (u := .slice none 0 0) (.inl rfl))
  have hRlt := h.rd.lt
  have he3 := hr.e3
  have hfB : FrB R w _ := ((Fr.belowAll hb2).trans hf3 fun k _ h => h).trans hfin fun k h h2 => by omega
  refine ⟨hf9.trans hfin fun k h h2 => by omega, ?_⟩
  have hp : pKey (pE fi f) f fi vs a op 1 ts = .ok (.cons a op 0 .nil .nil, [], mv ts) := by simp [pKey]
  rw [hp]
  exact ⟨hE3.fr hfin (by omega), op, 0, .nil, [], vU, vD, vV, none, 0, rfl, rfl, rfl, ⟨by omega, by omega⟩, ⟨by decide, by decide⟩, row_none _ _ _ _, by simpa using h.moved hr.rl hfB (hR3.fr hfin (by omega)), Own2.refl _ _, Own2.refl _ _, Own2.refl _ _, fun q hq => (by cases hq), fun x hx => (by cases hx)⟩
end Go.Proofs.YtjendlnicbieoaaGreatDoor
/-
  Package source's reader: keyword: the state between its children.
-/
namespace Go.Proofs.YtjendlnicbieoaaGreatDoor
open Go.RowKit Go.Sort

theorem row_le {w : World} {B B' : Nat} {E : TypeId} {sz n : Nat} {v : Value} {xs : List Value} (h : w.ownsRow B E sz v n xs) (hb : B' ≤ B) : w.ownsRow B' E sz v n xs :=
  ⟨h.1, h.2.imp id fun ⟨g, c, cu, e, hg, r⟩ => ⟨g, c, cu, e, Nat.le_trans hb hg, r⟩⟩
theorem blk_row {w : World} {g lo n sz : Nat} {T T' : TypeId} {cs : List Value} {v : Value} {xs : List Value} (h : Blk w g T cs) (hr : w.ownsRow lo T' sz v n xs) (hT : T ≠ T') : ¬ v.ownBlock = some g := by
  intro hq
  rcases hr.2 with ⟨rfl, -⟩ | ⟨g', c, cu, rfl, -, hg, -⟩
  · cases hq
  · simp only [Value.ownBlock, Option.some.injEq] at hq
    subst hq
    unfold Blk at h
    rw [hg] at h
    injection h with h
    injection h with _ h2 _
    exact hT h2.symm
/-- A child's number appended, the node's cell written: neither is the reader's. -/
theorem St.kid {w w' : World} {lo lo' R nb : Nat} {s : ByteArray} {ts : List Tk} {vN : Value} {fa : Option Addr} {fi fc : Nat} {us : List Us} {ns : List NA} {vs : List Bs} {vU vD vV : Value} {cs : List Value} (h : St w lo R s ts vN fa fi fc us ns vs vU vD vV) (hR : R < nb) (hlo : R < lo') {n : Nat} {v : Value} {xs : List Value} (hv : w.ownsRow lo' 3 1 v n xs)
    (hf : Fr (fun q => q = nb ∨ v.ownBlock = some q) w w') (hb : Blk w nb 59 cs) (hD : ∀ q, vD.ownBlock = some q → ¬ q = nb) (hk : ∀ x ∈ ns, ∀ q, x.sl.ownBlock = some q → ¬ v.ownBlock = some q) : St w' lo R s ts vN fa fi fc us ns vs vU vD vV := by
  have nu : ∀ {T : TypeId} {sz n : Nat} {v : Value} {xs : List Value}, w.ownsRow lo T sz v n xs → 59 ≠ T → ∀ q, v.ownBlock = some q → ¬ q = nb := fun hrow hT q hq e => by
    subst e
    exact blk_row hb hrow hT hq
  refine ⟨h.rd.fr hf ?_, row_keep h.ru fun q hq hq2 => hf.block q hq2 ?_, row_keep h.rn fun q hq hq2 => hf.block q hq2 ?_, row_keep h.rv fun q hq hq2 => hf.block q hq2 ?_, fun x hx => (h.kids x hx).fr hf ?_⟩
  · rintro (e | e)
    · omega
    · have := row_base hv R e; omega
  · rintro (e | e)
    · exact nu h.ru (by decide) q hq e
    · exact rows_ne h.ru hv (by decide) q hq e
  · rintro (e | e)
    · exact hD q hq e
    · exact rows_ne h.rn hv (by decide) q hq e
  · rintro (e | e)
    · exact nu h.rv (by decide) q hq e
    · exact rows_ne h.rv hv (by decide) q hq e
  · rintro q hq (e | e)
    · exact nu (h.kids x hx).1 (by decide) q hq e
    · exact hk x hx q hq e
/-- keyword's blocks, what has been read: the forest d of children from number a on. -/
structure KyM (op fm a : Nat) (d : Fo) (us' : List Us) (ns' : List NA) (ts : List Tk) (la : Option Addr) (lc : Nat) (lo R : Nat) (s : ByteArray) (vN : Value) (fa : Option Addr) (fi fc : Nat) (us : List Us) (ns : List NA) (vs : List Bs) (vU vD vV vU' vD' vV' : Value) (w wr : World) : Prop where
  bk : Blk wr w.heap.size 172 [.int .i64 (op : Nat), .int .i64 (fm : Nat)]
  br : Blk wr (w.heap.size + 1) 59 [.int .i64 0, .int .i64 0, .slice none 0 0]
  bn : Blk wr (w.heap.size + 1 + 1) 59 [.int .i64 (op : Nat), .int .i64 0, .slice la (roots a d).length lc]
  row : wr.ownsRow (w.heap.size + 3) 3 1 (.slice la (roots a d).length lc) (roots a d).length (intsV (roots a d))
  u : us'.length ≤ sizeF d + 1
  z : ns.length + sizeF d ≤ 200
  fr : Fr (Sx R vU vD vV) w wr
  E : EnvP wr
  nd : ns'.map NA.nd = flat a d
  st : St wr lo R s ts vN fa fi fc (us ++ us') (ns ++ ns') vs vU' vD' vV'
  oU : Own2 w vU vU'
  oD : Own2 w vD vD'
  oV : Own2 w vV vV'
  on : ∀ q, (Value.slice la (roots a d).length lc).ownBlock = some q → w.heap.size ≤ q ∧ ∀ x ∈ ns', ¬ x.sl.ownBlock = some q
  kn : ∀ x ∈ ns', ∀ q, x.sl.ownBlock = some q → w.heap.size ≤ q
  dD : ∀ q, vD'.ownBlock = some q → ¬ (q = w.heap.size + 1 ∨ q = w.heap.size + 1 + 1)
section
variable {op fm a : Nat} {d : Fo} {us' : List Us} {ns' : List NA} {ts ts' : List Tk} {la : Option Addr} {lc : Nat} {lo R : Nat} {s : ByteArray} {vN : Value} {fa : Option Addr} {fi fc : Nat} {us : List Us} {ns : List NA} {vs : List Bs} {vU vD vV vU' vD' vV' : Value} {w wr w2 : World}
/-- The state behind the first move: no child yet. -/
theorem KyM.start (h : St w lo R s ts vN fa fi fc us ns vs vU vD vV) (hr : RdOk lo R s w) (hn : ns.length ≤ 200)
    (hf : FrB R (((w.alloc (.cells #[.int .i64 (op : Nat), .int .i64 (fm : Nat)] 172)).alloc (.cells #[.int .i64 0, .int .i64 0, .slice none 0 0] 59)).alloc (.cells #[.int .i64 (op : Nat), .int .i64 0, .slice none 0 0] 59)) w2) (hE : EnvP w2) (hR : Rdr w2 R s ts' [vN, .slice fa fi fc, vU, vD, vV]) :
    KyM op fm a .nil [] [] ts' none 0 lo R s vN fa fi fc us ns vs vU vD vV vU vD vV w w2 := by
  have hb1 : Below w.heap.size w ((w.alloc (.cells #[.int .i64 (op : Nat), .int .i64 (fm : Nat)] 172)).alloc (.cells #[.int .i64 0, .int .i64 0, .slice none 0 0] 59)) := (below_new _ _).alloc (by simp) _
  have hb2 := hb1.alloc hb1.size (.cells #[.int .i64 (op : Nat), .int .i64 0, .slice none 0 0] 59)
  have hz2 := hb2.size
  have hRl := hr.rl
  have hll := hr.ll
  have hbn := Blk.new ((w.alloc (.cells #[.int .i64 (op : Nat), .int .i64 (fm : Nat)] 172)).alloc (.cells #[.int .i64 0, .int .i64 0, .slice none 0 0] 59)) 59 [.int .i64 (op : Nat), .int .i64 0, .slice none 0 0]
  have hkw := ((Blk.new w 172 [.int .i64 (op : Nat), .int .i64 (fm : Nat)]).alloc (.cells #[.int .i64 0, .int .i64 0, .slice none 0 0] 59)).alloc (.cells #[.int .i64 (op : Nat), .int .i64 0, .slice none 0 0] 59)
  have hrs := (Blk.new (w.alloc (.cells #[.int .i64 (op : Nat), .int .i64 (fm : Nat)] 172)) 59 [.int .i64 0, .int .i64 0, .slice none 0 0]).alloc (.cells #[.int .i64 (op : Nat), .int .i64 0, .slice none 0 0] 59)
  simp only [World.size_alloc] at hrs hbn
  exact {
    bk := hkw.fr hf (by omega)
    br := hrs.fr hf (by omega)
    bn := hbn.fr hf (by omega)
    row := row_none _ _ _ _
    u := Nat.zero_le _
    z := hn
    fr := (Fr.belowAll hb2).trans hf fun k _ e => .inl e
    E := hE
    nd := rfl
    st := by simpa using (h.below hb2).moved hr.rl hf hR
    oU := Own2.refl _ _
    oD := Own2.refl _ _
    oV := Own2.refl _ _
    on := fun q hq => by cases hq
    kn := fun x hx => by cases hx
    dD := fun q hq e => by
      have := (h.rn.lt q hq).2
      omega }
/-- A token is passed by. -/
theorem KyM.moved (h : KyM op fm a d us' ns' ts la lc lo R s vN fa fi fc us ns vs vU vD vV vU' vD' vV' w wr) (hr : RdOk lo R s w) (hf : FrB R wr w2) (hE : EnvP w2) (hR : Rdr w2 R s ts' [vN, .slice fa fi fc, vU', vD', vV']) :
    KyM op fm a d us' ns' ts' la lc lo R s vN fa fi fc us ns vs vU vD vV vU' vD' vV' w w2 := by
  have hz := h.fr.size
  have hRl := hr.rl
  have hll := hr.ll
  exact { h with
    bk := h.bk.fr hf (by omega)
    br := h.br.fr hf (by omega)
    bn := h.bn.fr hf (by omega)
    row := row_keep h.row fun q hq hq2 => hf.block q hq2 (by have := row_base h.row q hq; omega)
    fr := h.fr.same (hf.more fun k _ e => .inl e)
    E := hE
    st := h.st.moved hr.rl hf hR }
/-- The node is returned: the result's cells are written. -/
theorem KyM.done {r : PR} (h : KyM op fm (a + 1) d us' ns' ts la lc lo R s vN fa fi fc us ns vs vU vD vV vU' vD' vV' w wr) (hr : RdOk lo R s w) (hop : op ≤ 100) (hp : r = .ok (.cons a op 0 d .nil, us', ts)) :
    KyE r a lo R s vN fa fi fc us ns vs vU vD vV w (.returned (.agg #[.int .i64 (op : Nat), .int .i64 0, .slice la (roots (a + 1) d).length lc])) (((wr.setCell ⟨w.heap.size + 1, 0, none⟩ (.int .i64 (op : Nat))).setCell ⟨w.heap.size + 1, 1, none⟩ (.int .i64 0)).setCell ⟨w.heap.size + 1, 2, none⟩ (.slice la (roots (a + 1) d).length lc)) := by
  have hz := h.fr.size
  have hRl := hr.rl
  have hll := hr.ll
  have he3 := hr.e3
  have hfin : Fr (fun q => q = w.heap.size + 1) wr (((wr.setCell ⟨w.heap.size + 1, 0, none⟩ (.int .i64 (op : Nat))).setCell ⟨w.heap.size + 1, 1, none⟩ (.int .i64 0)).setCell ⟨w.heap.size + 1, 2, none⟩ (.slice la (roots (a + 1) d).length lc)) := ((Fr.set (S := fun q => q = w.heap.size + 1) (q := ⟨w.heap.size + 1, 0, none⟩) (u := .int .i64 (op : Nat)) (.inl rfl)).same (Fr.set (q := ⟨w.heap.size + 1, 1, none⟩) (u := .int .i64 0) (.inl rfl))).same (Fr.set (q := ⟨w.heap.size + 1, 2, none⟩) (u := .slice la (roots (a + 1) d).length lc) (.inl rfl))
  refine ⟨h.fr.trans hfin fun k hk e => by omega, ?_⟩
  rw [hp]
  exact ⟨h.E.fr hfin (by omega), op, 0, d, ns', vU', vD', vV', la, lc, rfl, rfl, h.nd, ⟨by omega, by omega⟩, ⟨by decide, by decide⟩, row_le (row_keep h.row fun q hq hq2 => hfin.block q hq2 (by have := row_base h.row q hq; omega)) (by omega),
    h.st.kid (lo' := lo) (nb := w.heap.size + 1) (by omega) (by omega) (row_none wr lo _ 1) (hfin.more fun _ _ e => .inl e) h.br (fun q hq e => h.dD q hq (.inl e)) (fun x hx q hq e => by cases e), h.oU, h.oD, h.oV, h.on, h.kn⟩
/-- New memory only. -/
theorem KyM.below (h : KyM op fm a d us' ns' ts la lc lo R s vN fa fi fc us ns vs vU vD vV vU' vD' vV' w wr) (hb : Below wr.heap.size wr w2) : KyM op fm a d us' ns' ts la lc lo R s vN fa fi fc us ns vs vU vD vV vU' vD' vV' w w2 :=
  { h with
    bk := h.bk.belowAll hb
    br := h.br.belowAll hb
    bn := h.bn.belowAll hb
    row := row_keep h.row fun q _ hq => hb.block q hq
    fr := h.fr.same (Fr.belowAll hb)
    E := h.E.fr (S := fun _ => False) (Fr.belowAll hb) (fun h => h)
    st := h.st.below hb }
/-- A variable's name is pushed: r.vars = append(r.vars, s). -/
theorem KyM.pushed (h : KyM op fm a d us' ns' ts la lc lo R s vN fa fi fc us ns vs vU vD vV vU' vD' vV' w wr) (hr : RdOk lo R s w) {S : ByteArray} {g cap : Nat} (hf : Fr (fun q => vV'.ownBlock = some q) wr w2)
    (hg : vV'.ownBlock = some g ∨ wr.heap.size ≤ g) (hrow : w2.ownsRow lo 9 1 (.slice (some ⟨g, 0, none⟩) (vs.length + 1) cap) (vs.length + 1) (strsV vs ++ [.string S])) :
    KyM op fm a d us' ns' ts la lc lo R s vN fa fi fc us ns (vs ++ [S.data.toList]) vU vD vV vU' vD' (.slice (some ⟨g, 0, none⟩) (vs.length + 1) cap) w (w2.setCell ⟨R, 13, none⟩ (.slice (some ⟨g, 0, none⟩) (vs.length + 1) cap)) := by
  have hz := h.fr.size
  have hRl := hr.rl
  have hll := hr.ll
  have he3 := hr.e3
  have hvb := row_base h.st.rv
  have hF : Fr (fun q => q = R ∨ vV'.ownBlock = some q) wr (w2.setCell ⟨R, 13, none⟩ (.slice (some ⟨g, 0, none⟩) (vs.length + 1) cap)) := (hf.more fun _ _ e => .inr e).same (Fr.set (.inl (.inl rfl)))
  have hsR : Fr (fun q => q = R) w2 (w2.setCell ⟨R, 13, none⟩ (.slice (some ⟨g, 0, none⟩) (vs.length + 1) cap)) := Fr.set (.inl rfl)
  have hkp : ∀ {T : TypeId} {sz n B : Nat} {v : Value} {xs : List Value}, wr.ownsRow B T sz v n xs → R < B → T ≠ 9 → (w2.setCell ⟨R, 13, none⟩ (.slice (some ⟨g, 0, none⟩) (vs.length + 1) cap)).ownsRow B T sz v n xs := fun hrw hB hT => row_keep hrw fun q hq hq2 => hF.block q hq2 (by
    rintro (e | e)
    · have := row_base hrw q hq; omega
    · exact rows_ne hrw h.st.rv hT q hq e)
  exact { h with
    bk := h.bk.fr hF (by rintro (e | e); (omega); exact blk_row h.bk h.st.rv (by decide) e)
    br := h.br.fr hF (by rintro (e | e); (omega); exact blk_row h.br h.st.rv (by decide) e)
    bn := h.bn.fr hF (by rintro (e | e); (omega); exact blk_row h.bn h.st.rv (by decide) e)
    row := hkp h.row (by omega) (by decide)
    fr := h.fr.trans hF fun k hk e => by
      rcases e with e | e
      · exact .inl e
      · exact (h.oV k e).elim (fun e => .inr (.inr (.inr e))) fun e => by omega
    E := h.E.fr hF (by rintro (e | e); (omega); have := hvb _ e; omega)
    st := ⟨(h.st.rd.fr hf fun e => by have := hvb _ e; omega).setT 4 _, hkp h.st.ru hRl (by decide), hkp h.st.rn hRl (by decide),
      row_keep (by simpa [strsV] using hrow) fun q hq hq2 => hsR.block q hq2 (by have := row_base hrow q hq; omega), fun x hx => ⟨hkp (h.st.kids x hx).1 hRl (by decide), (h.st.kids x hx).2⟩⟩
    oV := fun q hq => by
      simp only [Value.ownBlock, Option.some.injEq] at hq
      subst hq
      rcases hg with e | e
      · exact h.oV _ e
      · exact .inr (by omega) }
/-- The last variable's name is popped: r.vars = r.vars[:len(r.vars)-1]. -/
theorem KyM.popped {l : Bs} {g cap : Nat} (h : KyM op fm a d us' ns' ts la lc lo R s vN fa fi fc us ns (vs ++ [l]) vU vD vV vU' vD' (.slice (some ⟨g, 0, none⟩) (vs.length + 1) cap) w wr) (hr : RdOk lo R s w) :
    KyM op fm a d us' ns' ts la lc lo R s vN fa fi fc us ns vs vU vD vV vU' vD' (.slice (some ⟨g, 0, none⟩) vs.length cap) w (wr.setCell ⟨R, 13, none⟩ (.slice (some ⟨g, 0, none⟩) vs.length cap)) := by
  have hz := h.fr.size
  have hRl := hr.rl
  have hll := hr.ll
  have he3 := hr.e3
  have hrow := h.st.rv
  have hsR : Fr (fun q => q = R) wr (wr.setCell ⟨R, 13, none⟩ (.slice (some ⟨g, 0, none⟩) vs.length cap)) := Fr.set (.inl rfl)
  have hkp : ∀ {T : TypeId} {sz n B : Nat} {v : Value} {xs : List Value}, wr.ownsRow B T sz v n xs → R < B → (wr.setCell ⟨R, 13, none⟩ (.slice (some ⟨g, 0, none⟩) vs.length cap)).ownsRow B T sz v n xs := fun hrw hB => row_keep hrw fun q hq hq2 => hsR.block q hq2 (by have := row_base hrw q hq; omega)
  exact { h with
    bk := h.bk.fr hsR (by omega)
    br := h.br.fr hsR (by omega)
    bn := h.bn.fr hsR (by omega)
    row := hkp h.row (by omega)
    fr := h.fr.same (hsR.more fun _ _ e => .inl e)
    E := h.E.fr hsR (by omega)
    st := ⟨h.st.rd.setT 4 _, hkp h.st.ru hRl, hkp h.st.rn hRl, hkp (ownsRow_pop (last := strsV [l]) (by simp [strsV]) (by simpa [strsV] using hrow)) hRl, fun x hx => ⟨hkp (h.st.kids x hx).1 hRl, (h.st.kids x hx).2⟩⟩
    oV := fun q hq => h.oV q hq }
/-- A place at which a function is named is noted: use. -/
theorem KyM.used {e : Ending} {at_ : Nat} (h : KyM op fm a .nil [] [] ts none 0 lo R s vN fa fi fc us ns vs vU vD vV vU vD vV w wr) (hr : RdOk lo R s w) (hN : isN ts = true) (hU : UseE lo R s ts vN fa fi fc vU us.length (us.flatMap usC) vD vV at_ wr e w2) :
    e = .returned (.tuple #[]) ∧ ∃ vU2, KyM op fm a .nil [⟨fi, at_, (hd ts).ln, (hd ts).s⟩] [] (mv ts) none 0 lo R s vN fa fi fc us ns vs vU vD vV vU2 vD vV w w2 := by
  obtain ⟨hF, hU⟩ := hU
  rw [if_pos hN] at hU
  obtain ⟨rfl, hE, g, cap, hrow, hg, hR⟩ := hU
  have hz := h.fr.size
  have hRl := hr.rl
  have hll := hr.ll
  have he3 := hr.e3
  have hub := row_base h.st.ru
  have hkp : ∀ {T : TypeId} {sz n B : Nat} {v : Value} {xs : List Value}, wr.ownsRow B T sz v n xs → R < B → T ≠ 152 → w2.ownsRow B T sz v n xs := fun hrw hB hT => row_keep hrw fun q hq hq2 => hF.block q hq2 (by
    rintro (e | e)
    · have := row_base hrw q hq; omega
    · exact rows_ne hrw h.st.ru hT q hq e)
  have hst0 := h.st
  simp only [List.append_nil] at hst0
  refine ⟨rfl, .slice (some ⟨g, 0, none⟩) (us.length + 1) cap, ?_⟩
  exact { h with
    u := Nat.le_refl _
    bk := h.bk.fr hF (by rintro (e | e); (omega); exact blk_row h.bk h.st.ru (by decide) e)
    br := h.br.fr hF (by rintro (e | e); (omega); exact blk_row h.br h.st.ru (by decide) e)
    bn := h.bn.fr hF (by rintro (e | e); (omega); exact blk_row h.bn h.st.ru (by decide) e)
    row := hkp h.row (by omega) (by decide)
    fr := h.fr.trans hF fun k hk e => by
      rcases e with e | e
      · exact .inl e
      · exact .inr (.inl e)
    E := hE
    st := by
      simp only [List.append_nil]
      exact ⟨hR, by simpa using hrow, hkp hst0.rn hRl (by decide), hkp hst0.rv hRl (by decide), fun x hx => ⟨hkp (hst0.kids x hx).1 hRl (by decide), (hst0.kids x hx).2⟩⟩
    oU := fun q hq => by
      simp only [Value.ownBlock, Option.some.injEq] at hq
      subst hq
      rcases hg with e | e
      · exact .inl e
      · exact .inr (by omega) }
theorem row_ge {B B' : Nat} {E : TypeId} {sz n : Nat} {v : Value} {xs : List Value} (h : w.ownsRow B E sz v n xs) (hb : ∀ q, v.ownBlock = some q → B' ≤ q) : w.ownsRow B' E sz v n xs :=
  ⟨h.1, h.2.imp id fun ⟨g, c, cu, e, _, r⟩ => ⟨g, c, cu, e, hb g (by rw [e]; rfl), r⟩⟩
/-- Expressions in brackets have been read: n.L = r.list(). -/
theorem KyM.listed {x : Fo × List Us × List Tk} {e : Ending} (h : KyM op fm a .nil us' [] ts none 0 lo R s vN fa fi fc us ns vs vU vD vV vU' vD' vV' w wr) (hr : RdOk lo R s w) (ha : ns.length = a) (hzz : a + sizeF x.1 ≤ 200) (hxu : x.2.1.length ≤ sizeF x.1)
    (hL : LiE (.ok x) lo R s vN fa fi fc (us ++ us') ns vs vU' vD' vV' wr e w2) :
    ∃ la lc ns2 vU2 vD2 vV2, e = .returned (.slice la (roots a x.1).length lc) ∧ (∀ j, w2.frozen? ⟨w.heap.size + 1 + 1, j, none⟩ = false) ∧ w2.cell? ⟨w.heap.size + 1 + 1, 2, none⟩ = some (.slice none 0 0) ∧
      KyM op fm a x.1 (us' ++ x.2.1) ns2 x.2.2 la lc lo R s vN fa fi fc us ns vs vU vD vV vU2 vD2 vV2 w (w2.setCell ⟨w.heap.size + 1 + 1, 2, none⟩ (.slice la (roots a x.1).length lc)) := by
  obtain ⟨hF, hE, ns2, vU2, vD2, vV2, la, lc, rfl, hnd, hrow, hst, oU, oD, oV, on, kn⟩ := hL
  rw [ha] at hnd hrow on ⊢
  have hz := h.fr.size
  have hz2 := hF.size
  have hu := h.u
  have hRl := hr.rl
  have hll := hr.ll
  have he3 := hr.e3
  have hnb := h.bn.lt
  have nS : ∀ {g : Nat} {T : TypeId} {cs : List Value}, Blk wr g T cs → w.heap.size ≤ g → T ≠ 152 → T ≠ 9 → ¬ vD'.ownBlock = some g → ¬ Sx R vU' vD' vV' g := fun hb hg h1 h2 h3 => by
    rintro (e | e | e | e)
    · omega
    · exact blk_row hb h.st.ru h1 e
    · exact h3 e
    · exact blk_row hb h.st.rv h2 e
  have bk2 := h.bk.fr hF (nS h.bk (Nat.le_refl _) (by decide) (by decide) (blk_row h.bk h.st.rn (by decide)))
  have br2 := h.br.fr hF (nS h.br (by omega) (by decide) (by decide) fun e => h.dD _ e (.inl rfl))
  have bn2 := h.bn.fr hF (nS h.bn (by omega) (by decide) (by decide) fun e => h.dD _ e (.inr rfl))
  have dD2 : ∀ q, vD2.ownBlock = some q → ¬ (q = w.heap.size + 1 ∨ q = w.heap.size + 1 + 1) := fun q hq => by
    rcases oD q hq with e | e
    · exact h.dD q e
    · omega
  have hs : Fr (fun q => q = w.heap.size + 1 + 1) w2 (w2.setCell ⟨w.heap.size + 1 + 1, 2, none⟩ (.slice la (roots a x.1).length lc)) := Fr.set (.inl rfl)
  refine ⟨la, lc, ns2, vU2, vD2, vV2, rfl, bn2.fz, bn2.c 2 rfl, ?_⟩
  have hst2 := hst.kid (lo' := lo) (nb := w.heap.size + 1 + 1) (by omega) (by omega) (row_none w2 lo _ 1) (hs.more fun _ _ e => .inl e) bn2 (fun q hq e => dD2 q hq (.inr e)) (fun x hx q hq e => by cases e)
  rw [List.append_assoc] at hst2
  exact {
    bk := bk2.fr hs (by omega)
    br := br2.fr hs (by omega)
    bn := bn2.set 2 _
    row := row_ge (row_keep hrow fun q hq hq2 => hs.block q hq2 (by have := (on q hq).1; omega)) fun q hq => by have := (on q hq).1; omega
    u := by rw [List.length_append]; simp only [sizeF] at hu; omega
    z := by omega
    fr := (h.fr.sx hF h.oU h.oD h.oV).trans hs fun k hk e => by omega
    E := hE.fr hs (by omega)
    nd := hnd
    st := hst2
    oU := h.oU.trans oU hz
    oD := h.oD.trans oD hz
    oV := h.oV.trans oV hz
    on := fun q hq => ⟨by have := (on q hq).1; omega, (on q hq).2⟩
    kn := fun y hy q hq => Nat.le_trans hz (kn y hy q hq)
    dD := dD2 }
end
set_option maxHeartbeats 1000000 in
/-- A child is read: the statement n.L = append(n.L, r.expression()). -/
theorem KyM.kid {ops : Array Oper} {Q : Exit → Act → World → Prop} {a0 : Act} {id dd : Nat} {f : Nat} (hC : ExC f) (hsh : Shape ops (KwK dd) KwD) (hd8 : 8 ≤ dd) (hsz : dd + 7 ≤ a0.tmps.size)
    {op fm a : Nat} {d : Fo} {us' : List Us} {ns' : List NA} {ts ts0 : List Tk} {la : Option Addr} {lc : Nat} {lo R : Nat} {s : ByteArray} {vN : Value} {fa : Option Addr} {fi fc : Nat} {us : List Us} {ns : List NA} {vs vs0 : List Bs} {vU vD vV vU' vD' vV' : Value} {w wr : World}
    (h : KyM op fm a d us' ns' ts la lc lo R s vN fa fi fc us ns vs vU vD vV vU' vD' vV' w wr) (h0 : a0.eval (.tmp 0) = .pointer (some ⟨R, 0, none⟩)) (h7 : a0.eval (.tmp 7) = .pointer (some ⟨w.heap.size + 1 + 1, 0, none⟩)) (ha : ns.length = a)
    (hst0 : St w lo R s ts0 vN fa fi fc us ns vs0 vU vD vV) (hl : ts.length ≤ f) (hul : us.length < 200 * fi + ns.length) (hfi : fi ≤ 64) (hvl : vs.length ≤ 9 + ns.length) (hr : RdOk lo R s w)
    (hQ : ∀ x la2 lc2 nx vU2 vD2 vV2 act W, pE fi f vs (a + sizeF d) ts = .ok x → Upd a0 act dd 7 → KyM op fm a (d.app x.1) (us' ++ x.2.1) (ns' ++ nx) x.2.2 la2 lc2 lo R s vN fa fi fc us ns vs vU vD vV vU2 vD2 vV2 w W → Q .normal act W)
    (hF : ∀ n act W, pE fi f vs (a + sizeF d) ts = .error n → act.defers = a0.defers → Fr (Sx R vU vD vV) w W → Q (.panic [{ v := .iface 119 (.int .i64 (n : Nat)), recovered := false }]) act W) :
    (Code.region id ops true).wp Tryz.prog Q a0 wr := by
  have hz := h.fr.size
  have hnl' : ns'.length = sizeF d := by have := congrArg List.length h.nd; rwa [List.length_map, flat_length] at this
  have hu := h.u
  have hzz := h.z
  have hRl := hr.rl
  have hll := hr.ll
  have hnb := h.bn.lt
  have hrl := roots_le d a
  have hCal := hC lo R s ts vN fa fi fc (us ++ us') (ns ++ ns') vs vU' vD' vV' wr.drew hl (h.st.below (Below.refl _ _).drew) (by simp only [List.length_append]; omega) hfi (by simp only [List.length_append]; omega) (by simp only [List.length_append]; omega) hRl (Nat.le_trans hll hz) hr.sz (h.E.fr (S := fun _ => False) Fr.drew fun h => h) hr.e3
  rw [List.length_append, hnl', ha] at hCal
  have hlo1 := h.on
  have hll1 := h.row.lt
  have hSnb : ¬ Sx R vU' vD' vV' (w.heap.size + 1 + 1) := by
    rintro (e | e | e | e)
    · omega
    · exact blk_row h.bn h.st.ru (by decide) e
    · exact h.dD _ e (.inr rfl)
    · exact blk_row h.bn h.st.rv (by decide) e
  refine kw_region (d := dd) (lo := w.heap.size + 3) (R := R) (nb := w.heap.size + 1 + 1) (S := Sx R vU' vD' vV') (xs := intsV (roots a d)) (w := wr)
    (Pr := fun k W' => ∃ x, pE fi f vs (a + sizeF d) ts = .ok x ∧ k = a + sizeF d ∧ EnvP W' ∧ ∃ (nx : List NA) (vU2 vD2 vV2 : Value), nx.map NA.nd = flat (a + sizeF d) x.1 ∧ St W' lo R s x.2.2 vN fa fi fc (us ++ us' ++ x.2.1) (ns ++ ns' ++ nx) vs vU2 vD2 vV2 ∧ Own2 wr vU' vU2 ∧ Own2 wr vD' vD2 ∧ Own2 wr vV' vV2 ∧ ∀ x ∈ nx, ∀ q, x.sl.ownBlock = some q → wr.heap.size ≤ q)
    (Pn := fun ch W' => ∃ n, pE fi f vs (a + sizeF d) ts = .error n ∧ ch = [{ v := .iface 119 (.int .i64 (n : Nat)), recovered := false }] ∧ Fr (Sx R vU' vD' vV') wr W')
    hsh hd8 hsz h0 h7 h.bn h.row (by omega) (by omega) hSnb (h.st.ints_no hRl (row_le h.row (by omega))) (by omega) ?_ ?_ ?_
  · refine hCal.mono ?_
    rintro e W' ⟨hf', he⟩
    have hf := Fr.drew.same hf'
    cases hx : pE fi f vs (a + sizeF d) ts with
    | error n =>
      rw [hx] at he
      exact .inl ⟨_, he, n, rfl, rfl, hf⟩
    | ok x =>
      rw [hx] at he
      dsimp only at he
      obtain ⟨hE, rfl, nx, vU2, vD2, vV2, h1, h2, h3, h4, h5, h6⟩ := he
      rw [List.length_append, hnl', ha] at h1
      exact .inr ⟨_, rfl, ⟨x, rfl, by rw [List.length_append, hnl', ha], hE, nx, vU2, vD2, vV2, h1, h2, h3, h4, h5, h6⟩, hf⟩
  · rintro act W k W3 g cap hU ⟨x, hx, rfl, hE, nx, vU2, vD2, vV2, h1, h2, h3, h4, h5, h6⟩ hf3 hf4 hb hrow hg
    obtain ⟨x1, x2, x3⟩ := pE_tk f vs _ _ _ hx
    have hone : cntF x.1 = 1 := pE_one hx
    have hro := roots_one hone (a + sizeF d)
    have hrd : roots a (d.app x.1) = roots a d ++ [((a + sizeF d : Nat) : Int)] := by rw [roots_app, hro]
    have hz3 := hf3.size
    have hz4 := hf4.size
    have hbn3 : Blk W3 (w.heap.size + 1 + 1) 59 _ := h.bn.fr hf3 hSnb
    have hbr3 : Blk W3 (w.heap.size + 1) 59 _ := h.br.fr hf3 (by
      rintro (e | e | e | e)
      · omega
      · exact blk_row h.br h.st.ru (by decide) e
      · exact h.dD _ e (.inl rfl)
      · exact blk_row h.br h.st.rv (by decide) e)
    have hbk3 : Blk W3 w.heap.size 172 _ := h.bk.fr hf3 (by
      rintro (e | e | e | e)
      · omega
      · exact blk_row h.bk h.st.ru (by decide) e
      · exact blk_row h.bk h.st.rn (by decide) e
      · exact blk_row h.bk h.st.rv (by decide) e)
    have hrow3 : W3.ownsRow (w.heap.size + 3) 3 1 (.slice la (roots a d).length lc) (roots a d).length (intsV (roots a d)) := row_keep h.row fun q hq hq2 => hf3.block q hq2 (h.st.ints_no hRl (row_le h.row (by omega)) q hq)
    have hdD2 : ∀ q, vD2.ownBlock = some q → ¬ (q = w.heap.size + 1 ∨ q = w.heap.size + 1 + 1) := fun q hq => by
      rcases h4 q hq with e | e
      · exact h.dD q e
      · omega
    have hst := h2.kid (by omega) (by omega) hrow3 hf4 hbn3 (fun q hq e => hdD2 q hq (.inr e)) (by
      intro y hy q hq hq2
      rcases List.mem_append.1 hy with hy | hy
      · rcases List.mem_append.1 hy with hy | hy
        · have h1 := ((hst0.kids y hy).1.lt q hq).2
          have h2 := (hlo1 q hq2).1
          omega
        · exact (hlo1 q hq2).2 y hy hq
      · have h1 := h6 y hy q hq
        have h2 := (hll1 q hq2).2
        omega)
    rw [List.append_assoc, List.append_assoc] at hst
    refine hQ x (some ⟨g, 0, none⟩) cap nx vU2 vD2 vV2 act W hx hU ?_
    exact {
      bk := hbk3.fr hf4 (by rintro (e | e); (omega); exact blk_row hbk3 hrow3 (by decide) e)
      br := hbr3.fr hf4 (by rintro (e | e); (omega); exact blk_row hbr3 hrow3 (by decide) e)
      bn := by rw [hrd]; simpa using hb
      row := by rw [hrd]; simpa [intsV] using hrow
      u := by rw [List.length_append, szF_app]; omega
      z := by rw [szF_app]; omega
      fr := (h.fr.sx hf3 h.oU h.oD h.oV).trans hf4 fun k hk h' => by
        rcases h' with h' | h'
        · omega
        · have := (hlo1 k h').1; omega
      E := hE.fr hf4 fun h' => by
        have h2 := hr.e3
        rcases h' with h' | h'
        · omega
        · have := (hlo1 _ h').1; omega
      nd := by rw [List.map_append, h.nd, h1, flat_app]
      st := hst
      oU := h.oU.trans h3 hz
      oD := h.oD.trans h4 hz
      oV := h.oV.trans h5 hz
      on := fun q hq => by
        simp only [Value.ownBlock, Option.some.injEq] at hq
        subst hq
        rcases hg with ha | ha
        · refine ⟨(hlo1 _ ha).1, fun y hy hq => ?_⟩
          rcases List.mem_append.1 hy with hy | hy
          · exact (hlo1 _ ha).2 y hy hq
          · have h1 := h6 y hy _ hq
            have h2 := (hll1 _ ha).2
            omega
        · refine ⟨by omega, fun y hy hq => ?_⟩
          have h1 := ((h2.kids y (by simp only [List.mem_append] at hy ⊢; rcases hy with hy | hy; (exact .inl (.inr hy)); exact .inr hy)).1.lt _ hq).2
          omega
      kn := fun y hy q hq => by
        rcases List.mem_append.1 hy with hy | hy
        · exact h.kn y hy q hq
        · exact Nat.le_trans hz (h6 y hy q hq)
      dD := hdD2 }
  · rintro act W ch hd ⟨n, hn, rfl, hf⟩
    exact hF n act W hn hd (h.fr.sx hf h.oU h.oD h.oV)
end Go.Proofs.YtjendlnicbieoaaGreatDoor
