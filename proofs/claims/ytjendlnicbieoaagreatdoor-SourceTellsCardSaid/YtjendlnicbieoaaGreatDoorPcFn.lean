/-
  Package source's reader: slices.Contains, slices.Index at a row of names.
-/
import Derived.Test.YtjendlnicbieoaaGreatDoorNoXp
import Derived.Test.YtjendlnicbieoaaGreatDoorShelf
import Derived.Deep.RegionHeld3
namespace Go.Proofs.YtjendlnicbieoaaGreatDoor
open Go.RowKit Go.Sort

def strB (l : Bs) : ByteArray := ⟨l.toArray⟩
theorem strB_inj {a : Bs} {S : ByteArray} : strB a = S ↔ a = S.data.toList := by
  constructor
  · rintro rfl
    simp [strB]
  · rintro rfl
    rfl
theorem idxFrom_row (S : ByteArray) : ∀ (vs : List Bs) (i : Nat), Lib.idxFromS (vs.map strB) S i = match vs.idxOf? S.data.toList with
    | some k => ((i + k : Nat) : Int)
    | none => -1
  | [], i => rfl
  | v :: r, i => by
    rw [List.map_cons, Lib.idxFromS, List.idxOf?_cons]
    by_cases h : v = S.data.toList
    · rw [if_pos (strB_inj.2 h), h]
      simp
    · rw [if_neg fun e => h (strB_inj.1 e), idxFrom_row S r]
      rw [show (v == S.data.toList) = false by simpa using h]
      cases r.idxOf? S.data.toList with
      | none => rfl
      | some k =>
        show ((i + 1 + k : Nat) : Int) = ((i + (k + 1) : Nat) : Int)
        omega
/-- slices.Index as a number. -/
def idxI : Option Nat → Int
  | some k => (k : Int)
  | none => -1
theorem idx_row (S : ByteArray) (vs : List Bs) : Lib.idxOfS (vs.map strB) S = idxI (vs.idxOf? S.data.toList) := by
  rw [Lib.idxOfS, idxFrom_row]
  cases vs.idxOf? S.data.toList <;> simp [idxI]
theorem contains_row (S : ByteArray) (vs : List Bs) : Lib.containsS (vs.map strB) S = vs.contains S.data.toList := by
  rw [Bool.eq_iff_iff, Lib.containsS_iff, List.contains_iff_mem]
  constructor
  · intro h
    obtain ⟨v, hv, e⟩ := List.mem_map.1 h
    rw [← strB_inj.1 e]
    exact hv
  · intro h
    exact List.mem_map.2 ⟨_, h, rfl⟩
theorem row_names {w : World} {lo g n c : Nat} {vs : List Bs} (h : w.ownsRow lo 9 1 (.slice (some ⟨g, 0, none⟩) n c) n (strsV vs)) : ∀ j, j < (vs.map strB).length → w.cell? ⟨g, 0 + j, none⟩ = some (.string ((vs.map strB).getD j ByteArray.empty)) := by
  intro j hj
  rw [Nat.zero_add]
  rw [List.length_map] at hj
  refine row_c h ?_
  rw [strsV, List.getElem?_map, List.getElem?_eq_getElem hj]
  simp [strB, hj]
theorem contains_any {w : World} {lo : Nat} {a : Option Addr} {c : Nat} {vs : List Bs} (S : ByteArray) (h : w.ownsRow lo 9 1 (.slice a vs.length c) vs.length (strsV vs)) :
    Calls Tryz.prog 86 #[.slice a vs.length c, .string S] w fun e w' => e = .returned (.bool (vs.contains S.data.toList)) ∧ w' = w := by
  obtain ⟨a', c', e, hc1, hc2, hc⟩ := row_form h
  cases vs with
  | nil => exact Tryz.slices_Contains_string_empty a c S w
  | cons v r =>
    obtain ⟨g, rfl, -, -, -⟩ := hc 0 _ rfl
    injection e with e1 _ _
    subst e1
    have := Tryz.slices_Contains_string g 0 (v :: r).length c ((v :: r).map strB) S w (by simp) (by unfold maxLen at hc2; omega) (row_names h)
    rwa [List.take_of_length_le (by simp), contains_row] at this
theorem index_any {w : World} {lo : Nat} {a : Option Addr} {c : Nat} {vs : List Bs} (S : ByteArray) (h : w.ownsRow lo 9 1 (.slice a vs.length c) vs.length (strsV vs)) :
    Calls Tryz.prog 90 #[.slice a vs.length c, .string S] w fun e w' => e = .returned (.int .i64 (idxI (vs.idxOf? S.data.toList))) ∧ w' = w := by
  obtain ⟨a', c', e, hc1, hc2, hc⟩ := row_form h
  cases vs with
  | nil => exact Tryz.slices_Index_string_empty a c S w
  | cons v r =>
    obtain ⟨g, rfl, -, -, -⟩ := hc 0 _ rfl
    injection e with e1 _ _
    subst e1
    have := Tryz.slices_Index_string g 0 (v :: r).length c ((v :: r).map strB) S w (by simp) (by unfold maxLen at hc2; omega) (row_names h)
    rwa [List.take_of_length_le (by simp), idx_row] at this
section
variable {lo R : Nat} {s : ByteArray} {ts : List Tk} {vN : Value} {fa : Option Addr} {fi fc : Nat} {us : List Us} {ns : List NA} {vs : List Bs} {vU vD vV : Value} {w w2 : World}
/-- No variables: r.vars = nil. -/
theorem St.varNil (h : St w lo R s ts vN fa fi fc us ns vs vU vD vV) (hr : RdOk lo R s w) :
    FrB R w (w.setCell ⟨R, 13, none⟩ (.slice none 0 0)) ∧ EnvP (w.setCell ⟨R, 13, none⟩ (.slice none 0 0)) ∧ St (w.setCell ⟨R, 13, none⟩ (.slice none 0 0)) lo R s ts vN fa fi fc us ns [] vU vD (.slice none 0 0) := by
  have hRl := hr.rl
  have he3 := hr.e3
  have hsR : Fr (fun q => q = R) w (w.setCell ⟨R, 13, none⟩ (.slice none 0 0)) := Fr.set (.inl rfl)
  have hkp : ∀ {T : TypeId} {sz n B : Nat} {v : Value} {xs : List Value}, w.ownsRow B T sz v n xs → R < B → (w.setCell ⟨R, 13, none⟩ (.slice none 0 0)).ownsRow B T sz v n xs := fun hrw hB => row_keep hrw fun q hq hq2 => hsR.block q hq2 (by have := row_base hrw q hq; omega)
  exact ⟨hsR, hr.E.fr hsR (by omega), h.rd.setT 4 _, hkp h.ru hRl, hkp h.rn hRl, row_none _ _ _ _, fun x hx => ⟨hkp (h.kids x hx).1 hRl, (h.kids x hx).2⟩⟩
/-- A variable's name is pushed: r.vars = append(r.vars, s). -/
theorem St.varPushed (h : St w lo R s ts vN fa fi fc us ns vs vU vD vV) (hr : RdOk lo R s w) {S : ByteArray} {g cap : Nat} (hf : Fr (fun q => vV.ownBlock = some q) w w2)
    (hrow : w2.ownsRow lo 9 1 (.slice (some ⟨g, 0, none⟩) (vs.length + 1) cap) (vs.length + 1) (strsV vs ++ [.string S])) :
    Fr (fun q => q = R ∨ vV.ownBlock = some q) w (w2.setCell ⟨R, 13, none⟩ (.slice (some ⟨g, 0, none⟩) (vs.length + 1) cap)) ∧ EnvP (w2.setCell ⟨R, 13, none⟩ (.slice (some ⟨g, 0, none⟩) (vs.length + 1) cap)) ∧
      St (w2.setCell ⟨R, 13, none⟩ (.slice (some ⟨g, 0, none⟩) (vs.length + 1) cap)) lo R s ts vN fa fi fc us ns (vs ++ [S.data.toList]) vU vD (.slice (some ⟨g, 0, none⟩) (vs.length + 1) cap) := by
  have hRl := hr.rl
  have hll := hr.ll
  have he3 := hr.e3
  have hdb := row_base h.rv
  have hF : Fr (fun q => q = R ∨ vV.ownBlock = some q) w (w2.setCell ⟨R, 13, none⟩ (.slice (some ⟨g, 0, none⟩) (vs.length + 1) cap)) := (hf.more fun _ _ e => .inr e).same (Fr.set (.inl (.inl rfl)))
  have hsR : Fr (fun q => q = R) w2 (w2.setCell ⟨R, 13, none⟩ (.slice (some ⟨g, 0, none⟩) (vs.length + 1) cap)) := Fr.set (.inl rfl)
  have hkp : ∀ {T : TypeId} {sz n B : Nat} {v : Value} {xs : List Value}, w.ownsRow B T sz v n xs → R < B → T ≠ 9 → (w2.setCell ⟨R, 13, none⟩ (.slice (some ⟨g, 0, none⟩) (vs.length + 1) cap)).ownsRow B T sz v n xs := fun hrw hB hT => row_keep hrw fun q hq hq2 => hF.block q hq2 (by
    rintro (e | e)
    · have := row_base hrw q hq; omega
    · exact rows_ne hrw h.rv hT q hq e)
  refine ⟨hF, hr.E.fr hF (by rintro (e | e); (omega); have := hdb _ e; omega), (h.rd.fr hf fun e => by have := hdb _ e; omega).setT 4 _, hkp h.ru hRl (by decide), hkp h.rn hRl (by decide), ?_, fun x hx => ⟨hkp (h.kids x hx).1 hRl (by decide), (h.kids x hx).2⟩⟩
  have := row_keep hrow fun q hq hq2 => hsR.block q hq2 (by have := row_base hrow q hq; omega)
  simpa [strsV] using this
end
end Go.Proofs.YtjendlnicbieoaaGreatDoor
/-
  Package source's reader: params.
-/
namespace Go.Proofs.YtjendlnicbieoaaGreatDoor
open Go.RowKit Go.Sort

/-- What a call of params leaves. -/
def PaE (r : Except Nat (List Bs × List Tk)) (lo R : Nat) (s : ByteArray) (vN : Value) (fa : Option Addr) (fi fc : Nat) (us : List Us) (ns : List NA) (vU vD : Value) (w : World) (e : Ending) (w' : World) : Prop :=
  FrB R w w' ∧ match r with
    | .error n => e = WrongS n
    | .ok x => EnvP w' ∧ e = .returned (.tuple #[]) ∧ x.1.length ≤ 9 ∧ ∃ vV', St w' lo R s x.2 vN fa fi fc us ns x.1 vU vD vV' ∧ ∀ q, vV'.ownBlock = some q → w.heap.size ≤ q
/-- The state of params' loop. -/
structure PaI (f g : Nat) (vs : List Bs) (ts0 tr : List Tk) (lo R : Nat) (s : ByteArray) (vN : Value) (fa : Option Addr) (fi fc : Nat) (us : List Us) (ns : List NA) (vU vD vV : Value) (w wr : World) : Prop where
  p : pPars f [] ts0 = pPars g vs tr
  g : tr.length ≤ g
  l : vs.length ≤ 9
  fr : FrB R w wr
  E : EnvP wr
  st : St wr lo R s tr vN fa fi fc us ns vs vU vD vV
  oV : ∀ q, vV.ownBlock = some q → w.heap.size ≤ q
def lenC (o : Option Value) : Nat := match o with
  | some v => lenV v
  | none => 0
set_option maxRecDepth 100000 in
set_option maxHeartbeats 4000000 in
theorem params_any (f : Nat) (lo R : Nat) (s : ByteArray) (ts : List Tk) (vN : Value) (fa : Option Addr) (fi fc : Nat) (us : List Us) (ns : List NA) (vs : List Bs) (vU vD vV : Value) (w : World)
    (hl : ts.length ≤ f) (h : St w lo R s ts vN fa fi fc us ns vs vU vD vV) (hr : RdOk lo R s w) :
    Calls Tryz.prog 87 #[.pointer (some ⟨R, 0, none⟩)] w (PaE (pPar f ts) lo R s vN fa fi fc us ns vU vD w) := by
  have c13 : w.cell? ⟨R, 13, none⟩ = some vV := h.rd.tl_ (q := 4) rfl
  have z13 := h.rd.fz 13
  obtain ⟨hf1, hE1, hst1⟩ := h.varNil hr
  go_enter Tryz.func87, Tryz.ntmps87
  go_upto_region 1 with fail
  clear c13 z13
  generalize w.setCell ⟨R, 13, none⟩ (.slice none 0 0) = w1 at *
  have hr1 := hr.to hE1 hf1.size
  have hRl := hr.rl
  have hll := hr.ll
  have hM1 := isMark_any R s _ _ w1 hst1.rd ⟨#[40]⟩ 40 rfl
  cases hm : isM 40 ts with
  | false =>
    have hN1 := need_no hst1.rd hr.sz hE1 hr.ne
    rw [hm] at hM1
    have HE : Hid (pPar f ts = .error (hd ts).ln) := by
      show _ = _
      unfold pPar
      rw [need_f _ hm]
    clear hm
    go_wp2_with first
      | (go_at_call 88; refine hM1.mono ?_; rintro e w2 ⟨rfl, rfl⟩)
      | (go_at_call 83; refine hN1.mono ?_; rintro e w2 ⟨rfl, rfl⟩)
    rw [HE.out]
    exact ⟨rfl, hf1, rfl⟩
  | true =>
    have hN1 := need_yes hst1.rd hr.sz hE1 hr.ne
    rw [hm] at hM1
    have hml := mv_le ts
    have HP : Hid (pPar f ts = sub (if isM 41 (mv ts) = true then .ok ([], mv ts) else pPars f [] (mv ts)) fun x => need (isM 41 x.2) x.2 fun ts2 => .ok (x.1, ts2)) := by
      show _ = _
      unfold pPar
      rw [need_t _ hm]
    clear hm
    go_upto_region 2 with first
      | (go_at_call 88; refine hM1.mono ?_; rintro e w2 ⟨rfl, rfl⟩)
      | (go_at_call 83; refine hN1.mono ?_; rintro e w2 ⟨rfl, hf2, hE2, hR2⟩)
    have hst2 := hst1.moved hr.rl hf2 hR2
    have hf2A := hf1.same hf2
    have hr2 := hr.to hE2 hf2A.size
    have hM2 := isMark_any R s _ _ w2 hst2.rd ⟨#[41]⟩ 41 rfl
    clear hM1 hN1
    cases hm2 : isM 41 (mv ts) with
    | true =>
      have hN2 := need_yes hst2.rd hr.sz hE2 hr.ne
      have HE : Hid (pPar f ts = .ok ([], mv (mv ts))) := by
        show _ = _
        rw [HP.out, if_pos hm2, sub_yes _ rfl]
        dsimp only
        rw [need_t _ hm2]
      rw [hm2] at hM2
      clear hm2
      go_wp2_with first
        | (go_at_call 88; refine hM2.mono ?_; rintro e w3 ⟨rfl, rfl⟩)
        | (go_at_call 83; refine hN2.mono ?_; rintro e w3 ⟨rfl, hf3, hE3, hR3⟩)
      go_end0
      refine ⟨hf2A.same hf3, ?_⟩
      rw [HE.out]
      exact ⟨hE3, rfl, Nat.zero_le _, _, hst2.moved hr.rl hf3 hR3, fun q hq => by cases hq⟩
    | false =>
      have HP2 : Hid (pPar f ts = sub (pPars f [] (mv ts)) fun x => need (isM 41 x.2) x.2 fun ts2 => .ok (x.1, ts2)) := by
        show _ = _
        rw [HP.out, if_neg (by simp [hm2])]
      rw [hm2] at hM2
      clear hm2
      go_wp2_with (go_at_call 88; refine hM2.mono ?_; rintro e w3 ⟨rfl, rfl⟩)
      clear hM2
      go_loopw [2] (fun _ wr => ∃ (g : Nat) (vs : List Bs) (tr : List Tk) (vV : Value), PaI f g vs (mv ts) tr lo R s vN fa fi fc us ns vU vD vV w wr) (fun _ wr => 300 - lenC (wr.cell? ⟨R, 13, none⟩))
      case atStart => exact ⟨f, [], mv ts, _, rfl, by omega, by decide, hf2A, hE2, hst2, fun q hq => by cases hq⟩
      case round =>
        obtain ⟨g, vs3, tr, vV3, hI⟩ := hrel
        have hg1 := Nat.le_trans hI.st.rd.ne_nil hI.g
        obtain ⟨g, rfl⟩ : ∃ g0, g = g0 + 1 := ⟨g - 1, by omega⟩
        have hzr := hI.fr.size
        have hgg := hI.g
        have hl9 := hI.l
        have hNm := name_any R s tr _ wr hI.st.rd
        unfold NameE at hNm
        cases hn : isN tr with
        | false =>
          rw [hn] at hNm
          simp only [Bool.false_eq_true, if_false] at hNm
          unfold WrongS at hNm
          have HE : Hid (pPar f ts = .error (hd tr).ln) := by
            show _ = _
            rw [HP2.out, hI.p, pPars, if_neg (by simp [hn])]
            rfl
          clear hn
          go_wp2_with (go_at_call 85; refine hNm.mono ?_; rintro e w4 ⟨hb4, rfl⟩)
          rw [HE.out]
          exact ⟨rfl, hI.fr.same (Fr.belowAll hb4), rfl⟩
        | true =>
          rw [hn] at hNm
          simp only [if_true] at hNm
          have HE : Hid (pPars f [] (mv ts) = need (decide (vs3.length < 9) && !vs3.contains (hd tr).s) tr fun ts1 => if isM 44 ts1 = true then pPars g (vs3 ++ [(hd tr).s]) (mv ts1) else .ok (vs3 ++ [(hd tr).s], ts1)) := by
            show _ = _
            rw [hI.p, pPars, if_pos hn]
          clear hn
          go_upto_region 4 with (go_at_call 85; refine hNm.mono ?_; rintro e w4 ⟨hb4, S, rfl, hS, hR4⟩)
          have hst4 := hI.st.below hb4
          have hf4 := hI.fr.same (Fr.belowAll (S := fun q => q = R) hb4)
          have hE4 : EnvP w4 := hI.E.fr (S := fun _ => False) (Fr.belowAll hb4) (fun h => h)
          have hz4 := hf4.size
          rw [← hS] at HE
          obtain ⟨va, vc, rfl, hvc, hvm, -⟩ := row_form hst4.rv
          have c13 : w4.cell? ⟨R, 13, none⟩ = some (.slice va vs3.length vc) := hst4.rd.tl_ (q := 4) rfl
          have c13r : wr.cell? ⟨R, 13, none⟩ = some (.slice va vs3.length vc) := hI.st.rd.tl_ (q := 4) rfl
          have hCt := contains_any S hst4.rv
          clear hNm hS hvc hvm
          have hbad : Calls Tryz.prog 83 #[.pointer (some ⟨R, 0, none⟩), .bool false] w4 fun e w' => e = .panicked [{ v := .iface 119 (.int .i64 ((hd tr).ln : Nat)), recovered := false }] ∧ w4 = w' := need_no hst4.rd hr.sz hE4 hr.ne
          by_cases h9 : vs3.length < 9
          case' neg =>
            have hd9 : decide ((vs3.length : Int) < 9) = false := by simp; omega
            have HF : Hid (pPar f ts = .error (hd tr).ln) := by
              show _ = _
              rw [HP2.out, HE.out, need_f _ (by simp [h9])]
              rfl
            clear h9 hCt
            go_wp2_with (go_at_call 83; refine hbad.mono ?_; rintro e w5 ⟨rfl, rfl⟩)
            rw [HF.out]
            exact ⟨rfl, hf4, rfl⟩
          case' pos =>
            have hd9 : decide ((vs3.length : Int) < 9) = true := by simp; omega
            cases hct : vs3.contains S.data.toList with
            | true =>
              have HF : Hid (pPar f ts = .error (hd tr).ln) := by
                show _ = _
                rw [HP2.out, HE.out, need_f _ (by rw [hct]; simp)]
                rfl
              rw [hct] at hCt
              clear h9 hct
              go_wp2_with first
                | (go_at_call 86; refine hCt.mono ?_; rintro e w5 ⟨rfl, rfl⟩)
                | (go_at_call 83; refine hbad.mono ?_; rintro e w5 ⟨rfl, rfl⟩)
              rw [HF.out]
              exact ⟨rfl, hf4, rfl⟩
            | false =>
              have hNy := need_yes hst4.rd hr.sz hE4 hr.ne
              have HG : Hid (pPars f [] (mv ts) = if isM 44 (mv tr) = true then pPars g (vs3 ++ [S.data.toList]) (mv (mv tr)) else .ok (vs3 ++ [S.data.toList], mv tr)) := by
                show _ = _
                rw [HE.out, need_t _ (by rw [hct]; simp [h9])]
              rw [hct] at hCt
              clear hct hbad
              go_upto_region 5 with first
                | (go_at_call 86; refine hCt.mono ?_; rintro e w5 ⟨rfl, rfl⟩)
                | (go_at_call 83; refine hNy.mono ?_; rintro e w5 ⟨rfl, hf5, hE5, hR5⟩)
              have hst5 := hst4.moved hr.rl hf5 hR5
              have hf5A := hf4.same hf5
              have hz5 := hf5A.size
              have hr5 := hr.to hE5 hz5
              have hRw := hst5.rd.lt
              have hvb := row_base hst5.rv
              have hrv := hst5.rv
              have cv : w5.cell? ⟨R, 13, none⟩ = some (.slice va vs3.length vc) := hst5.rd.tl_ (q := 4) rfl
              have hnw := heap_alloc_new w5 (.cells #[.string S] 9)
              clear hCt hNy c13
              go_upto_region 6 with (at_builtin; refine wpList_row _ rfl (.tmp 36) (.tmp 38) 60 9 _ 1 16 Tryz.underlying60 strg_info rfl (by decide) (by decide) rfl lo (.slice va vs3.length vc) vs3.length (strsV vs3) rfl (hrv.alloc _) w5.heap.size [.string S] rfl hnw rfl (by intro u hu; simp at hu; subst hu; rfl) (by omega) (by simp only [World.size_alloc]; omega) ?_; intro g6 cap6 w6 hr6 hg6 ha6; have hf6 : Fr (fun q => (Value.slice va vs3.length vc).ownBlock = some q) w5 w6 := (Fr.alloc _).same (Fr.grown hg6 fun g hg => .inl hg); have hz6 : w6.frozen? ⟨R, 13, none⟩ = false := (Rdr.fr hst5.rd hf6 (fun e => by have := hvb _ e; omega)).fz 13; have hc6 : w6.cell? ⟨R, 13, none⟩ = some (.slice va vs3.length vc) := (hf6.cell hRw (fun e => by have := hvb _ e; omega)).trans cv)
              obtain ⟨hf7, hE7, hst7⟩ := hst5.varPushed hr5 (S := S) hf6 hr6
              clear hz6 hc6 hnw hrv cv
              generalize w6.setCell ⟨R, 13, none⟩ (.slice (some ⟨g6, 0, none⟩) (vs3.length + 1) cap6) = w7 at *
              have hf7A : FrB R w w7 := hf5A.trans hf7 fun k hk e => by
                rcases e with e | e
                · exact e
                · have := hI.oV k e; omega
              have hg6w : w.heap.size ≤ g6 := by
                rcases ha6 with e | e
                · exact hI.oV _ e
                · rw [e, World.size_alloc]; omega
              have hr7 := hr.to hE7 hf7A.size
              have hM7 := isMark_any R s _ _ w7 hst7.rd ⟨#[44]⟩ 44 rfl
              cases hm7 : isM 44 (mv tr) with
              | true =>
                have hMv := move_any R s _ _ w7 hst7.rd hr.sz hE7 hr.ne
                have HH : Hid (pPars f [] (mv ts) = pPars g (vs3 ++ [S.data.toList]) (mv (mv tr))) := by
                  show _ = _
                  rw [HG.out, if_pos hm7]
                have hlt := hst7.rd.mv_lt (isM_ne0 hm7)
                have hle := mv_le tr
                rw [hm7] at hM7
                clear hm7
                go_wp2_with first
                  | (go_at_call 88; refine hM7.mono ?_; rintro e w8 ⟨rfl, rfl⟩)
                  | (go_at_call 59; refine hMv.mono ?_; rintro e w8 ⟨rfl, hf8, hE8, hR8⟩)
                have hst8 := hst7.moved hr.rl hf8 hR8
                have hc8 : w8.cell? ⟨R, 13, none⟩ = some (.slice (some ⟨g6, 0, none⟩) (vs3.length + 1) cap6) := hst8.rd.tl_ (q := 4) rfl
                go_roundw
                case' rel =>
                  exact ⟨g, _, _, _, HH.out, by omega, by simp; omega, hf7A.same hf8, hE8, hst8, fun q hq => by simp only [Value.ownBlock, Option.some.injEq] at hq; omega⟩
                case' measure =>
                  show 300 - lenC (w8.cell? ⟨R, 13, none⟩) < 300 - lenC (wr.cell? ⟨R, 13, none⟩)
                  rw [hc8, c13r]
                  show 300 - (vs3.length + 1) < 300 - vs3.length
                  omega
              | false =>
                have HH : Hid (pPar f ts = need (isM 41 (mv tr)) (mv tr) fun ts2 => .ok (vs3 ++ [S.data.toList], ts2)) := by
                  show _ = _
                  rw [HP2.out, HG.out, if_neg (by simp [hm7])]
                  rfl
                rw [hm7] at hM7
                clear hm7
                go_upto_region 8 with first
                  | (go_at_call 88; refine hM7.mono ?_; rintro e w8 ⟨rfl, rfl⟩)
                  | fail
                have hM8 := isMark_any R s _ _ w7 hst7.rd ⟨#[41]⟩ 41 rfl
                clear hM7
                cases hm8 : isM 41 (mv tr) with
                | false =>
                  have hN8 := need_no hst7.rd hr.sz hE7 hr.ne
                  have HI : Hid (pPar f ts = .error (hd (mv tr)).ln) := by
                    show _ = _
                    rw [HH.out, need_f _ hm8]
                  rw [hm8] at hM8
                  clear hm8
                  go_wp2_with first
                    | (go_at_call 88; refine hM8.mono ?_; rintro e w8 ⟨rfl, rfl⟩)
                    | (go_at_call 83; refine hN8.mono ?_; rintro e w8 ⟨rfl, rfl⟩)
                  rw [HI.out]
                  exact ⟨rfl, hf7A, rfl⟩
                | true =>
                  have hN8 := need_yes hst7.rd hr.sz hE7 hr.ne
                  have HI : Hid (pPar f ts = .ok (vs3 ++ [S.data.toList], mv (mv tr))) := by
                    show _ = _
                    rw [HH.out, need_t _ hm8]
                  rw [hm8] at hM8
                  clear hm8
                  go_wp2_with first
                    | (go_at_call 88; refine hM8.mono ?_; rintro e w8 ⟨rfl, rfl⟩)
                    | (go_at_call 83; refine hN8.mono ?_; rintro e w8 ⟨rfl, hf8, hE8, hR8⟩)
                  go_end0
                  refine ⟨hf7A.same hf8, ?_⟩
                  rw [HI.out]
                  exact ⟨hE8, rfl, by simp; omega, _, hst7.moved hr.rl hf8 hR8, fun q hq => by simp only [Value.ownBlock, Option.some.injEq] at hq; omega⟩
end Go.Proofs.YtjendlnicbieoaaGreatDoor
/-
  Package source's reader: function.
-/
namespace Go.Proofs.YtjendlnicbieoaaGreatDoor
open Go.RowKit Go.Sort

/-- A function that was read, and where its nodes' row lies. -/
structure FA where
  ps : Nat
  ns : List NA
  da : Option Addr
  dc : Nat
def FA.sl (x : FA) : Value := .slice x.da x.ns.length x.dc
def FA.cs (x : FA) : List Value := [.int .i64 (x.ps : Nat), .slice x.da x.ns.length x.dc]
def FA.key (x : FA) : Nat × List Nd := (x.ps, x.ns.map NA.nd)
def FA.Ok (w : World) (lo : Nat) (x : FA) : Prop := w.ownsRow lo 59 3 (.slice x.da x.ns.length x.dc) x.ns.length (x.ns.flatMap NA.cs) ∧ ∀ y ∈ x.ns, y.Ok w lo
def keyF (y : Nat × Fo) : Nat × List Nd := (y.1, flat 0 y.2)
/-- The reader between two functions. -/
structure Sp (w : World) (lo R : Nat) (s : ByteArray) (ts : List Tk) (p : PP) (fas : List FA) (vN : Value) (fa : Option Addr) (fc : Nat) (ns : List NA) (vs : List Bs) (vU vD vV : Value) : Prop where
  st : St w lo R s ts vN fa fas.length fc p.uses ns vs vU vD vV
  rN : w.ownsRow lo 9 1 vN p.names.length (strsV p.names)
  rF : w.ownsRow lo 46 2 (.slice fa fas.length fc) fas.length (fas.flatMap FA.cs)
  fns : ∀ x ∈ fas, x.Ok w lo
  dj : fas.Pairwise fun x y => ∀ q, x.sl.ownBlock = some q → ¬ y.sl.ownBlock = some q
  key : fas.map FA.key = p.fns.map keyF
  ps : ∀ x ∈ fas, x.ps ≤ 9
def SpP (w : World) (lo R : Nat) (s : ByteArray) (ts : List Tk) (p : PP) : Prop := ∃ (fas : List FA) (vN : Value) (fa : Option Addr) (fc : Nat) (ns : List NA) (vs : List Bs) (vU vD vV : Value), Sp w lo R s ts p fas vN fa fc ns vs vU vD vV ∧ p.uses.length ≤ 200 * p.fns.length ∧ p.names.length = p.fns.length ∧ p.fns.length ≤ 64
/-- What a call of function leaves. -/
def FuE (r : Except Nat (PP × List Tk)) (lo R : Nat) (s : ByteArray) (w : World) (e : Ending) (w' : World) : Prop :=
  Fr (fun q => R ≤ q) w w' ∧ match r with
    | .error n => e = WrongS n
    | .ok x => EnvP w' ∧ e = .returned (.tuple #[]) ∧ SpP w' lo R s x.2 x.1
section
variable {w w' : World} {lo R : Nat} {S : Nat → Prop}
theorem FA.Ok.fr {x : FA} (h : x.Ok w lo) (hf : Fr S w w') (hS : ∀ q, x.sl.ownBlock = some q → ¬ S q) (hN : ∀ y ∈ x.ns, ∀ q, y.sl.ownBlock = some q → ¬ S q) : x.Ok w' lo :=
  ⟨row_keep h.1 fun q hq hq2 => hf.block q hq2 (hS q hq), fun y hy => (h.2 y hy).fr hf (hN y hy)⟩
end
theorem fun_info : (Tryz.prog.info? 46).map (fun i => (i.zero, i.size, i.bytes)) = some (some (.agg #[.int .i64 0, .slice none 0 0]), 2, 32) := by kernel_rfl
section
variable {lo R : Nat} {s : ByteArray} {ts ts' : List Tk} {p : PP} {fas : List FA} {vN : Value} {fa : Option Addr} {fc : Nat} {ns ns' : List NA} {vs vs' : List Bs} {vU vD vV vD' vV' : Value} {w w' : World}
/-- What keeps all own blocks but R's keeps the reader. -/
theorem Sp.to (h : Sp w lo R s ts p fas vN fa fc ns vs vU vD vV) (hR : R < lo) (hf : FrB R w w') (hst : St w' lo R s ts' vN fa fas.length fc p.uses ns' vs' vU vD' vV') : Sp w' lo R s ts' p fas vN fa fc ns' vs' vU vD' vV' := by
  have hkp : ∀ {T : TypeId} {sz n : Nat} {v : Value} {xs : List Value}, w.ownsRow lo T sz v n xs → w'.ownsRow lo T sz v n xs := fun hrw => row_keep hrw fun q hq hq2 => hf.block q hq2 (by have := row_base hrw q hq; omega)
  exact { h with st := hst, rN := hkp h.rN, rF := hkp h.rF, fns := fun x hx => ⟨hkp (h.fns x hx).1, fun y hy => ⟨hkp ((h.fns x hx).2 y hy).1, ((h.fns x hx).2 y hy).2⟩⟩ }
theorem Sp.below (h : Sp w lo R s ts p fas vN fa fc ns vs vU vD vV) (hb : Below w.heap.size w w') : Sp w' lo R s ts p fas vN fa fc ns vs vU vD vV := by
  have hkp : ∀ {T : TypeId} {sz n : Nat} {v : Value} {xs : List Value}, w.ownsRow lo T sz v n xs → w'.ownsRow lo T sz v n xs := fun hrw => row_keep hrw fun q _ hq => hb.block q hq
  exact { h with st := h.st.below hb, rN := hkp h.rN, rF := hkp h.rF, fns := fun x hx => ⟨hkp (h.fns x hx).1, fun y hy => ⟨hkp ((h.fns x hx).2 y hy).1, ((h.fns x hx).2 y hy).2⟩⟩ }
theorem Sp.flen (h : Sp w lo R s ts p fas vN fa fc ns vs vU vD vV) : fas.length = p.fns.length := by
  have := congrArg List.length h.key
  simpa using this
end
section
variable {lo R : Nat} {s : ByteArray} {ts ts' : List Tk} {p : PP} {fas : List FA} {vN : Value} {fa : Option Addr} {fc : Nat} {us us' : List Us} {ns ns' : List NA} {vs vs' : List Bs} {vU vD vV vU' vD' vV' : Value} {w w2 w' : World}
/-- No nodes: r.nodes = nil. -/
theorem Sp.nodesNil (h : Sp w lo R s ts p fas vN fa fc ns vs vU vD vV) (hr : RdOk lo R s w) :
    FrB R w (w.setCell ⟨R, 12, none⟩ (.slice none 0 0)) ∧ EnvP (w.setCell ⟨R, 12, none⟩ (.slice none 0 0)) ∧ Sp (w.setCell ⟨R, 12, none⟩ (.slice none 0 0)) lo R s ts p fas vN fa fc [] vs vU (.slice none 0 0) vV := by
  have hRl := hr.rl
  have he3 := hr.e3
  have hsR : FrB R w (w.setCell ⟨R, 12, none⟩ (.slice none 0 0)) := Fr.set (.inl rfl)
  have hkp : ∀ {T : TypeId} {sz n B : Nat} {v : Value} {xs : List Value}, w.ownsRow B T sz v n xs → R < B → (w.setCell ⟨R, 12, none⟩ (.slice none 0 0)).ownsRow B T sz v n xs := fun hrw hB => row_keep hrw fun q hq hq2 => hsR.block q hq2 (by have := row_base hrw q hq; omega)
  exact ⟨hsR, hr.E.fr hsR (by omega), h.to hRl hsR ⟨h.st.rd.setT 3 _, hkp h.st.ru hRl, row_none _ _ _ _, hkp h.st.rv hRl, fun x hx => by cases hx⟩⟩
/-- A name is pushed: r.names = append(r.names, s). -/
theorem Sp.namePushed (h : Sp w lo R s ts p fas vN fa fc ns vs vU vD vV) (hr : RdOk lo R s w) {S : ByteArray} {g cap : Nat} (hNV : ∀ q, vN.ownBlock = some q → ¬ vV.ownBlock = some q) (hf : Fr (fun q => vN.ownBlock = some q) w w2)
    (hrow : w2.ownsRow lo 9 1 (.slice (some ⟨g, 0, none⟩) (p.names.length + 1) cap) (p.names.length + 1) (strsV p.names ++ [.string S])) :
    Fr (fun q => q = R ∨ vN.ownBlock = some q) w (w2.setCell ⟨R, 9, none⟩ (.slice (some ⟨g, 0, none⟩) (p.names.length + 1) cap)) ∧ EnvP (w2.setCell ⟨R, 9, none⟩ (.slice (some ⟨g, 0, none⟩) (p.names.length + 1) cap)) ∧
      Sp (w2.setCell ⟨R, 9, none⟩ (.slice (some ⟨g, 0, none⟩) (p.names.length + 1) cap)) lo R s ts ⟨p.names ++ [S.data.toList], p.fns, p.uses⟩ fas (.slice (some ⟨g, 0, none⟩) (p.names.length + 1) cap) fa fc ns vs vU vD vV := by
  have hRl := hr.rl
  have hll := hr.ll
  have he3 := hr.e3
  have hdb := row_base h.rN
  have hF : Fr (fun q => q = R ∨ vN.ownBlock = some q) w (w2.setCell ⟨R, 9, none⟩ (.slice (some ⟨g, 0, none⟩) (p.names.length + 1) cap)) := (hf.more fun _ _ e => .inr e).same (Fr.set (.inl (.inl rfl)))
  have hsR : Fr (fun q => q = R) w2 (w2.setCell ⟨R, 9, none⟩ (.slice (some ⟨g, 0, none⟩) (p.names.length + 1) cap)) := Fr.set (.inl rfl)
  have hkp : ∀ {T : TypeId} {sz n B : Nat} {v : Value} {xs : List Value}, w.ownsRow B T sz v n xs → R < B → T ≠ 9 → (w2.setCell ⟨R, 9, none⟩ (.slice (some ⟨g, 0, none⟩) (p.names.length + 1) cap)).ownsRow B T sz v n xs := fun hrw hB hT => row_keep hrw fun q hq hq2 => hF.block q hq2 (by
    rintro (e | e)
    · have := row_base hrw q hq; omega
    · exact rows_ne hrw h.rN hT q hq e)
  have hst := h.st
  refine ⟨hF, hr.E.fr hF (by rintro (e | e); (omega); have := hdb _ e; omega), ?_⟩
  exact { h with
    st := ⟨(hst.rd.fr hf fun e => by have := hdb _ e; omega).setT 0 _, hkp hst.ru hRl (by decide), hkp hst.rn hRl (by decide), row_keep hst.rv fun q hq hq2 => hF.block q hq2 (by
        rintro (e | e)
        · have := row_base hst.rv q hq; omega
        · exact hNV q e hq), fun x hx => ⟨hkp (hst.kids x hx).1 hRl (by decide), (hst.kids x hx).2⟩⟩
    rN := by
      have := row_keep hrow fun q hq hq2 => hsR.block q hq2 (by have := row_base hrow q hq; omega)
      simpa [strsV] using this
    rF := hkp h.rF hRl (by decide)
    fns := fun x hx => ⟨hkp (h.fns x hx).1 hRl (by decide), fun y hy => ⟨hkp ((h.fns x hx).2 y hy).1 hRl (by decide), ((h.fns x hx).2 y hy).2⟩⟩ }
/-- An expression has been read. -/
theorem Sp.expr (h : Sp w lo R s ts p fas vN fa fc [] vs vU (.slice none 0 0) vV) (hR : R < lo) (hNV : ∀ q, vN.ownBlock = some q → ¬ vV.ownBlock = some q) (hf : Fr (Sx R vU (.slice none 0 0) vV) w w')
    (hst : St w' lo R s ts' vN fa fas.length fc (p.uses ++ us') ns' vs vU' vD' vV') : Sp w' lo R s ts' ⟨p.names, p.fns, p.uses ++ us'⟩ fas vN fa fc ns' vs vU' vD' vV' := by
  have hkp : ∀ {T : TypeId} {sz n : Nat} {v : Value} {xs : List Value}, w.ownsRow lo T sz v n xs → T ≠ 9 → T ≠ 152 → w'.ownsRow lo T sz v n xs := fun hrw hT hT2 => row_keep hrw fun q hq hq2 => hf.block q hq2 (by
    rintro (e | e | e | e)
    · have := row_base hrw q hq; omega
    · exact rows_ne hrw h.st.ru hT2 q hq e
    · cases e
    · exact rows_ne hrw h.st.rv hT q hq e)
  exact { h with
    st := hst
    rN := row_keep h.rN fun q hq hq2 => hf.block q hq2 (by
      rintro (e | e | e | e)
      · have := row_base h.rN q hq; omega
      · exact rows_ne h.rN h.st.ru (by decide) q hq e
      · cases e
      · exact hNV q hq e)
    rF := hkp h.rF (by decide) (by decide)
    fns := fun x hx => ⟨hkp (h.fns x hx).1 (by decide) (by decide), fun y hy => ⟨hkp ((h.fns x hx).2 y hy).1 (by decide) (by decide), ((h.fns x hx).2 y hy).2⟩⟩ }
/-- A function is pushed: r.funs = append(r.funs, api.Fun{..}). -/
theorem Sp.funPushed {da : Option Addr} {dc g cap : Nat} {t : Fo} (h : Sp w lo R s ts p fas vN fa fc ns vs vU (.slice da ns.length dc) vV) (hr : RdOk lo R s w) (hf : Fr (fun q => (Value.slice fa fas.length fc).ownBlock = some q) w w2)
    (hD : ∀ x ∈ fas, ∀ q, x.sl.ownBlock = some q → ¬ (Value.slice da ns.length dc).ownBlock = some q) (hnd : ns.map NA.nd = flat 0 t) (hv9 : vs.length ≤ 9)
    (hrow : w2.ownsRow lo 46 2 (.slice (some ⟨g, 0, none⟩) (fas.length + 1) cap) (fas.length + 1) (fas.flatMap FA.cs ++ [.int .i64 (vs.length : Nat), .slice da ns.length dc])) :
    Fr (fun q => q = R ∨ (Value.slice fa fas.length fc).ownBlock = some q) w (w2.setCell ⟨R, 10, none⟩ (.slice (some ⟨g, 0, none⟩) (fas.length + 1) cap)) ∧ EnvP (w2.setCell ⟨R, 10, none⟩ (.slice (some ⟨g, 0, none⟩) (fas.length + 1) cap)) ∧
      Sp (w2.setCell ⟨R, 10, none⟩ (.slice (some ⟨g, 0, none⟩) (fas.length + 1) cap)) lo R s ts ⟨p.names, p.fns ++ [(vs.length, t)], p.uses⟩ (fas ++ [⟨vs.length, ns, da, dc⟩]) vN (some ⟨g, 0, none⟩) cap ns vs vU (.slice da ns.length dc) vV := by
  have hRl := hr.rl
  have hll := hr.ll
  have he3 := hr.e3
  have hdb := row_base h.rF
  have hF : Fr (fun q => q = R ∨ (Value.slice fa fas.length fc).ownBlock = some q) w (w2.setCell ⟨R, 10, none⟩ (.slice (some ⟨g, 0, none⟩) (fas.length + 1) cap)) := (hf.more fun _ _ e => .inr e).same (Fr.set (.inl (.inl rfl)))
  have hsR : Fr (fun q => q = R) w2 (w2.setCell ⟨R, 10, none⟩ (.slice (some ⟨g, 0, none⟩) (fas.length + 1) cap)) := Fr.set (.inl rfl)
  have hkp : ∀ {T : TypeId} {sz n B : Nat} {v : Value} {xs : List Value}, w.ownsRow B T sz v n xs → R < B → T ≠ 46 → (w2.setCell ⟨R, 10, none⟩ (.slice (some ⟨g, 0, none⟩) (fas.length + 1) cap)).ownsRow B T sz v n xs := fun hrw hB hT => row_keep hrw fun q hq hq2 => hF.block q hq2 (by
    rintro (e | e)
    · have := row_base hrw q hq; omega
    · exact rows_ne hrw h.rF hT q hq e)
  have hst := h.st
  have hle : (fas ++ [(⟨vs.length, ns, da, dc⟩ : FA)]).length = fas.length + 1 := by simp
  refine ⟨hF, hr.E.fr hF (by rintro (e | e); (omega); have := hdb _ e; omega), ?_⟩
  exact {
    st := by
      rw [hle]
      exact ⟨(hst.rd.fr hf fun e => by have := hdb _ e; omega).setT 1 _, hkp hst.ru hRl (by decide), hkp hst.rn hRl (by decide), hkp hst.rv hRl (by decide), fun x hx => ⟨hkp (hst.kids x hx).1 hRl (by decide), (hst.kids x hx).2⟩⟩
    rN := hkp h.rN hRl (by decide)
    rF := by
      have := row_keep hrow fun q hq hq2 => hsR.block q hq2 (by have := row_base hrow q hq; omega)
      rw [hle]
      simpa [FA.cs] using this
    fns := fun x hx => by
      rcases List.mem_append.1 hx with hx | hx
      · exact ⟨hkp (h.fns x hx).1 hRl (by decide), fun y hy => ⟨hkp ((h.fns x hx).2 y hy).1 hRl (by decide), ((h.fns x hx).2 y hy).2⟩⟩
      · rw [List.mem_singleton.1 hx]
        exact ⟨hkp hst.rn hRl (by decide), fun y hy => ⟨hkp (hst.kids y hy).1 hRl (by decide), (hst.kids y hy).2⟩⟩
    dj := List.pairwise_append.2 ⟨h.dj, List.pairwise_singleton _ _, fun x hx y hy q hq => by
      rw [List.mem_singleton.1 hy]
      exact hD x hx q hq⟩
    key := by simp [h.key, FA.key, keyF, hnd]
    ps := fun x hx => by
      rcases List.mem_append.1 hx with hx | hx
      · exact h.ps x hx
      · rw [List.mem_singleton.1 hx]
        exact hv9 }
end
theorem pPars_le : ∀ (f : Nat) (vs : List Bs) (ts : List Tk) (x : List Bs × List Tk), pPars f vs ts = .ok x → x.2.length ≤ ts.length
  | 0, vs, ts, x, h => by cases h
  | f + 1, vs, ts, x, h => by
    rw [pPars] at h
    split at h
    · obtain ⟨-, h⟩ := need_is h
      have m1 := mv_le ts
      have m2 := mv_le (mv ts)
      split at h
      · have := pPars_le f _ _ _ h
        omega
      · injection h with h
        subst h
        exact m1
    · cases h
theorem pPar_le {f : Nat} {ts : List Tk} {x : List Bs × List Tk} (h : pPar f ts = .ok x) : x.2.length ≤ ts.length := by
  unfold pPar at h
  obtain ⟨-, h⟩ := need_is h
  obtain ⟨y, h1, h⟩ := sub_is h
  obtain ⟨-, h⟩ := need_is h
  injection h with h
  subst h
  have m1 := mv_le ts
  have m2 := mv_le y.2
  split at h1
  · injection h1 with h1
    subst h1
    dsimp only at m2 ⊢
    omega
  · have := pPars_le _ _ _ _ h1
    dsimp only
    omega
set_option maxRecDepth 100000 in
set_option maxHeartbeats 4000000 in
theorem function_any (g : Nat) (lo R : Nat) (s : ByteArray) (ts : List Tk) (p : PP) (w : World) (hl : ts.length ≤ g) (h : SpP w lo R s ts p) (hr : RdOk lo R s w) :
    Calls Tryz.prog 60 #[.pointer (some ⟨R, 0, none⟩)] w (FuE (pFun g p ts) lo R s w) := by
  obtain ⟨fas, vN, fa, fc, ns, vs, vU, vD, vV, h, hul, hnl, hfl⟩ := h
  have HNL := Lib.hid hnl
  have hnl2 : p.names.length ≤ 64 := by omega
  clear hnl
  have hRl := hr.rl
  have hll := hr.ll
  have HFL := Lib.hid h.flen
  have hfl64 : fas.length ≤ 64 := by rw [HFL.out]; exact hfl
  have c10 : w.cell? ⟨R, 10, none⟩ = some (.slice fa fas.length fc) := h.st.rd.tl_ (q := 1) rfl
  have hM1 := isWord_any R s _ _ w h.st.rd ⟨#[102, 117, 110]⟩ wFun rfl
  have hbad : Calls Tryz.prog 83 #[.pointer (some ⟨R, 0, none⟩), .bool false] w fun e w' => e = .panicked [{ v := .iface 119 (.int .i64 ((hd ts).ln : Nat)), recovered := false }] ∧ w = w' := need_no h.st.rd hr.sz hr.E hr.ne
  by_cases hw1 : isW wFun ts = true ∧ fas.length < 64
  case' neg =>
    have HE : Hid (pFun g p ts = .error (hd ts).ln) := by
      show _ = _
      unfold pFun
      rw [need_f _ (by rw [HFL.out] at hw1; cases hq : isW wFun ts <;> simp_all)]
    have hq : isW wFun ts = false ∨ (isW wFun ts = true ∧ decide ((fas.length : Int) < 64) = false) := by
      cases hq : isW wFun ts with
      | false => exact .inl rfl
      | true => exact .inr ⟨rfl, by have : ¬ fas.length < 64 := fun hh => hw1 ⟨hq, hh⟩; simp; omega⟩
    clear hw1
    rcases hq with q1 | ⟨q1, q2⟩
    all_goals
      rw [q1] at hM1
      clear q1
      go_enter Tryz.func60, Tryz.ntmps60
      go_wp2_with first
        | (go_at_call 84; refine hM1.mono ?_; rintro e w2 ⟨rfl, rfl⟩)
        | (go_at_call 83; refine hbad.mono ?_; rintro e w2 ⟨rfl, rfl⟩)
      rw [HE.out]
      exact ⟨rfl, Fr.refl _ _, rfl⟩
  case' pos =>
    obtain ⟨hw1, hfi⟩ := hw1
    have q2 : decide ((fas.length : Int) < 64) = true := by simp; omega
    have hN1 := need_yes h.st.rd hr.sz hr.E hr.ne
    rw [hw1] at hM1
    have HP : Hid (pFun g p ts = if isN (mv ts) = true then need (!p.names.contains (hd (mv ts)).s) (mv ts) fun ts2 => sub (pPar g ts2) fun x => need (isM 61 x.2) x.2 fun ts3 => sub (pE p.fns.length g x.1 0 ts3) fun y =>
        .ok (⟨p.names ++ [(hd (mv ts)).s], p.fns ++ [(x.1.length, y.1)], p.uses ++ y.2.1⟩, y.2.2) else .error (hd (mv ts)).ln) := by
      show _ = _
      unfold pFun
      rw [need_t _ (by rw [hw1, ← HFL.out]; simpa using hfi)]
    clear hw1 hbad
    have hml := mv_le ts
    go_enter Tryz.func60, Tryz.ntmps60
    go_upto_region 1 with first
      | (go_at_call 84; refine hM1.mono ?_; rintro e w2 ⟨rfl, rfl⟩)
      | (go_at_call 83; refine hN1.mono ?_; rintro e w2 ⟨rfl, hf2, hE2, hR2⟩)
    have h2 := h.to hRl hf2 (h.st.moved hRl hf2 hR2)
    have hf2A : Fr (fun q => R ≤ q) w w2 := hf2.more fun k _ e => by omega
    have hr2 := hr.to hE2 hf2A.size
    have hNm := name_any R s _ _ w2 h2.st.rd
    unfold NameE at hNm
    clear hM1 hN1 c10
    cases hn : isN (mv ts) with
    | false =>
      rw [hn] at hNm
      simp only [Bool.false_eq_true, if_false] at hNm
      unfold WrongS at hNm
      have HE : Hid (pFun g p ts = .error (hd (mv ts)).ln) := by
        show _ = _
        rw [HP.out, if_neg (by simp [hn])]
      clear hn
      go_wp2_with (go_at_call 85; refine hNm.mono ?_; rintro e w3 ⟨hb3, rfl⟩)
      rw [HE.out]
      exact ⟨rfl, hf2A.same (Fr.belowAll hb3), rfl⟩
    | true =>
      rw [hn] at hNm
      simp only [if_true] at hNm
      have HP2 : Hid (pFun g p ts = need (!p.names.contains (hd (mv ts)).s) (mv ts) fun ts2 => sub (pPar g ts2) fun x => need (isM 61 x.2) x.2 fun ts3 => sub (pE p.fns.length g x.1 0 ts3) fun y =>
          .ok (⟨p.names ++ [(hd (mv ts)).s], p.fns ++ [(x.1.length, y.1)], p.uses ++ y.2.1⟩, y.2.2)) := by
        show _ = _
        rw [HP.out, if_pos hn]
      clear hn
      go_upto_region 2 with (go_at_call 85; refine hNm.mono ?_; rintro e w3 ⟨hb3, S, rfl, hS, hR3⟩)
      have h3 := h2.below hb3
      have hf3A := hf2A.same (Fr.belowAll (S := fun q => R ≤ q) hb3)
      have hE3 : EnvP w3 := hE2.fr (S := fun _ => False) (Fr.belowAll hb3) (fun h => h)
      have hr3 := hr.to hE3 hf3A.size
      rw [← hS] at HP2
      obtain ⟨na, nc, rfl, -⟩ := row_form h3.rN
      have c9 : w3.cell? ⟨R, 9, none⟩ = some (.slice na p.names.length nc) := h3.st.rd.tl_ (q := 0) rfl
      have hCt := contains_any S h3.rN
      clear hNm hS
      cases hct : p.names.contains S.data.toList with
      | true =>
        have hbad : Calls Tryz.prog 83 #[.pointer (some ⟨R, 0, none⟩), .bool false] w3 fun e w' => e = .panicked [{ v := .iface 119 (.int .i64 ((hd (mv ts)).ln : Nat)), recovered := false }] ∧ w3 = w' := need_no h3.st.rd hr.sz hE3 hr.ne
        have HE : Hid (pFun g p ts = .error (hd (mv ts)).ln) := by
          show _ = _
          rw [HP2.out, need_f _ (by rw [hct]; rfl)]
        rw [hct] at hCt
        clear hct
        go_wp2_with first
          | (go_at_call 86; refine hCt.mono ?_; rintro e w5 ⟨rfl, rfl⟩)
          | (go_at_call 83; refine hbad.mono ?_; rintro e w5 ⟨rfl, rfl⟩)
        rw [HE.out]
        exact ⟨rfl, hf3A, rfl⟩
      | false =>
        have hNy := need_yes h3.st.rd hr.sz hE3 hr.ne
        have HP3 : Hid (pFun g p ts = sub (pPar g (mv (mv ts))) fun x => need (isM 61 x.2) x.2 fun ts3 => sub (pE p.fns.length g x.1 0 ts3) fun y =>
            .ok (⟨p.names ++ [S.data.toList], p.fns ++ [(x.1.length, y.1)], p.uses ++ y.2.1⟩, y.2.2)) := by
          show _ = _
          rw [HP2.out, need_t _ (by rw [hct]; rfl)]
        rw [hct] at hCt
        clear hct
        go_upto_region 3 with first
          | (go_at_call 86; refine hCt.mono ?_; rintro e w5 ⟨rfl, rfl⟩)
          | (go_at_call 83; refine hNy.mono ?_; rintro e w5 ⟨rfl, hf5, hE5, hR5⟩)
        have h5 := h3.to hRl hf5 (h3.st.moved hRl hf5 hR5)
        have hf5A := hf3A.same (hf5.more fun k _ e => by omega)
        have hz5 := hf5A.size
        have hr5 := hr.to hE5 hz5
        have hml2 := mv_le (mv ts)
        have hPm := params_any g lo R s _ _ fa fas.length fc p.uses ns vs vU vD vV w5 (by omega) h5.st hr5
        clear hCt hNy c9
        obtain ⟨r, hrr⟩ : ∃ r, pPar g (mv (mv ts)) = r := ⟨_, rfl⟩
        rw [hrr] at hPm
        cases r with
        | error n =>
          have HE : Hid (pFun g p ts = .error n) := by
            show _ = _
            rw [HP3.out, hrr]
            rfl
          have hPm2 : Calls Tryz.prog 87 #[.pointer (some ⟨R, 0, none⟩)] w5 fun e w' => e = .panicked [{ v := .iface 119 (.int .i64 (n : Nat)), recovered := false }] ∧ FrB R w5 w' := hPm.mono fun e w' he => ⟨he.2, he.1⟩
          clear hrr hPm
          go_wp2_with (go_at_call 87; refine hPm2.mono ?_; rintro e w6 ⟨rfl, hf6⟩)
          rw [HE.out]
          exact ⟨rfl, hf5A.same (hf6.more fun k _ e => by omega), rfl⟩
        | ok x =>
          obtain ⟨vs6, ts6⟩ := x
          have HP4 : Hid (pFun g p ts = need (isM 61 ts6) ts6 fun ts3 => sub (pE p.fns.length g vs6 0 ts3) fun y =>
              .ok (⟨p.names ++ [S.data.toList], p.fns ++ [(vs6.length, y.1)], p.uses ++ y.2.1⟩, y.2.2)) := by
            show _ = _
            rw [HP3.out, hrr]
            rfl
          have hle6 := pPar_le hrr
          dsimp only at hle6
          clear hrr
          go_upto_region 4 with (go_at_call 87; refine hPm.mono ?_; rintro e w6 ⟨hf6, hE6, rfl, hv9, vV6, hst6, hnew6⟩)
          have h6 := h5.to hRl hf6 hst6
          have hf6A := hf5A.same (hf6.more fun k _ e => by omega)
          have hM6 := isMark_any R s _ _ w6 h6.st.rd ⟨#[61]⟩ 61 rfl
          clear hPm
          cases hm6 : isM 61 ts6 with
          | false =>
            have hN6 := need_no h6.st.rd hr.sz hE6 hr.ne
            have HE : Hid (pFun g p ts = .error (hd ts6).ln) := by
              show _ = _
              rw [HP4.out, need_f _ hm6]
            rw [hm6] at hM6
            clear hm6
            go_wp2_with first
              | (go_at_call 88; refine hM6.mono ?_; rintro e w8 ⟨rfl, rfl⟩)
              | (go_at_call 83; refine hN6.mono ?_; rintro e w8 ⟨rfl, rfl⟩)
            rw [HE.out]
            exact ⟨rfl, hf6A, rfl⟩
          | true =>
            have hN6 := need_yes h6.st.rd hr.sz hE6 hr.ne
            have HP5 : Hid (pFun g p ts = sub (pE p.fns.length g vs6 0 (mv ts6)) fun y =>
                .ok (⟨p.names ++ [S.data.toList], p.fns ++ [(vs6.length, y.1)], p.uses ++ y.2.1⟩, y.2.2)) := by
              show _ = _
              rw [HP4.out, need_t _ hm6]
            rw [hm6] at hM6
            clear hm6
            go_upto_region 5 with first
              | (go_at_call 88; refine hM6.mono ?_; rintro e w7 ⟨rfl, rfl⟩)
              | (go_at_call 83; refine hN6.mono ?_; rintro e w7 ⟨rfl, hf7, hE7, hR7⟩)
            have h7 := h6.to hRl hf7 (h6.st.moved hRl hf7 hR7)
            have hf7A := hf6A.same (hf7.more fun k _ e => by omega)
            have hr7 := hr.to hE7 hf7A.size
            have hml6 := mv_le ts6
            clear hM6 hN6
            obtain ⟨va, vc, rfl, -⟩ := row_form h7.st.rv
            have c13 : w7.cell? ⟨R, 13, none⟩ = some (.slice va vs6.length vc) := h7.st.rd.tl_ (q := 4) rfl
            have c12 : w7.cell? ⟨R, 12, none⟩ = some vD := h7.st.rd.tl_ (q := 3) rfl
            have z12 := h7.st.rd.fz 12
            go_upto_region 7 with fail
            obtain ⟨hf8, hE8, h8⟩ := h7.nodesNil hr7
            clear c12 c13 z12
            generalize w7.setCell ⟨R, 12, none⟩ (.slice none 0 0) = w8 at *
            have hf8A := hf7A.same (hf8.more fun k _ e => by omega)
            have hz8 := hf8A.size
            have hr8 := hr.to hE8 hz8
            have cv : w8.cell? ⟨R, 9, none⟩ = some (.slice na p.names.length nc) := h8.st.rd.tl_ (q := 0) rfl
            have hNV : ∀ q, (Value.slice na p.names.length nc).ownBlock = some q → ¬ (Value.slice va vs6.length vc).ownBlock = some q := fun q h1 h2 => by
              have e1 := (h5.rN.lt q h1).2
              have e2 := hnew6 q h2
              omega
            have hRw := h8.st.rd.lt
            have hvb := row_base h8.rN
            have hrv := h8.rN
            have hnw := heap_alloc_new w8 (.cells #[.string S] 9)
            go_upto_region 8 with (at_builtin; refine wpList_row _ rfl (.tmp 45) (.tmp 47) 60 9 _ 1 16 Tryz.underlying60 strg_info rfl (by decide) (by decide) rfl lo (.slice na p.names.length nc) p.names.length (strsV p.names) rfl (hrv.alloc _) w8.heap.size [.string S] rfl hnw rfl (by intro u hu; simp at hu; subst hu; rfl) (by omega) (by simp only [World.size_alloc]; omega) ?_; intro g9 cap9 w9 hr9 hg9 ha9; have hf9 : Fr (fun q => (Value.slice na p.names.length nc).ownBlock = some q) w8 w9 := (Fr.alloc _).same (Fr.grown hg9 fun g hg => .inl hg); have hz9 : w9.frozen? ⟨R, 9, none⟩ = false := (Rdr.fr h8.st.rd hf9 (fun e => by have := hvb _ e; omega)).fz 9; have hc9 : w9.cell? ⟨R, 9, none⟩ = some (.slice na p.names.length nc) := (hf9.cell hRw (fun e => by have := hvb _ e; omega)).trans cv)
            obtain ⟨hf10, hE10, h10⟩ := h8.namePushed hr8 (S := S) hNV hf9 hr9
            have hNV10 : ∀ q, (Value.slice (some ⟨g9, 0, none⟩) (p.names.length + 1) cap9).ownBlock = some q → ¬ (Value.slice va vs6.length vc).ownBlock = some q := fun q h1 h2 => by
              simp only [Value.ownBlock, Option.some.injEq] at h1
              subst h1
              rcases ha9 with e | e
              · exact hNV _ e h2
              · rw [World.size_alloc] at e
                have := (h8.st.rv.lt _ h2).2
                omega
            clear hz9 hc9 hnw hrv cv
            generalize w9.setCell ⟨R, 9, none⟩ (.slice (some ⟨g9, 0, none⟩) (p.names.length + 1) cap9) = w10 at *
            have hf10A := hf8A.same (hf10.more fun k _ e => by
              rcases e with e | e
              · omega
              · have := hvb k e; omega)
            have hz10 := hf10A.size
            have hr10 := hr.to hE10 hz10
            have hXp := expr_any g lo R s (mv ts6) _ fa fas.length fc p.uses [] vs6 vU _ _ w10 (by omega) h10.st (by rw [HFL.out]; simpa using hul) (by omega) (by simp) (by simp; omega) hRl hr10.ll hr.sz hE10 hr.e3
            obtain ⟨r, hrr⟩ : ∃ r, pE fas.length g vs6 0 (mv ts6) = r := ⟨_, rfl⟩
            simp only [List.length_nil] at hXp
            rw [hrr] at hXp
            have HP6 := Lib.hid (HP5.out.trans (show _ = sub r fun y => .ok (⟨p.names ++ [S.data.toList], p.fns ++ [(vs6.length, y.1)], p.uses ++ y.2.1⟩, y.2.2) by rw [← HFL.out, hrr]))
            cases r with
            | error n =>
              have hXp2 : Calls Tryz.prog 89 #[.pointer (some ⟨R, 0, none⟩)] w10 fun e w' => e = .panicked [{ v := .iface 119 (.int .i64 (n : Nat)), recovered := false }] ∧ Fr (fun q => R ≤ q) w w' := hXp.mono fun e w' he => ⟨he.2, hf10A.trans he.1 fun k hk e => by
                rcases e with e | e | e | e
                · omega
                · have := row_base h10.st.ru k e; omega
                · cases e
                · have := row_base h10.st.rv k e; omega⟩
              clear hrr hXp
              go_wp2_with (go_at_call 89; refine hXp2.mono ?_; rintro e w11 ⟨rfl, hf11⟩)
              rw [HP6.out]
              exact ⟨rfl, hf11, rfl⟩
            | ok y =>
              obtain ⟨-, hxu, hxz⟩ := pE_tk g vs6 _ _ _ hrr
              clear hrr
              go_upto_region 9 with (go_at_call 89; refine hXp.mono ?_; rintro e w11 ⟨hf11, hE11, rfl, ns11, vU11, vD11, vV11, hnd11, hst11, oU11, oD11, oV11, kn11⟩)
              rw [List.nil_append] at hst11
              have h11 := h10.expr hRl hNV10 hf11 hst11
              have hf11A : Fr (fun q => R ≤ q) w w11 := hf10A.trans hf11 fun k hk e => by
                rcases e with e | e | e | e
                · omega
                · have := row_base h10.st.ru k e; omega
                · cases e
                · have := row_base h10.st.rv k e; omega
              obtain ⟨da, dc, rfl, -⟩ := row_form h11.st.rn
              have c10 : w11.cell? ⟨R, 10, none⟩ = some (.slice fa fas.length fc) := h11.st.rd.tl_ (q := 1) rfl
              have c12 : w11.cell? ⟨R, 12, none⟩ = some (.slice da ns11.length dc) := h11.st.rd.tl_ (q := 3) rfl
              have z10 := h11.st.rd.fz 10
              clear hXp
              have hrF := h11.rF
              have hr11 := hr.to hE11 hf11A.size
              have hD11 : ∀ x ∈ fas, ∀ q, x.sl.ownBlock = some q → ¬ (Value.slice da ns11.length dc).ownBlock = some q := fun x hx q h1 h2 => by
                have e1 := ((h10.fns x hx).1.lt q h1).2
                rcases oD11 q h2 with e | e
                · cases e
                · omega
              have hRw := h11.st.rd.lt
              have ag : (Value.slice fa fas.length fc).ownBlock ≠ some R := fun e => by have := row_base hrF R e; omega
              obtain ⟨i0, hi0, hz0, hz1, hz2⟩ := info_partsS fun_info
              have hz11 := hf11A.size
              have hcA : ((w11.alloc (.cells #[.int .i64 (vs6.length : Nat), .slice da ns11.length dc] 46)).drew).cell? ⟨R, 10, none⟩ = some (.slice fa fas.length fc) := (h11.st.rd.belowAll (below_new w11 (.cells #[.int .i64 (vs6.length : Nat), .slice da ns11.length dc] 46)).drew).tl_ (q := 1) rfl
              have hzA : ((w11.alloc (.cells #[.int .i64 (vs6.length : Nat), .slice da ns11.length dc] 46)).drew).frozen? ⟨R, 10, none⟩ = false := (h11.st.rd.belowAll (below_new w11 (.cells #[.int .i64 (vs6.length : Nat), .slice da ns11.length dc] 46)).drew).fz 10
              go_region_law
                ((refine step_append_lies _ (by rfl) _ _ _ (by rfl) lo 46 i0 _ 2 32 Tryz.underlying22 hi0 hz0 hz1 hz2 rfl (by omega) (.slice fa fas.length fc) fas.length (fas.flatMap FA.cs) (by rfl) ((hrF.alloc _).drew)
                    ⟨w11.heap.size, 0, none⟩ 1 1 [.int .i64 (vs6.length : Nat), .slice da ns11.length dc] (by rfl) (by rfl) (World.news_of_block (cs := #[.int .i64 (vs6.length : Nat), .slice da ns11.length dc]) (t := 46) (fr := (0, 0)) (heap_alloc_new w11 _)) (by simp [Value.oneCell'])
                    (by omega) (by unfold maxLen; omega) (by omega) (by simp; omega) (w11.heap.size + 1) (by simp) ?_; intro gg cap w1 hown1 hgrow hat hlt; have hz1 : w1.frozen? ⟨R, 10, none⟩ = false := (hgrow.frozen_far ⟨R, 10, none⟩ (by simp; omega) (Ne.symm ag)).trans hzA; have hc1 : w1.cell? ⟨R, 10, none⟩ = some (.slice fa fas.length fc) := (hgrow.cell_far ⟨R, 10, none⟩ (by simp; omega) (Ne.symm ag)).trans hcA))
              all_goals
                have hf13 : Fr (fun q => (Value.slice fa fas.length fc).ownBlock = some q) w11 w1 := ((Fr.alloc _).same Fr.drew).same (Fr.grown hgrow fun g hg => .inl hg)
                obtain ⟨hfE, hEE, hSE⟩ := h11.funPushed hr11 hf13 hD11 hnd11 hv9 hown1
                go_end0
                refine ⟨hf11A.trans hfE fun k hk e => ?_, ?_⟩
                · rcases e with e | e
                  · omega
                  · have := row_base hrF k e; omega
                · rw [HP6.out]
                  refine ⟨hEE, rfl, _, _, _, _, _, _, _, _, _, hSE, ?_, ?_, ?_⟩
                  · simp only [List.length_append, List.length_cons, List.length_nil]; omega
                  · simp only [List.length_append, List.length_cons, List.length_nil]; rw [HNL.out]
                  · simp only [List.length_append, List.length_cons, List.length_nil]; rw [← HFL.out]; omega
end Go.Proofs.YtjendlnicbieoaaGreatDoor
