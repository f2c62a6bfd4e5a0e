/-
  Package source's reader: node, where expression reads what it shall.
-/
import Derived.Test.YtjendlnicbieoaaGreatDoorKfKh
import Derived.Lib.ParseIntBTie
namespace Go.Proofs.YtjendlnicbieoaaGreatDoor
open Go.RowKit Go.Sort

theorem kwOf_le {l : Bs} {x : Nat × Nat} (h : kwOf l = some x) : x.1 ≤ 24 ∧ x.2 ≤ 7 := by
  have h2 : ∀ f op, op + f ≤ 25 → (namedF l f op).1 ≤ 24 ∧ (namedF l f op).2 ≤ 7 := by
    intro f
    induction f with
    | zero => intro op _; exact ⟨Nat.zero_le _, Nat.zero_le _⟩
    | succ f ih =>
      intro op ho
      rw [namedF_step]
      split
      · refine ⟨by dsimp only; omega, ?_⟩
        show (wTab op).2 ≤ 7
        unfold wTab
        split <;> decide
      · exact ih _ (by omega)
  unfold kwOf at h
  split at h
  · injection h with h; subst h; exact ⟨by decide, by decide⟩
  split at h
  · injection h with h; subst h; exact ⟨by decide, by decide⟩
  split at h
  · injection h with h; subst h; exact ⟨by decide, by decide⟩
  split at h
  · injection h with h; subst h; exact h2 24 1 (by decide)
  · cases h
/-- keyword reads what it shall, in every form. -/
theorem keyword_any (f : Nat) (hC : ExC f) (op fm lo R : Nat) (hop : op ≤ 24) (hfm : fm ≤ 7) (s : ByteArray) (ts : List Tk) (vN : Value) (fa : Option Addr) (fi fc : Nat) (us : List Us) (ns : List NA) (vs : List Bs) (vU vD vV : Value) (a : Nat) (w : World)
    (h : St w lo R s ts vN fa fi fc us ns vs vU vD vV) (hr : RdOk lo R s w) (ha : ns.length = a + 1) (hn : ns.length ≤ 200) (hl : (mv ts).length ≤ f) (hul : us.length < 200 * fi + ns.length) (hfi : fi ≤ 64) (hvl : vs.length < 9 + ns.length) :
    Calls Tryz.prog 119 #[.pointer (some ⟨R, 0, none⟩), .int .i64 (a : Nat), .agg #[.int .i64 (op : Nat), .int .i64 (fm : Nat)]] w (KyE (pKey (pE fi f) f fi vs a op fm ts) a lo R s vN fa fi fc us ns vs vU vD vV w) := by
  have hc : fm = 0 ∨ fm = 1 ∨ fm = 2 ∨ fm = 3 ∨ fm = 4 ∨ fm = 5 ∨ fm = 6 ∨ fm = 7 := by omega
  rcases hc with rfl | rfl | rfl | rfl | rfl | rfl | rfl | rfl
  · exact keyword_0 f op lo R s ts vN fa fi fc us ns vs vU vD vV a w h
  · exact keyword_1 f op lo R (by omega) s ts vN fa fi fc us ns vs vU vD vV a w h hr
  · exact keyword_2 f hC op lo R (by omega) s ts vN fa fi fc us ns vs vU vD vV a w h hr ha hn hl hul hfi hvl
  · exact keyword_3 f hC op lo R (by omega) s ts vN fa fi fc us ns vs vU vD vV a w h hr ha hn hl hul hfi (by omega)
  · exact keyword_4 f hC op lo R (by omega) s ts vN fa fi fc us ns vs vU vD vV a w h hr ha hn hl hul hfi (by omega)
  · exact keyword_5 f hC op lo R (by omega) s ts vN fa fi fc us ns vs vU vD vV a w h hr ha hn hl hul hfi (by omega)
  · exact keyword_6 f hC op lo R (by omega) s ts vN fa fi fc us ns vs vU vD vV a w h hr ha hn hl hul hfi (by omega)
  · exact keyword_7 f hC op lo R (by omega) s ts vN fa fi fc us ns vs vU vD vV a w h hr ha hn hl hul hfi (by omega)
theorem varIx_no {S : Bs} : ∀ {vs : List Bs}, (∀ j : Nat, vs[j]? ≠ some S) → varIx S vs = none
  | [], _ => rfl
  | v :: r, h => by
    rw [varIx, varIx_no (vs := r) fun j hj => h (j + 1) (by simpa using hj), if_neg fun e => h 0 (by simp [e])]
theorem varIx_some {S : Bs} : ∀ {vs : List Bs} {i : Nat}, vs[i]? = some S → (∀ j : Nat, i < j → vs[j]? ≠ some S) → varIx S vs = some i
  | [], i, h, _ => by simp at h
  | v :: r, 0, h, h2 => by
    rw [varIx, varIx_no (vs := r) fun j hj => h2 (j + 1) (by omega) (by simpa using hj), if_pos (by simpa using h)]
  | v :: r, i + 1, h, h2 => by
    rw [varIx, varIx_some (vs := r) (i := i) (by simpa using h) fun j hj e => h2 (j + 1) (by omega) (by simpa using e)]
section
variable {r : PR} {a lo R : Nat} {s : ByteArray} {ts ts' : List Tk} {vN : Value} {fa : Option Addr} {fi fc : Nat} {us : List Us} {ns : List NA} {vs : List Bs} {vU vD vV : Value} {w wk w' w2 : World} {e : Ending} {b : Nat} {cs : List Value}
theorem St.nS (h : St w lo R s ts vN fa fi fc us ns vs vU vD vV) (hr : RdOk lo R s w) (hb : w.heap.size ≤ b) : ¬ Sx R vU vD vV b := by
  have hRl := hr.rl
  have hll := hr.ll
  rintro (e | e | e | e)
  · omega
  · have := (h.ru.lt b e).2; omega
  · have := (h.rn.lt b e).2; omega
  · have := (h.rv.lt b e).2; omega
/-- A failed node of a call further in. -/
theorem KyE.er {n : Nat} (hb : Below w.heap.size w wk) (h : KyE (.error n) a lo R s vN fa fi fc us ns vs vU vD vV wk e w') : e = WrongS n ∧ Fr (Sx R vU vD vV) w w' :=
  ⟨h.2, (Fr.belowAll hb).same h.1⟩
/-- A node of a call further in, its cells written into a block of one's own. -/
theorem KyE.ok {x : Fo × List Us × List Tk} (hb : Below w.heap.size w wk) (h0 : St w lo R s ts' vN fa fi fc us ns vs vU vD vV) (hr : RdOk lo R s w) (hB : Blk wk b 59 cs) (hbb : w.heap.size ≤ b) (h : KyE (.ok x) a lo R s vN fa fi fc us ns vs vU vD vV wk e w') :
    ∃ (op n : Int) (la : Option Addr) (ll lc : Nat), e = .returned (.agg #[.int .i64 op, .int .i64 n, .slice la ll lc]) ∧ Blk w' b 59 cs ∧
      KyE (.ok x) a lo R s vN fa fi fc us ns vs vU vD vV w (.returned (.agg #[.int .i64 op, .int .i64 n, .slice la ll lc])) (((w'.setCell ⟨b, 0, none⟩ (.int .i64 op)).setCell ⟨b, 1, none⟩ (.int .i64 n)).setCell ⟨b, 2, none⟩ (.slice la ll lc)) := by
  obtain ⟨hF, hE, op, n, k, ns', vU', vD', vV', la, lc, hx, rfl, hnd, ho, hn, hrow, hst, oU, oD, oV, on, kn⟩ := h
  have hz := hb.size
  have hRl := hr.rl
  have hll := hr.ll
  have he3 := hr.e3
  have hbl := hB.lt
  have hB' := hB.fr hF (h0.nS hr hbb)
  have hfin : Fr (fun q => q = b) w' (((w'.setCell ⟨b, 0, none⟩ (.int .i64 op)).setCell ⟨b, 1, none⟩ (.int .i64 n)).setCell ⟨b, 2, none⟩ (.slice la (roots (a + 1) k).length lc)) := ((Fr.set (S := fun q => q = b) (q := ⟨b, 0, none⟩) (.inl rfl)).same (Fr.set (q := ⟨b, 1, none⟩) (.inl rfl))).same (Fr.set (q := ⟨b, 2, none⟩) (.inl rfl))
  have hbD : ∀ q, vD'.ownBlock = some q → ¬ q = b := fun q hq e => by
    subst e
    rcases oD _ hq with h | h
    · have := (h0.rn.lt _ h).2; omega
    · omega
  have o2 : ∀ {v v' : Value}, Own2 wk v v' → Own2 w v v' := fun h q hq => (h q hq).imp id fun e => Nat.le_trans hz e
  refine ⟨op, n, la, _, lc, rfl, hB', ((Fr.belowAll hb).same hF).trans hfin fun k hk e => by omega, hE.fr hfin (by omega), op, n, k, ns', vU', vD', vV', la, lc, hx, rfl, hnd, ho, hn, ?_, ?_, o2 oU, o2 oD, o2 oV, fun q hq => ⟨by have := (on q hq).1; omega, (on q hq).2⟩, fun x hx q hq => Nat.le_trans hz (kn x hx q hq)⟩
  · exact row_keep hrow fun q hq hq2 => hfin.block q hq2 fun e => blk_row hB' hrow (by decide) (by rw [← e]; exact hq)
  · exact hst.kid (lo' := lo) (nb := b) (by omega) (by omega) (row_none w' lo _ 1) (hfin.more fun _ _ e => .inl e) hB' hbD (fun x hx q hq e => by cases e)
/-- A leaf: the token passed by, its cells written. -/
theorem KyE.leaf {op n : Int} (h : St w lo R s ts vN fa fi fc us ns vs vU vD vV) (hr : RdOk lo R s w) (hf : FrB R w w') (hE : EnvP w') (hR : Rdr w' R s ts' [vN, .slice fa fi fc, vU, vD, vV]) (hB : Blk w' b 59 cs) (hbb : w.heap.size ≤ b) (ho : Rng op) (hn : Rng n) :
    KyE (.ok (.cons a op n .nil .nil, [], ts')) a lo R s vN fa fi fc us ns vs vU vD vV w (.returned (.agg #[.int .i64 op, .int .i64 n, .slice none 0 0])) (((w'.setCell ⟨b, 0, none⟩ (.int .i64 op)).setCell ⟨b, 1, none⟩ (.int .i64 n)).setCell ⟨b, 2, none⟩ (.slice none 0 0)) := by
  have hRl := hr.rl
  have hll := hr.ll
  have he3 := hr.e3
  have hfin : Fr (fun q => q = b) w' (((w'.setCell ⟨b, 0, none⟩ (.int .i64 op)).setCell ⟨b, 1, none⟩ (.int .i64 n)).setCell ⟨b, 2, none⟩ (.slice none 0 0)) := ((Fr.set (S := fun q => q = b) (q := ⟨b, 0, none⟩) (.inl rfl)).same (Fr.set (q := ⟨b, 1, none⟩) (.inl rfl))).same (Fr.set (q := ⟨b, 2, none⟩) (.inl rfl))
  have hst := (h.moved hr.rl hf hR).kid (lo' := lo) (nb := b) (by omega) (by omega) (row_none w' lo _ 1) (hfin.more fun _ _ e => .inl e) hB (fun q hq e => by have := (h.rn.lt q hq).2; omega) (fun x hx q hq e => by cases e)
  exact ⟨(hf.more fun _ _ e => .inl e).trans hfin fun k hk e => by omega, hE.fr hfin (by omega), op, n, .nil, [], vU, vD, vV, none, 0, rfl, rfl, rfl, ho, hn, row_none _ _ _ _, by simpa using hst, Own2.refl _ _, Own2.refl _ _, Own2.refl _ _, fun q hq => (by cases hq), fun x hx => (by cases hx)⟩
/-- A call: its name noted, its list read. -/
theorem KyE.call {e1 : Ending} (hb : Below w.heap.size w wk) (h : St w lo R s ts vN fa fi fc us ns vs vU vD vV) (hr : RdOk lo R s w) (hN : isN ts = true) (hU : UseE lo R s ts vN fa fi fc vU us.length (us.flatMap usC) vD vV a wk e1 w') (hB : Blk wk b 59 cs) (hbb : w.heap.size ≤ b) (ha : ns.length = a + 1) :
    e1 = .returned (.tuple #[]) ∧ EnvP w' ∧ w.heap.size ≤ w'.heap.size ∧ Blk w' b 59 cs ∧ Fr (Sx R vU vD vV) w w' ∧ ∃ vU2, St w' lo R s (mv ts) vN fa fi fc (us ++ [⟨fi, a, (hd ts).ln, (hd ts).s⟩]) ns vs vU2 vD vV ∧
      (∀ n w3 e, LiE (.error n) lo R s vN fa fi fc (us ++ [⟨fi, a, (hd ts).ln, (hd ts).s⟩]) ns vs vU2 vD vV w' e w3 → e = WrongS n ∧ Fr (Sx R vU vD vV) w w3) ∧
      ∀ (x : Fo × List Us × List Tk) w3 e, LiE (.ok x) lo R s vN fa fi fc (us ++ [⟨fi, a, (hd ts).ln, (hd ts).s⟩]) ns vs vU2 vD vV w' e w3 → ∃ la lc, e = .returned (.slice la (roots (a + 1) x.1).length lc) ∧ Blk w3 b 59 cs ∧
        KyE (.ok (.cons a 13 0 x.1 .nil, ⟨fi, a, (hd ts).ln, (hd ts).s⟩ :: x.2.1, x.2.2)) a lo R s vN fa fi fc us ns vs vU vD vV w (.returned (.agg #[.int .i64 13, .int .i64 0, .slice la (roots (a + 1) x.1).length lc])) (((w3.setCell ⟨b, 0, none⟩ (.int .i64 13)).setCell ⟨b, 1, none⟩ (.int .i64 0)).setCell ⟨b, 2, none⟩ (.slice la (roots (a + 1) x.1).length lc)) := by
  obtain ⟨hF, hU⟩ := hU
  rw [if_pos hN] at hU
  obtain ⟨rfl, hE, g, cap, hrow, hg, hR⟩ := hU
  have hz := hb.size
  have hz2 := hF.size
  have hRl := hr.rl
  have hll := hr.ll
  have he3 := hr.e3
  have hbl := hB.lt
  have hk := h.below hb
  have hub := row_base h.ru
  have hkp : ∀ {T : TypeId} {sz n B : Nat} {v : Value} {xs : List Value}, wk.ownsRow B T sz v n xs → R < B → T ≠ 152 → w'.ownsRow B T sz v n xs := fun hrw hB hT => row_keep hrw fun q hq hq2 => hF.block q hq2 (by
    rintro (e | e)
    · have := row_base hrw q hq; omega
    · exact rows_ne hrw hk.ru hT q hq e)
  have hst : St w' lo R s (mv ts) vN fa fi fc (us ++ [⟨fi, a, (hd ts).ln, (hd ts).s⟩]) ns vs (.slice (some ⟨g, 0, none⟩) (us.length + 1) cap) vD vV :=
    ⟨hR, by simpa using hrow, hkp hk.rn hRl (by decide), hkp hk.rv hRl (by decide), fun x hx => ⟨hkp (hk.kids x hx).1 hRl (by decide), (hk.kids x hx).2⟩⟩
  have hB' := hB.fr hF (by
    rintro (e | e)
    · omega
    · have := (h.ru.lt b e).2; omega)
  have oU : Own2 w vU (.slice (some ⟨g, 0, none⟩) (us.length + 1) cap) := fun q hq => by
    simp only [Value.ownBlock, Option.some.injEq] at hq
    subst hq
    rcases hg with e | e
    · exact .inl e
    · exact .inr (by omega)
  have hFr : Fr (Sx R vU vD vV) w w' := (Fr.belowAll hb).trans hF fun k hk e => by
    rcases e with e | e
    · exact .inl e
    · exact .inr (.inl e)
  refine ⟨rfl, hE, by omega, hB', hFr, _, hst, ?_, ?_⟩
  · rintro n w3 e ⟨h1, h2⟩
    exact ⟨h2, hFr.sx h1 oU (Own2.refl _ _) (Own2.refl _ _)⟩
  · rintro x w3 e ⟨hF3, hE3, ns2, vU2, vD2, vV2, la, lc, rfl, hnd, hrow3, hst3, oU3, oD3, oV3, on3, kn3⟩
    rw [ha] at hnd hrow3 on3 ⊢
    have hnb : ¬ Sx R (.slice (some ⟨g, 0, none⟩) (us.length + 1) cap) vD vV b := by
      rintro (e | e | e | e)
      · omega
      · exact blk_row hB' hst.ru (by decide) e
      · have := (h.rn.lt b e).2; omega
      · have := (h.rv.lt b e).2; omega
    have hB3 := hB'.fr hF3 hnb
    have hz3 := hF3.size
    have hb3 := hB3.lt
    have hfin : Fr (fun q => q = b) w3 (((w3.setCell ⟨b, 0, none⟩ (.int .i64 13)).setCell ⟨b, 1, none⟩ (.int .i64 0)).setCell ⟨b, 2, none⟩ (.slice la (roots (a + 1) x.1).length lc)) := ((Fr.set (S := fun q => q = b) (q := ⟨b, 0, none⟩) (.inl rfl)).same (Fr.set (q := ⟨b, 1, none⟩) (.inl rfl))).same (Fr.set (q := ⟨b, 2, none⟩) (.inl rfl))
    have hbl' := hB'.lt
    have hbD : ∀ q, vD2.ownBlock = some q → ¬ q = b := fun q hq e => by
      subst e
      rcases oD3 _ hq with h' | h'
      · have := (h.rn.lt _ h').2; omega
      · omega
    refine ⟨la, lc, rfl, hB3, (hFr.sx hF3 oU (Own2.refl _ _) (Own2.refl _ _)).trans hfin fun k hk e => by omega, hE3.fr hfin (by omega), 13, 0, x.1, ns2, vU2, vD2, vV2, la, lc, rfl, rfl, hnd, ⟨by decide, by decide⟩, ⟨by decide, by decide⟩, ?_, ?_, oU.trans oU3 (by omega), (Own2.refl _ _).trans oD3 (by omega), (Own2.refl _ _).trans oV3 (by omega), fun q hq => ⟨by have := (on3 q hq).1; omega, (on3 q hq).2⟩, fun x hx q hq => by have := kn3 x hx q hq; omega⟩
    · exact row_keep hrow3 fun q hq hq2 => hfin.block q hq2 fun e => blk_row hB3 hrow3 (by decide) (by rw [← e]; exact hq)
    · have := hst3.kid (lo' := lo) (nb := b) (by omega) (by omega) (row_none w3 lo _ 1) (hfin.more fun _ _ e => .inl e) hB3 hbD (fun x hx q hq e => by cases e)
      simpa using this
end
theorem tok_mem {ts : List Tk} (h : 1 ≤ ts.length) : hd ts ∈ ts := by
  match ts, h with
  | t :: r, _ => exact .head _
theorem intD_ok {l : Bs} {v : Int} (h : intD l = some v) : Lib.parseIntB 64 l = .ok v := by
  unfold intD at h
  by_cases hc : (if l.head? = some 45 then l.tail else l).head? = some 48 ∧ l ≠ [48]
  · rw [if_pos hc] at h
    cases h
  · rw [if_neg hc] at h
    cases hp : Lib.parseIntB 64 l with
    | ok u =>
      rw [hp] at h
      injection h with h
      rw [h]
    | _ =>
      rw [hp] at h
      cases h
theorem intD_rng {l : Bs} {v : Int} (h : intD l = some v) : Rng v := by
  have := Lib.parseIntB_bounds (intD_ok h)
  unfold Rng
  omega
set_option maxRecDepth 100000 in
set_option maxHeartbeats 4000000 in
/-- node at a number. -/
theorem node_num (f : Nat) (lo R : Nat) (s : ByteArray) (ts : List Tk) (vN : Value) (fa : Option Addr) (fi fc : Nat) (us : List Us) (ns : List NA) (vs : List Bs) (vU vD vV : Value) (a : Nat) (w : World)
    (h : St w lo R s ts vN fa fi fc us ns vs vU vD vV) (hr : RdOk lo R s w) (hk : (hd ts).k = 3) :
    Calls Tryz.prog 104 #[.pointer (some ⟨R, 0, none⟩), .int .i64 (a : Nat)] w (KyE (pNode (pE fi f) f fi vs a ts) a lo R s vN fa fi fc us ns vs vU vD vV w) := by
  have h1 := h.below (below_new w (.cells #[.int .i64 0, .int .i64 0, .slice none 0 0] 59))
  obtain ⟨S, hS, c3, c4, hk4⟩ := h1.rd.now
  have c5 := h1.rd.ln
  rw [hk] at c3
  obtain ⟨m, hm⟩ : ∃ m, (hd ts).ln = m := ⟨_, rfl⟩
  rw [hm] at c5
  have hb2 : Below w.heap.size w ((w.alloc (.cells #[.int .i64 0, .int .i64 0, .slice none 0 0] 59)).alloc (.cells #[.int .i64 3, .string S, .int .i64 (m : Nat)] 106)) := (below_new _ _).alloc (by simp) _
  have hbn := (Blk.new w 59 [.int .i64 0, .int .i64 0, .slice none 0 0]).alloc (.cells #[.int .i64 3, .string S, .int .i64 (m : Nat)] 106)
  have hbt := Blk.new (w.alloc (.cells #[.int .i64 0, .int .i64 0, .slice none 0 0] 59)) 106 [.int .i64 3, .string S, .int .i64 (m : Nat)]
  simp only [World.size_alloc] at hbt
  have h2 := h.below hb2
  have hRl := hr.rl
  have hll := hr.ll
  have he3 := hr.e3
  go_enter Tryz.func104, Tryz.ntmps104
  go_upto_region 2 with fail
  generalize (w.alloc (.cells #[.int .i64 0, .int .i64 0, .slice none 0 0] 59)).alloc (.cells #[.int .i64 3, .string S, .int .i64 (m : Nat)] 106) = w2 at *
  have hz2 := hb2.size
  have t0 := hbt.c 0 rfl
  have t1 := hbt.c 1 rfl
  obtain ⟨v, hv⟩ : ∃ v, intD (hd ts).s = some v := Option.isSome_iff_exists.1 ((h.rd.nu _ (tok_mem h.rd.ne_nil)).1 hk)
  have hrg := intD_rng hv
  have hsz : S.size ≤ 4000000 := by
    have h1 := (h.rd.nu _ (tok_mem h.rd.ne_nil)).2
    rw [← hS] at h1
    simpa using h1
  have HV : Hid (Lib.parseIntB 64 S.data.toList = .ok v) := by
    show _ = _
    rw [hS]
    exact intD_ok hv
  have HP : Hid (pNode (pE fi f) f fi vs a ts = .ok (.cons a 1 v .nil .nil, [], mv ts)) := by
    show _ = _
    unfold pNode
    rw [if_pos hk, hv]
    rfl
  clear hv hk c3 c4 c5
  go_upto_region 4 with (go_at_call 96; refine (Tryz.strconv_ParseInt_10_at64_ok S (by omega) v HV.out _).mono ?_; rintro e w3 ⟨rfl, hw3⟩)
  have hb3 : Below w2.heap.size w2 w3 := by
    rcases hw3 with rfl | ⟨t, rfl⟩
    · exact Below.refl _ _
    · exact Lib.bytesWorld_below w2 _ t
  have h3 := h2.below hb3
  have hbn3 := hbn.belowAll hb3
  have hz3 := hb3.size
  have hE3 : EnvP w3 := hr.E.fr (S := fun _ => False) (Fr.belowAll (hb2.trans (hb3.mono (by omega)))) (fun h => h)
  have hMv := move_any R s ts _ _ h3.rd hr.sz hE3 hr.ne
  clear hw3
  go_wp2_with (go_at_call 59; refine hMv.mono ?_; rintro e w4 ⟨rfl, hf4, hE4, hR4⟩; have hbn4 := hbn3.fr hf4 (by omega); have r0 := hbn4.c 0 rfl; have r1 := hbn4.c 1 rfl; have r2 := hbn4.c 2 rfl; have rz0 := hbn4.fz 0; have rz1 := hbn4.fz 1; have rz2 := hbn4.fz 2)
  have hB := ((hbn4.set 0 (.int .i64 1)).set 1 (.int .i64 v)).set 2 (.slice none 0 0)
  have b0 := hB.c 0 rfl
  have b1 := hB.c 1 rfl
  have b2 := hB.c 2 rfl
  refine bodyPost_ret (v := .agg #[.int .i64 1, .int .i64 v, .slice none 0 0]) (by simp [results, Tryz.results104, go_sem, b0, b1, b2]) rfl ?_
  rw [HP.out]
  exact KyE.leaf h hr (((Fr.belowAll hb2).same (Fr.belowAll hb3)).same hf4) hE4 hR4 hbn4 (Nat.le_refl _) ⟨by decide, by decide⟩ hrg
set_option maxRecDepth 100000 in
set_option maxHeartbeats 4000000 in
/-- node at what begins no expression. -/
theorem node_bad (f : Nat) (lo R : Nat) (s : ByteArray) (ts : List Tk) (vN : Value) (fa : Option Addr) (fi fc : Nat) (us : List Us) (ns : List NA) (vs : List Bs) (vU vD vV : Value) (a : Nat) (w : World)
    (h : St w lo R s ts vN fa fi fc us ns vs vU vD vV) (hr : RdOk lo R s w) (hk3 : (hd ts).k ≠ 3) (hk2 : (hd ts).k ≠ 2) :
    Calls Tryz.prog 104 #[.pointer (some ⟨R, 0, none⟩), .int .i64 (a : Nat)] w (KyE (pNode (pE fi f) f fi vs a ts) a lo R s vN fa fi fc us ns vs vU vD vV w) := by
  have h1 := h.below (below_new w (.cells #[.int .i64 0, .int .i64 0, .slice none 0 0] 59))
  obtain ⟨S, hS, c3, c4, hk4⟩ := h1.rd.now
  have c5 := h1.rd.ln
  obtain ⟨k, hk⟩ : ∃ k, (hd ts).k = k := ⟨_, rfl⟩
  rw [hk] at c3
  obtain ⟨m, hm⟩ : ∃ m, (hd ts).ln = m := ⟨_, rfl⟩
  rw [hm] at c5
  have hb2 : Below w.heap.size w ((w.alloc (.cells #[.int .i64 0, .int .i64 0, .slice none 0 0] 59)).alloc (.cells #[.int .i64 (k : Nat), .string S, .int .i64 (m : Nat)] 106)) := (below_new _ _).alloc (by simp) _
  have hbn := (Blk.new w 59 [.int .i64 0, .int .i64 0, .slice none 0 0]).alloc (.cells #[.int .i64 (k : Nat), .string S, .int .i64 (m : Nat)] 106)
  have hbt := Blk.new (w.alloc (.cells #[.int .i64 0, .int .i64 0, .slice none 0 0] 59)) 106 [.int .i64 (k : Nat), .string S, .int .i64 (m : Nat)]
  simp only [World.size_alloc] at hbt
  have h2 := h.below hb2
  have hRl := hr.rl
  have hll := hr.ll
  have he3 := hr.e3
  go_enter Tryz.func104, Tryz.ntmps104
  go_upto_region 2 with fail
  generalize (w.alloc (.cells #[.int .i64 0, .int .i64 0, .slice none 0 0] 59)).alloc (.cells #[.int .i64 (k : Nat), .string S, .int .i64 (m : Nat)] 106) = w2 at *
  have hz2 := hb2.size
  have t0 := hbt.c 0 rfl
  have t1 := hbt.c 1 rfl
  have HP : Hid (pNode (pE fi f) f fi vs a ts = .error (hd ts).ln) := by
    show _ = _
    unfold pNode
    rw [if_neg hk3, if_pos hk2]
  have q1 : ((k : Int) == 3) = false := by rw [← hk]; simp; omega
  have q2 : ((k : Int) != 2) = true := by rw [← hk]; simp; omega
  have hF := sfail_any R s ts _ w2 h2.rd
  unfold WrongS at hF
  clear hk3 hk2 hk hk4 c3 c4 c5 hm
  go_wp2_with (go_at_call 102; refine hF.mono ?_; rintro e w3 ⟨rfl, rfl⟩)
  rw [HP.out]
  exact ⟨rfl, Fr.belowAll hb2, rfl⟩
set_option maxRecDepth 100000 in
set_option maxHeartbeats 4000000 in
/-- node at a keyword. -/
theorem node_kw (f : Nat) (hC : ExC f) (lo R : Nat) (s : ByteArray) (ts : List Tk) (vN : Value) (fa : Option Addr) (fi fc : Nat) (us : List Us) (ns : List NA) (vs : List Bs) (vU vD vV : Value) (a : Nat) (w : World)
    (h : St w lo R s ts vN fa fi fc us ns vs vU vD vV) (hr : RdOk lo R s w) (ha : ns.length = a + 1) (hn : ns.length ≤ 200) (hl : (mv ts).length ≤ f) (hul : us.length < 200 * fi + ns.length) (hfi : fi ≤ 64) (hvl : vs.length < 9 + ns.length) (hk : (hd ts).k = 2) (x : Nat × Nat) (hx : kwOf (hd ts).s = some x) :
    Calls Tryz.prog 104 #[.pointer (some ⟨R, 0, none⟩), .int .i64 (a : Nat)] w (KyE (pNode (pE fi f) f fi vs a ts) a lo R s vN fa fi fc us ns vs vU vD vV w) := by
  have h1 := h.below (below_new w (.cells #[.int .i64 0, .int .i64 0, .slice none 0 0] 59))
  obtain ⟨S, hS, c3, c4, hk4⟩ := h1.rd.now
  have c5 := h1.rd.ln
  rw [hk] at c3
  obtain ⟨m, hm⟩ : ∃ m, (hd ts).ln = m := ⟨_, rfl⟩
  rw [hm] at c5
  have hb2 : Below w.heap.size w ((w.alloc (.cells #[.int .i64 0, .int .i64 0, .slice none 0 0] 59)).alloc (.cells #[.int .i64 2, .string S, .int .i64 (m : Nat)] 106)) := (below_new _ _).alloc (by simp) _
  have hbn := (Blk.new w 59 [.int .i64 0, .int .i64 0, .slice none 0 0]).alloc (.cells #[.int .i64 2, .string S, .int .i64 (m : Nat)] 106)
  have hbt := Blk.new (w.alloc (.cells #[.int .i64 0, .int .i64 0, .slice none 0 0] 59)) 106 [.int .i64 2, .string S, .int .i64 (m : Nat)]
  simp only [World.size_alloc] at hbt
  have h2 := h.below hb2
  have hRl := hr.rl
  have hll := hr.ll
  have he3 := hr.e3
  go_enter Tryz.func104, Tryz.ntmps104
  go_upto_region 2 with fail
  generalize (w.alloc (.cells #[.int .i64 0, .int .i64 0, .slice none 0 0] 59)).alloc (.cells #[.int .i64 2, .string S, .int .i64 (m : Nat)] 106) = w2 at *
  have hz2 := hb2.size
  have t0 := hbt.c 0 rfl
  have t1 := hbt.c 1 rfl
  obtain ⟨op, fm⟩ := x
  obtain ⟨ho1, ho2⟩ := kwOf_le hx
  have hKw := keywordOf_any S
  have hxS : kwOf S.data.toList = some (op, fm) := by rw [hS]; exact hx
  have hkk : kwK S.data.toList = (op, fm) := by unfold kwK; rw [hxS]; rfl
  rw [hkk, hxS] at hKw
  dsimp only [Option.isSome] at hKw
  obtain ⟨r, hrr⟩ : ∃ r, pKey (pE fi f) f fi vs a op fm ts = r := ⟨_, rfl⟩
  have HP : Hid (pNode (pE fi f) f fi vs a ts = r) := by
    show _ = _
    unfold pNode
    rw [if_neg (by omega), if_neg (by simp [hk]), hx]
    exact hrr
  have HRR := Lib.hid hrr
  dsimp only at ho1 ho2
  clear hrr hx hxS hkk c3 c4 c5 hm hk hS
  go_upto_region 9 with (go_at_call 103; refine (hKw _).mono ?_; rintro e w3 ⟨rfl, hb3⟩)
  have hb4 : Below w.heap.size w (w3.alloc (.cells #[.int .i64 (op : Nat), .int .i64 (fm : Nat)] 172)) := (hb2.trans (hb3.mono (by omega))).alloc (by have := hb3.size; omega) _
  have hbn4 := (hbn.belowAll hb3).alloc (.cells #[.int .i64 (op : Nat), .int .i64 (fm : Nat)] 172)
  have hbk4 := Blk.new w3 172 [.int .i64 (op : Nat), .int .i64 (fm : Nat)]
  generalize hb4b : w3.alloc (.cells #[.int .i64 (op : Nat), .int .i64 (fm : Nat)] 172) = w4 at *
  clear hb4b
  have k0 := hbk4.c 0 rfl
  have k1 := hbk4.c 1 rfl
  have h4 := h.below hb4
  have hr4 := hr.to (hr.E.fr (S := fun _ => False) (Fr.belowAll hb4) (fun h => h)) hb4.size
  have hCal := keyword_any f hC op fm lo R ho1 ho2 s ts vN fa fi fc us ns vs vU vD vV a w4 h4 hr4 ha hn hl hul hfi hvl
  rw [HRR.out] at hCal
  cases r with
  | error n =>
    unfold WrongS at *
    go_wp2_with (go_at_call 119; refine hCal.mono ?_; intro e w5 he; have he2 := KyE.er hb4 he; unfold WrongS at he2; obtain ⟨rfl, hF⟩ := he2)
    rw [HP.out]
    exact ⟨rfl, hF, rfl⟩
  | ok x =>
    go_wp2_with (go_at_call 119; refine hCal.mono ?_; intro e w5 he; obtain ⟨op', n', la, ll, lc, rfl, hB5, hK5⟩ := KyE.ok hb4 h hr hbn4 (Nat.le_refl _) he; have r0 := hB5.c 0 rfl; have r1 := hB5.c 1 rfl; have r2 := hB5.c 2 rfl; have rz0 := hB5.fz 0; have rz1 := hB5.fz 1; have rz2 := hB5.fz 2)
    have hB := ((hB5.set 0 (.int .i64 op')).set 1 (.int .i64 n')).set 2 (.slice la ll lc)
    have b0 := hB.c 0 rfl
    have b1 := hB.c 1 rfl
    have b2 := hB.c 2 rfl
    refine bodyPost_ret (v := .agg #[.int .i64 op', .int .i64 n', .slice la ll lc]) (by simp [results, Tryz.results104, go_sem, b0, b1, b2]) rfl ?_
    rw [HP.out]
    exact hK5
set_option maxRecDepth 100000 in
set_option maxHeartbeats 4000000 in
/-- node at a function's name. -/
theorem node_call (f : Nat) (hC : ExC f) (lo R : Nat) (s : ByteArray) (ts : List Tk) (vN : Value) (fa : Option Addr) (fi fc : Nat) (us : List Us) (ns : List NA) (vs : List Bs) (vU vD vV : Value) (a : Nat) (w : World)
    (h : St w lo R s ts vN fa fi fc us ns vs vU vD vV) (hr : RdOk lo R s w) (ha : ns.length = a + 1) (hn : ns.length ≤ 200) (hl : (mv ts).length ≤ f) (hul : us.length < 200 * fi + ns.length) (hfi : fi ≤ 64) (hvl : vs.length < 9 + ns.length) (hk : (hd ts).k = 2) (hx : kwOf (hd ts).s = none) (hm40 : isM 40 (mv ts) = true) :
    Calls Tryz.prog 104 #[.pointer (some ⟨R, 0, none⟩), .int .i64 (a : Nat)] w (KyE (pNode (pE fi f) f fi vs a ts) a lo R s vN fa fi fc us ns vs vU vD vV w) := by
  obtain ⟨ua, uc, rfl, -⟩ := row_form h.ru
  have h1 := h.below (below_new w (.cells #[.int .i64 0, .int .i64 0, .slice none 0 0] 59))
  obtain ⟨S, hS, c3, c4, hk4⟩ := h1.rd.now
  have c5 := h1.rd.ln
  rw [hk] at c3
  obtain ⟨m, hm⟩ : ∃ m, (hd ts).ln = m := ⟨_, rfl⟩
  rw [hm] at c5
  have hb2 : Below w.heap.size w ((w.alloc (.cells #[.int .i64 0, .int .i64 0, .slice none 0 0] 59)).alloc (.cells #[.int .i64 2, .string S, .int .i64 (m : Nat)] 106)) := (below_new _ _).alloc (by simp) _
  have hbn := (Blk.new w 59 [.int .i64 0, .int .i64 0, .slice none 0 0]).alloc (.cells #[.int .i64 2, .string S, .int .i64 (m : Nat)] 106)
  have hbt := Blk.new (w.alloc (.cells #[.int .i64 0, .int .i64 0, .slice none 0 0] 59)) 106 [.int .i64 2, .string S, .int .i64 (m : Nat)]
  simp only [World.size_alloc] at hbt
  have h2 := h.below hb2
  have hRl := hr.rl
  have hll := hr.ll
  have he3 := hr.e3
  go_enter Tryz.func104, Tryz.ntmps104
  go_upto_region 2 with fail
  generalize (w.alloc (.cells #[.int .i64 0, .int .i64 0, .slice none 0 0] 59)).alloc (.cells #[.int .i64 2, .string S, .int .i64 (m : Nat)] 106) = w2 at *
  have hz2 := hb2.size
  have t0 := hbt.c 0 rfl
  have t1 := hbt.c 1 rfl
  have hKw := keywordOf_any S
  have hxS : kwOf S.data.toList = none := by rw [hS]; exact hx
  have hkk : kwK S.data.toList = (0, 0) := by unfold kwK; rw [hxS]; rfl
  rw [hkk, hxS] at hKw
  dsimp only [Option.isSome] at hKw
  have hN : isN ts = true := by unfold isN; rw [hk, hx]; rfl
  have HP : Hid (pNode (pE fi f) f fi vs a ts = pNamed (pE fi f vs) f fi a 13 ts) := by
    show _ = _
    unfold pNode
    rw [if_neg (by omega), if_neg (by simp [hk]), hx]
    dsimp only
    rw [if_pos hm40]
  have hm40b := hm40
  unfold isM at hm40b
  simp only [Bool.and_eq_true, beq_iff_eq] at hm40b
  clear hx hxS hkk c3 c4 c5 hm hk hS
  go_upto_region 11 with (go_at_call 103; refine (hKw _).mono ?_; rintro e w3 ⟨rfl, hb3⟩)
  have hb4 : Below w.heap.size w (w3.alloc (.cells #[.int .i64 0, .int .i64 0] 172)) := (hb2.trans (hb3.mono (by omega))).alloc (by have := hb3.size; omega) _
  have hbn4 := (hbn.belowAll hb3).alloc (.cells #[.int .i64 0, .int .i64 0] 172)
  generalize hb4b : w3.alloc (.cells #[.int .i64 0, .int .i64 0] 172) = w4 at *
  clear hb4b
  have h4 := h.below hb4
  have hr4 := hr.to (hr.E.fr (S := fun _ => False) (Fr.belowAll hb4) (fun h => h)) hb4.size
  obtain ⟨S2, hS2, d6, d7, -⟩ := h4.rd.ahead
  rw [hm40b.1] at d6
  have q7 : (S2.toList == [40]) = true := by rw [ByteArray.toList_eq, hS2, hm40b.2]; rfl
  clear hm40b hS2
  have hU := use_any lo R s ts vN fa fi fc ua us.length uc (us.flatMap usC) vD vV a w4 h4.rd h4.ru (by omega) hRl hr4.ll hr.sz hr4.E he3
  have hNk := fun e1 w' hu => KyE.call (e1 := e1) (w' := w') hb4 h hr hN hu hbn4 (Nat.le_refl _) ha
  go_upto_region 13 with (go_at_call 120; refine hU.mono ?_; intro e w5 hu; obtain ⟨rfl, hE5, hz5, hB5, hF5, vU5, hst5, her, hok⟩ := hNk _ _ hu)
  have hr5 := hr.to hE5 hz5
  have hLi := list_any f hC lo R s (mv ts) vN fa fi fc _ ns vs vU5 vD vV w5 hl hst5 (by simp only [List.length_append, List.length_cons, List.length_nil]; omega) hfi hn (by omega) hr5
  obtain ⟨r, hrr⟩ : ∃ r, pList (pE fi f vs) f ns.length (mv ts) = r := ⟨_, rfl⟩
  rw [hrr] at hLi
  have HR := Lib.hid (HP.out.trans (show pNamed (pE fi f vs) f fi a 13 ts = sub r fun x => .ok (.cons a 13 0 x.1 .nil, ⟨fi, a, (hd ts).ln, (hd ts).s⟩ :: x.2.1, x.2.2) by
    unfold pNamed
    rw [need_t _ hN, ← ha, hrr]))
  clear hrr hu hNk hU
  cases r with
  | error n =>
    unfold WrongS at *
    go_wp2_with (go_at_call 121; refine hLi.mono ?_; intro e w6 he; have he2 := her _ _ _ he; unfold WrongS at he2; obtain ⟨rfl, hF⟩ := he2)
    rw [HR.out]
    exact ⟨rfl, hF, rfl⟩
  | ok x =>
    go_wp2_with (go_at_call 121; refine hLi.mono ?_; intro e w6 he; obtain ⟨la, lc, rfl, hB6, hK6⟩ := hok _ _ _ he; have r0 := hB6.c 0 rfl; have r1 := hB6.c 1 rfl; have r2 := hB6.c 2 rfl; have rz0 := hB6.fz 0; have rz1 := hB6.fz 1; have rz2 := hB6.fz 2)
    have hB := ((hB6.set 0 (.int .i64 13)).set 1 (.int .i64 0)).set 2 (.slice la (roots (a + 1) x.1).length lc)
    have b0 := hB.c 0 rfl
    have b1 := hB.c 1 rfl
    have b2 := hB.c 2 rfl
    refine bodyPost_ret (v := .agg #[.int .i64 13, .int .i64 0, .slice la (roots (a + 1) x.1).length lc]) (by simp [results, Tryz.results104, go_sem, b0, b1, b2]) rfl ?_
    rw [HR.out]
    exact hK6
set_option maxRecDepth 100000 in
set_option maxHeartbeats 8000000 in
/-- node at a variable's name, or at a name that is none. -/
theorem node_var (f : Nat) (lo R : Nat) (s : ByteArray) (ts : List Tk) (vN : Value) (fa : Option Addr) (fi fc : Nat) (us : List Us) (ns : List NA) (vs : List Bs) (vU vD vV : Value) (a : Nat) (w : World)
    (h : St w lo R s ts vN fa fi fc us ns vs vU vD vV) (hr : RdOk lo R s w) (hvl : vs.length ≤ 300) (hk : (hd ts).k = 2) (hx : kwOf (hd ts).s = none) (hm40 : isM 40 (mv ts) = false) :
    Calls Tryz.prog 104 #[.pointer (some ⟨R, 0, none⟩), .int .i64 (a : Nat)] w (KyE (pNode (pE fi f) f fi vs a ts) a lo R s vN fa fi fc us ns vs vU vD vV w) := by
  obtain ⟨va, vc, rfl, -⟩ := row_form h.rv
  have h1 := h.below (below_new w (.cells #[.int .i64 0, .int .i64 0, .slice none 0 0] 59))
  obtain ⟨S, hS, c3, c4, hk4⟩ := h1.rd.now
  have c5 := h1.rd.ln
  rw [hk] at c3
  obtain ⟨m, hm⟩ : ∃ m, (hd ts).ln = m := ⟨_, rfl⟩
  rw [hm] at c5
  have hb2 : Below w.heap.size w ((w.alloc (.cells #[.int .i64 0, .int .i64 0, .slice none 0 0] 59)).alloc (.cells #[.int .i64 2, .string S, .int .i64 (m : Nat)] 106)) := (below_new _ _).alloc (by simp) _
  have hbn := (Blk.new w 59 [.int .i64 0, .int .i64 0, .slice none 0 0]).alloc (.cells #[.int .i64 2, .string S, .int .i64 (m : Nat)] 106)
  have hbt := Blk.new (w.alloc (.cells #[.int .i64 0, .int .i64 0, .slice none 0 0] 59)) 106 [.int .i64 2, .string S, .int .i64 (m : Nat)]
  simp only [World.size_alloc] at hbt
  have h2 := h.below hb2
  have hRl := hr.rl
  have hll := hr.ll
  have he3 := hr.e3
  go_enter Tryz.func104, Tryz.ntmps104
  go_upto_region 2 with fail
  generalize (w.alloc (.cells #[.int .i64 0, .int .i64 0, .slice none 0 0] 59)).alloc (.cells #[.int .i64 2, .string S, .int .i64 (m : Nat)] 106) = w2 at *
  have hz2 := hb2.size
  have t0 := hbt.c 0 rfl
  have t1 := hbt.c 1 rfl
  have hKw := keywordOf_any S
  have hxS : kwOf S.data.toList = none := by rw [hS]; exact hx
  have hkk : kwK S.data.toList = (0, 0) := by unfold kwK; rw [hxS]; rfl
  rw [hkk, hxS] at hKw
  dsimp only [Option.isSome] at hKw
  have HP : Hid (pNode (pE fi f) f fi vs a ts = match varIx (hd ts).s vs with
        | some i => .ok (.cons a 3 i .nil .nil, [], mv ts)
        | none => .error (hd ts).ln) := by
    show _ = _
    unfold pNode
    rw [if_neg (by omega), if_neg (by simp [hk]), hx]
    dsimp only
    rw [if_neg (by simp [hm40])]
    cases varIx (hd ts).s vs <;> rfl
  clear hx hxS hkk c3 c4 c5 hm hk
  go_upto_region 11 with (go_at_call 103; refine (hKw _).mono ?_; rintro e w3 ⟨rfl, hb3⟩)
  have hb4 : Below w.heap.size w (w3.alloc (.cells #[.int .i64 0, .int .i64 0] 172)) := (hb2.trans (hb3.mono (by omega))).alloc (by have := hb3.size; omega) _
  have hbn4 := (hbn.belowAll hb3).alloc (.cells #[.int .i64 0, .int .i64 0] 172)
  have hbt4 := (hbt.belowAll hb3).alloc (.cells #[.int .i64 0, .int .i64 0] 172)
  generalize hb4b : w3.alloc (.cells #[.int .i64 0, .int .i64 0] 172) = w4 at *
  clear hb4b
  have h4 := h.below hb4
  have t1b := hbt4.c 1 rfl
  have hr4 := hr.to (hr.E.fr (S := fun _ => False) (Fr.belowAll hb4) (fun h => h)) hb4.size
  obtain ⟨S2, hS2, d6, d7, -⟩ := h4.rd.ahead
  obtain ⟨k2, hk2⟩ : ∃ k2, (hd (mv ts)).k = k2 := ⟨_, rfl⟩
  rw [hk2] at d6
  have hq : ((k2 : Int) == 4) = false ∨ (((k2 : Int) == 4) = true ∧ (S2.toList == [40]) = false) := by
    by_cases e : k2 = 4
    · refine .inr ⟨by rw [e]; rfl, ?_⟩
      unfold isM at hm40
      rw [hk2, e] at hm40
      rw [ByteArray.toList_eq, hS2]
      simpa using hm40
    · exact .inl (by simp; omega)
  have c13 : w4.cell? ⟨R, 13, none⟩ = some (.slice va vs.length vc) := h4.rd.tl_ (q := 4) rfl
  clear hk2 hm40 hS2 t0 t1
  rcases hq with q6 | ⟨q6, q7⟩
  all_goals
    go_upto_region 15 with fail
    go_loopw [10] (fun iv wr => ∃ i : Int, iv = .int .i64 i ∧ -1 ≤ i ∧ i < vs.length ∧ (∀ j : Nat, i < j → vs[j]? ≠ some S.data.toList) ∧ Below w4.heap.size w4 wr) (fun iv _ => (intOf iv + 1).toNat)
    case atStart => exact ⟨(vs.length : Int) - 1, rfl, by omega, by omega, fun j hj => by rw [List.getElem?_eq_none (by omega)]; simp, Below.refl _ _⟩
    case round =>
      obtain ⟨i, rfl, hi1, hi2, hall, hbr⟩ := hrel
      have h5 := h4.below hbr
      have t1r := (hbt4.belowAll hbr).c 1 rfl
      have c13 : wr.cell? ⟨R, 13, none⟩ = some (.slice va vs.length vc) := h5.rd.tl_ (q := 4) rfl
      have hbw : Below w.heap.size w wr := hb4.trans (hbr.mono hb4.size)
      by_cases hi : 0 ≤ i
      case' neg =>
        obtain rfl : i = -1 := by omega
        have HN : Hid (varIx (hd ts).s vs = none) := by
          show _ = _
          rw [← hS]
          exact varIx_no fun j => hall j (by omega)
        have hF := sfail_any R s ts _ wr h5.rd
        unfold WrongS at hF
        clear hall hi hi1 hi2
        go_wp2_with (go_at_call 102; refine hF.mono ?_; rintro e w5 ⟨rfl, rfl⟩)
        rw [HP.out, HN.out]
        exact ⟨rfl, Fr.belowAll hbw, rfl⟩
      case' pos =>
        obtain ⟨j, rfl⟩ : ∃ j : Nat, i = j := ⟨i.toNat, by omega⟩
        have hjl : j < vs.length := by omega
        obtain ⟨X, hX⟩ : ∃ X : ByteArray, X.data.toList = vs[j] := ⟨⟨vs[j].toArray⟩, by simp⟩
        obtain ⟨va2, vc2, hvv, hvc, hvm, hrow⟩ := row_form h5.rv
        injection hvv with hv1 hv2 hv3
        subst hv1 hv3
        obtain ⟨g, rfl, -, -, hcj⟩ := hrow j (.string X) (by rw [str_of hX]; simp [strsV, hjl])
        have hge : decide ((j : Int) ≥ 0) = true := by simp
        by_cases he : X.data.toList = S.data.toList
        case' pos =>
          have qe : (X.toList == S.toList) = true := by rw [ByteArray.toList_eq, ByteArray.toList_eq, he]; simp
          have HN : Hid (varIx (hd ts).s vs = some j) := by
            show _ = _
            rw [← hS]
            exact varIx_some (by rw [List.getElem?_eq_getElem hjl, ← hX, he]) fun q hq => hall q (by omega)
          have h6 := h4.below hbr.drew
          have hbn6 := hbn4.belowAll hbr.drew
          have hbw6 := hb4.trans (hbr.drew.mono hb4.size)
          have hMv := move_any R s ts _ wr.drew h6.rd hr.sz (hr.E.fr (S := fun _ => False) (Fr.belowAll hbw6) (fun h => h)) hr.ne
          have hz6 := hbw6.size
          clear hall hX he hv2
          go_wp2_with fail
          go_region
          clear c13 t1r hcj
          generalize wr.drew = w6 at *
          go_wp2_with (go_at_call 59; refine hMv.mono ?_; rintro e w5 ⟨rfl, hf5, hE5, hR5⟩; have hbn5 := hbn6.fr hf5 (by omega); have r0 := hbn5.c 0 rfl; have r1 := hbn5.c 1 rfl; have r2 := hbn5.c 2 rfl; have rz0 := hbn5.fz 0; have rz1 := hbn5.fz 1; have rz2 := hbn5.fz 2)
          have hB := ((hbn5.set 0 (.int .i64 3)).set 1 (.int .i64 (j : Nat))).set 2 (.slice none 0 0)
          have b0 := hB.c 0 rfl
          have b1 := hB.c 1 rfl
          have b2 := hB.c 2 rfl
          refine bodyPost_ret (v := .agg #[.int .i64 3, .int .i64 (j : Nat), .slice none 0 0]) (by simp [results, Tryz.results104, go_sem, b0, b1, b2]) rfl ?_
          rw [HP.out, HN.out]
          exact KyE.leaf h hr ((Fr.belowAll hbw6).same hf5) hE5 hR5 hbn5 (Nat.le_refl _) ⟨by decide, by decide⟩ ⟨by omega, by omega⟩
        case' neg =>
          have qe : (X.toList == S.toList) = false := by rw [ByteArray.toList_eq, ByteArray.toList_eq]; simpa using he
          have hall2 : ∀ q : Nat, (j : Int) - 1 < q → vs[q]? ≠ some S.data.toList := fun q hq => by
            by_cases hqj : q = j
            · subst hqj
              rw [List.getElem?_eq_getElem hjl, ← hX]
              simpa using he
            · exact hall q (by omega)
          clear hall hX he hv2
          go_wp2_with fail
          go_region
          go_wp2_with fail
          go_roundw
          case' rel => exact ⟨(j : Int) - 1, rfl, by omega, by omega, hall2, hbr.drew⟩
          case' measure =>
            show ((j : Int) - 1 + 1).toNat < ((j : Int) + 1).toNat
            omega
end Go.Proofs.YtjendlnicbieoaaGreatDoor
/-
  Package source's reader: node in every case; expression reads what it shall.
-/
namespace Go.Proofs.YtjendlnicbieoaaGreatDoor
open Go.RowKit Go.Sort

/-- node reads what it shall. -/
theorem node_any (f : Nat) (hC : ExC f) (lo R : Nat) (s : ByteArray) (ts : List Tk) (vN : Value) (fa : Option Addr) (fi fc : Nat) (us : List Us) (ns : List NA) (vs : List Bs) (vU vD vV : Value) (a : Nat) (w : World)
    (h : St w lo R s ts vN fa fi fc us ns vs vU vD vV) (hr : RdOk lo R s w) (ha : ns.length = a + 1) (hn : ns.length ≤ 200) (hl : ts.length ≤ f + 1) (hul : us.length < 200 * fi + ns.length) (hfi : fi ≤ 64) (hvl : vs.length < 9 + ns.length) :
    Calls Tryz.prog 104 #[.pointer (some ⟨R, 0, none⟩), .int .i64 (a : Nat)] w (KyE (pNode (pE fi f) f fi vs a ts) a lo R s vN fa fi fc us ns vs vU vD vV w) := by
  by_cases h3 : (hd ts).k = 3
  · exact node_num f lo R s ts vN fa fi fc us ns vs vU vD vV a w h hr h3
  by_cases h2 : (hd ts).k = 2
  · have hm := h.rd.mv_lt (by omega)
    cases hx : kwOf (hd ts).s with
    | some x => exact node_kw f hC lo R s ts vN fa fi fc us ns vs vU vD vV a w h hr ha hn (by omega) hul hfi hvl h2 x hx
    | none =>
      cases hm40 : isM 40 (mv ts) with
      | true => exact node_call f hC lo R s ts vN fa fi fc us ns vs vU vD vV a w h hr ha hn (by omega) hul hfi hvl h2 hx hm40
      | false => exact node_var f lo R s ts vN fa fi fc us ns vs vU vD vV a w h hr (by omega) h2 hx hm40
  · exact node_bad f lo R s ts vN fa fi fc us ns vs vU vD vV a w h hr h3 h2
theorem node_info : (Tryz.prog.info? 59).map (fun i => (i.zero, i.size, i.bytes)) = some (some (.agg #[.int .i64 0, .int .i64 0, .slice none 0 0]), 3, 40) := by kernel_rfl
/-- An empty node. -/
def na0 : NA := ⟨⟨0, 0, []⟩, none, 0⟩
theorem set_mid {α : Type} (x y : α) : ∀ (l r : List α), (l ++ x :: r).set l.length y = l ++ y :: r
  | [], r => rfl
  | a :: l, r => by simp [set_mid x y l r]
section
variable {lo R : Nat} {s : ByteArray} {ts : List Tk} {vN : Value} {fa : Option Addr} {fi fc : Nat} {us : List Us} {ns : List NA} {vs : List Bs} {vU vD vV : Value} {w w2 : World}
/-- An empty node is pushed: r.nodes = append(r.nodes, api.Node{}). -/
theorem St.nodePushed (h : St w lo R s ts vN fa fi fc us ns vs vU vD vV) (hr : RdOk lo R s w) {g cap : Nat} (hf : Fr (fun q => vD.ownBlock = some q) w w2)
    (hrow : w2.ownsRow lo 59 3 (.slice (some ⟨g, 0, none⟩) (ns.length + 1) cap) (ns.length + 1) (ns.flatMap NA.cs ++ [.int .i64 0, .int .i64 0, .slice none 0 0])) :
    Fr (fun q => q = R ∨ vD.ownBlock = some q) w (w2.setCell ⟨R, 12, none⟩ (.slice (some ⟨g, 0, none⟩) (ns.length + 1) cap)) ∧ EnvP (w2.setCell ⟨R, 12, none⟩ (.slice (some ⟨g, 0, none⟩) (ns.length + 1) cap)) ∧
      St (w2.setCell ⟨R, 12, none⟩ (.slice (some ⟨g, 0, none⟩) (ns.length + 1) cap)) lo R s ts vN fa fi fc us (ns ++ [na0]) vs vU (.slice (some ⟨g, 0, none⟩) (ns.length + 1) cap) vV := by
  have hRl := hr.rl
  have hll := hr.ll
  have he3 := hr.e3
  have hdb := row_base h.rn
  have hF : Fr (fun q => q = R ∨ vD.ownBlock = some q) w (w2.setCell ⟨R, 12, none⟩ (.slice (some ⟨g, 0, none⟩) (ns.length + 1) cap)) := (hf.more fun _ _ e => .inr e).same (Fr.set (.inl (.inl rfl)))
  have hsR : Fr (fun q => q = R) w2 (w2.setCell ⟨R, 12, none⟩ (.slice (some ⟨g, 0, none⟩) (ns.length + 1) cap)) := Fr.set (.inl rfl)
  have hkp : ∀ {T : TypeId} {sz n B : Nat} {v : Value} {xs : List Value}, w.ownsRow B T sz v n xs → R < B → T ≠ 59 → (w2.setCell ⟨R, 12, none⟩ (.slice (some ⟨g, 0, none⟩) (ns.length + 1) cap)).ownsRow B T sz v n xs := fun hrw hB hT => row_keep hrw fun q hq hq2 => hF.block q hq2 (by
    rintro (e | e)
    · have := row_base hrw q hq; omega
    · exact rows_ne hrw h.rn hT q hq e)
  refine ⟨hF, hr.E.fr hF (by rintro (e | e); (omega); have := hdb _ e; omega), (h.rd.fr hf fun e => by have := hdb _ e; omega).setT 3 _, hkp h.ru hRl (by decide), ?_, hkp h.rv hRl (by decide), fun x hx => ?_⟩
  · have := row_keep hrow fun q hq hq2 => hsR.block q hq2 (by have := row_base hrow q hq; omega)
    simpa [na0, NA.cs] using this
  · rcases List.mem_append.1 hx with hx | hx
    · exact ⟨hkp (h.kids x hx).1 hRl (by decide), (h.kids x hx).2⟩
    · rw [List.mem_singleton.1 hx]
      exact ⟨row_none _ _ _ _, ⟨by decide, by decide⟩, ⟨by decide, by decide⟩, fun y hy => by cases hy⟩
/-- A node is stored: r.nodes[at] = n. -/
theorem St.nodeSet {g cap : Nat} {ns2 : List NA} (h : St w lo R s ts vN fa fi fc us (ns ++ na0 :: ns2) vs vU (.slice (some ⟨g, 0, none⟩) (ns ++ na0 :: ns2).length cap) vV) (hR : R < lo) (x : NA) (hx : x.Ok w lo) :
    St (((w.setCell ⟨g, ns.length * 3, none⟩ (.int .i64 x.nd.op)).setCell ⟨g, ns.length * 3 + 1, none⟩ (.int .i64 x.nd.n)).setCell ⟨g, ns.length * 3 + 2, none⟩ (.slice x.la x.nd.l.length x.lc)) lo R s ts vN fa fi fc us (ns ++ x :: ns2) vs vU (.slice (some ⟨g, 0, none⟩) (ns ++ x :: ns2).length cap) vV := by
  have hfin : Fr (fun q => q = g) w (((w.setCell ⟨g, ns.length * 3, none⟩ (.int .i64 x.nd.op)).setCell ⟨g, ns.length * 3 + 1, none⟩ (.int .i64 x.nd.n)).setCell ⟨g, ns.length * 3 + 2, none⟩ (.slice x.la x.nd.l.length x.lc)) :=
    ((Fr.set (S := fun q => q = g) (q := ⟨g, ns.length * 3, none⟩) (.inl rfl)).same (Fr.set (q := ⟨g, ns.length * 3 + 1, none⟩) (.inl rfl))).same (Fr.set (q := ⟨g, ns.length * 3 + 2, none⟩) (.inl rfl))
  have hg := h.rn
  have hgl := row_base hg g rfl
  have hkp : ∀ {T : TypeId} {sz n B : Nat} {v : Value} {xs : List Value}, w.ownsRow B T sz v n xs → T ≠ 59 → (((w.setCell ⟨g, ns.length * 3, none⟩ (.int .i64 x.nd.op)).setCell ⟨g, ns.length * 3 + 1, none⟩ (.int .i64 x.nd.n)).setCell ⟨g, ns.length * 3 + 2, none⟩ (.slice x.la x.nd.l.length x.lc)).ownsRow B T sz v n xs := fun hrw hT => row_keep hrw fun q hq hq2 => hfin.block q hq2 fun e => by
    subst e
    exact rows_ne hrw hg hT _ hq rfl
  have h3 := row_set3 hg x ns.length (by simp)
  rw [set_mid] at h3
  have hle : (ns ++ na0 :: ns2).length = (ns ++ x :: ns2).length := by simp
  rw [hle] at h3
  have hrd := h.rd
  rw [hle] at hrd
  refine ⟨hrd.fr hfin (by omega), hkp h.ru (by decide), h3, hkp h.rv (by decide), fun y hy => ?_⟩
  have hok : y.Ok w lo := by
    rcases List.mem_append.1 hy with hy | hy
    · exact h.kids y (List.mem_append_left _ hy)
    · rcases List.mem_cons.1 hy with rfl | hy
      · exact hx
      · exact h.kids y (List.mem_append_right _ (List.mem_cons_of_mem _ hy))
  exact ⟨hkp hok.1 (by decide), hok.2⟩
end
end Go.Proofs.YtjendlnicbieoaaGreatDoor
/-
  Package source's reader: expression reads what it shall, for tokens of whatever number.
-/
namespace Go.Proofs.YtjendlnicbieoaaGreatDoor
open Go.RowKit Go.Sort

theorem row_fz {w : World} {B : Nat} {E : TypeId} {sz n : Nat} {g cap : Nat} {xs : List Value} (h : w.ownsRow B E sz (.slice (some ⟨g, 0, none⟩) n cap) n xs) (j : Nat) : w.frozen? ⟨g, j, none⟩ = false := by
  rcases h.2 with ⟨e, -⟩ | ⟨g', c, cu, e, -, hg, -⟩
  · cases e
  · injection e with e1 _ _
    injection e1 with e1
    injection e1 with e1 _ _
    subst e1
    simp [World.frozen?, hg]
theorem row_c {w : World} {B : Nat} {E : TypeId} {sz n : Nat} {g cap : Nat} {xs : List Value} (h : w.ownsRow B E sz (.slice (some ⟨g, 0, none⟩) n cap) n xs) {j : Nat} {u : Value} (hj : xs[j]? = some u) : w.cell? ⟨g, j, none⟩ = some u := by
  obtain ⟨a, c, e, -, -, hc⟩ := row_form h
  obtain ⟨g', rfl, -, -, h4⟩ := hc j u hj
  injection e with e1 _ _
  injection e1 with e1
  injection e1 with e1 _ _
  subst e1
  exact h4
theorem cs_len : ∀ l : List NA, (l.flatMap NA.cs).length = l.length * 3
  | [] => rfl
  | x :: r => by rw [List.flatMap_cons, List.length_append, cs_len r, List.length_cons]; simp [NA.cs]; omega
set_option maxRecDepth 100000 in
set_option maxHeartbeats 4000000 in
theorem expr_step (f : Nat) (hC : ExC f) : ExC (f + 1) := by
  intro lo R s ts vN fa fi fc us ns vs vU vD vV w hl h hul hfi hnl hvl hRl hll hsz hE he3
  have hr : RdOk lo R s w := ⟨hRl, hll, hsz, hE, he3⟩
  obtain ⟨da, dc, rfl, -⟩ := row_form h.rn
  have c12 : w.cell? ⟨R, 12, none⟩ = some (.slice da ns.length dc) := h.rd.tl_ (q := 3) rfl
  by_cases h200 : 200 ≤ ns.length
  case' pos =>
    have q : decide ((ns.length : Int) ≥ 200) = true := by simp; omega
    have hF := sfail_any R s ts _ w h.rd
    have HP : Hid (pE fi (f + 1) vs ns.length ts = .error (hd ts).ln) := by
      show _ = _
      rw [pE, if_pos h200]
    unfold WrongS at hF
    clear h200
    go_enter Tryz.func89, Tryz.ntmps89
    go_wp2_with (go_at_call 102; refine hF.mono ?_; rintro e w3 ⟨rfl, rfl⟩)
    rw [HP.out]
    exact ⟨rfl, Fr.refl _ _, rfl⟩
  case' neg =>
    have q : decide ((ns.length : Int) ≥ 200) = false := by simp; omega
    have HP : Hid (pE fi (f + 1) vs ns.length ts = pNode (pE fi f) f fi vs ns.length ts) := by
      show _ = _
      rw [pE, if_neg h200]
    have hnw := heap_alloc_new w (.cells #[.int .i64 0, .int .i64 0, .slice none 0 0] 59)
    have hRw := h.rd.lt
    have hfzR := h.rd.fz
    have hdb := row_base h.rn
    have hrn := h.rn
    go_enter Tryz.func89, Tryz.ntmps89
    go_upto_region 5 with (at_builtin; refine wpList_row _ rfl (.tmp 18) (.tmp 20) 44 59 _ 3 40 Tryz.underlying44 node_info rfl (by decide) (by decide) rfl lo (.slice da ns.length dc) ns.length (ns.flatMap NA.cs) rfl (hrn.alloc _) w.heap.size [.int .i64 0, .int .i64 0, .slice none 0 0] rfl hnw rfl (by intro u hu; simp at hu; rcases hu with rfl | rfl <;> rfl) (by omega) (by simp only [World.size_alloc]; omega) ?_; intro g6 cap6 w6 hr6 hg6 ha6; have hf6 : Fr (fun q => (Value.slice da ns.length dc).ownBlock = some q) w w6 := (Fr.alloc _).same (Fr.grown hg6 fun g hg => .inl hg); have hz6 : w6.frozen? ⟨R, 12, none⟩ = false := (Rdr.fr h.rd hf6 (fun e => by have := hdb _ e; omega)).fz 12; have hc6 : w6.cell? ⟨R, 12, none⟩ = some (.slice da ns.length dc) := (hf6.cell hRw (fun e => by have := hdb _ e; omega)).trans c12)
    obtain ⟨hf7, hE7, hst7⟩ := h.nodePushed hr hf6 hr6
    clear hz6 hc6 hnw hrn
    generalize w6.setCell ⟨R, 12, none⟩ (.slice (some ⟨g6, 0, none⟩) (ns.length + 1) cap6) = w7 at *
    have hz7 := hf7.size
    have hr7 := hr.to hE7 hz7
    have hNd := node_any f hC lo R s ts vN fa fi fc us (ns ++ [na0]) vs vU _ vV ns.length w7 hst7 hr7 (by simp) (by simp; omega) hl (by simp only [List.length_append, List.length_cons, List.length_nil]; omega) hfi (by simp only [List.length_append, List.length_cons, List.length_nil]; omega)
    have oD7 : Own2 w (.slice da ns.length dc) (.slice (some ⟨g6, 0, none⟩) (ns.length + 1) cap6) := fun q hq => by
      simp only [Value.ownBlock, Option.some.injEq] at hq
      subst hq
      rcases ha6 with e | e
      · exact .inl e
      · refine .inr ?_
        rw [e, World.size_alloc]
        omega
    have hf7s : Fr (Sx R vU (.slice da ns.length dc) vV) w w7 := hf7.more fun k _ e => by
      rcases e with e | e
      · exact .inl e
      · exact .inr (.inr (.inl e))
    obtain ⟨r, hrr⟩ : ∃ r, pNode (pE fi f) f fi vs ns.length ts = r := ⟨_, rfl⟩
    rw [hrr] at hNd
    have HR := Lib.hid (HP.out.trans hrr)
    clear hrr c12 hf6 hr6 hg6
    cases r with
    | error n =>
      have hEr : ∀ e w8, KyE (.error n) ns.length lo R s vN fa fi fc us (ns ++ [na0]) vs vU (.slice (some ⟨g6, 0, none⟩) (ns.length + 1) cap6) vV w7 e w8 → e = WrongS n ∧ Fr (Sx R vU (.slice da ns.length dc) vV) w w8 :=
        fun e w8 he => ⟨he.2, hf7s.sx he.1 (Own2.refl _ _) oD7 (Own2.refl _ _)⟩
      unfold WrongS at hEr
      go_wp2_with (go_at_call 104; refine hNd.mono ?_; intro e w8 he; obtain ⟨rfl, hf8⟩ := hEr _ _ he)
      rw [HR.out]
      exact ⟨rfl, hf8, rfl⟩
    | ok x =>
      go_upto_region 6 with (go_at_call 104; refine hNd.mono ?_; rintro e w8 ⟨hf8, hE8, op, nn, k, nx, vU8, vD8, vV8, la, lc, hx, rfl, hnd, hop, hnn, hrow8, hst8, oU8, oD8, oV8, on8, kn8⟩)
      have hz8 := hf8.size
      have hmid : ns ++ [na0] ++ nx = ns ++ na0 :: nx := by simp
      rw [hmid] at hst8
      have hst9 := hst8.below (below_new w8 (.cells #[.int .i64 op, .int .i64 nn, .slice la (roots (ns.length + 1) k).length lc] 59))
      have hbn := Blk.new w8 59 [.int .i64 op, .int .i64 nn, .slice la (roots (ns.length + 1) k).length lc]
      have hrow9 := hrow8.alloc (.cells #[.int .i64 op, .int .i64 nn, .slice la (roots (ns.length + 1) k).length lc] 59)
      have hb9 := below_new w8 (.cells #[.int .i64 op, .int .i64 nn, .slice la (roots (ns.length + 1) k).length lc] 59)
      generalize hw9 : w8.alloc (.cells #[.int .i64 op, .int .i64 nn, .slice la (roots (ns.length + 1) k).length lc] 59) = w9 at *
      clear hw9
      have hE9 : EnvP w9 := hE8.fr (S := fun _ => False) (Fr.belowAll hb9) (fun h => h)
      have hlen : ns.length < (ns ++ na0 :: nx).length := by simp
      have hz9 := hb9.size
      obtain ⟨da9, dc9, rfl, hdc9, hdm9, hcD⟩ := row_form hst9.rn
      have hgt : ∀ j v, ([.int .i64 0, .int .i64 0, .slice none 0 0] : List Value)[j]? = some v → ((ns ++ na0 :: nx).flatMap NA.cs)[ns.length * 3 + j]? = some v := fun j v hj => by
        rw [List.flatMap_append, List.getElem?_append_right (by rw [cs_len]; omega), cs_len, Nat.add_sub_cancel_left, List.flatMap_cons]
        rw [List.getElem?_append_left (by have := (List.getElem?_eq_some_iff.1 hj).1; exact this)]
        exact hj
      obtain ⟨g9, rfl, hlo9, hlt9, d0⟩ := hcD (ns.length * 3 + 0) _ (hgt 0 _ rfl)
      have d1 := row_c hst9.rn (hgt 1 _ rfl)
      have d2 := row_c hst9.rn (hgt 2 _ rfl)
      have n0 := hbn.c 0 rfl
      have n1 := hbn.c 1 rfl
      have n2 := hbn.c 2 rfl
      have c9 : w9.cell? ⟨R, 12, none⟩ = some (.slice (some ⟨g9, 0, none⟩) (ns ++ na0 :: nx).length dc9) := hst9.rd.tl_ (q := 3) rfl
      rw [Nat.add_zero] at d0
      have z0 := row_fz hst9.rn (ns.length * 3)
      have z1 := row_fz hst9.rn (ns.length * 3 + 1)
      have z2 := row_fz hst9.rn (ns.length * 3 + 2)
      go_region
      have oDA := oD7.trans oD8 hz7
      have hHR := HR.out
      obtain ⟨x1, x2, x3⟩ := pE_tk (f + 1) vs _ _ _ hHR
      rw [hx] at x3
      simp only [sizeF] at x3
      have hok : (NA.mk ⟨op, nn, roots (ns.length + 1) k⟩ la lc).Ok w9 lo := ⟨hrow9, hop, hnn, fun y hy => by
        obtain ⟨h1, h2⟩ := roots_mem k (ns.length + 1) y hy
        exact ⟨by omega, by omega⟩⟩
      have hst := (hst9.nodeSet hRl (NA.mk ⟨op, nn, roots (ns.length + 1) k⟩ la lc) hok).below (Below.refl _ _).drew
      have hfin : Fr (fun q => q = g9) w9 (((w9.setCell ⟨g9, ns.length * 3, none⟩ (.int .i64 op)).setCell ⟨g9, ns.length * 3 + 1, none⟩ (.int .i64 nn)).setCell ⟨g9, ns.length * 3 + 2, none⟩ (.slice la (roots (ns.length + 1) k).length lc)).drew :=
        ((((Fr.set (S := fun q => q = g9) (q := ⟨g9, ns.length * 3, none⟩) (.inl rfl)).same (Fr.set (q := ⟨g9, ns.length * 3 + 1, none⟩) (.inl rfl))).same (Fr.set (q := ⟨g9, ns.length * 3 + 2, none⟩) (.inl rfl))).same Fr.drew)
      have hfA : Fr (Sx R vU (.slice da ns.length dc) vV) w w9 := (hf7s.sx hf8 (Own2.refl _ _) oD7 (Own2.refl _ _)).trans (Fr.belowAll (S := fun _ => False) hb9) fun _ _ e => e.elim
      have hfB := hfA.trans hfin fun q hq e => by
        subst e
        rcases oDA q rfl with e | e
        · exact .inr (.inr (.inl e))
        · omega
      have hEB := hE9.fr hfin (by omega)
      clear d0 d1 d2 n0 n1 n2 c9 z0 z1 z2
      generalize (((w9.setCell ⟨g9, ns.length * 3, none⟩ (.int .i64 op)).setCell ⟨g9, ns.length * 3 + 1, none⟩ (.int .i64 nn)).setCell ⟨g9, ns.length * 3 + 2, none⟩ (.slice la (roots (ns.length + 1) k).length lc)).drew = wB at *
      go_wp2_with fail
      go_ret
      refine ⟨hfB, ?_⟩
      rw [hHR]
      refine ⟨hEB, rfl, NA.mk ⟨op, nn, roots (ns.length + 1) k⟩ la lc :: nx, vU8, _, vV8, ?_, hst, (Own2.refl _ _).trans oU8 hz7, oDA, (Own2.refl _ _).trans oV8 hz7, ?_⟩
      · rw [List.map_cons, hnd, hx, flat, flat, List.append_nil]
      · intro y hy q hq
        rcases List.mem_cons.1 hy with rfl | hy
        · have := (on8 q hq).1; omega
        · have := kn8 y hy q hq; omega
/-- expression reads what it shall. -/
theorem expr_any : ∀ f, ExC f
  | 0 => fun lo R s ts vN fa fi fc us ns vs vU vD vV w hl h _ _ _ _ _ _ _ _ _ => by
    have := h.rd.ne_nil
    omega
  | f + 1 => expr_step f (expr_any f)
end Go.Proofs.YtjendlnicbieoaaGreatDoor
