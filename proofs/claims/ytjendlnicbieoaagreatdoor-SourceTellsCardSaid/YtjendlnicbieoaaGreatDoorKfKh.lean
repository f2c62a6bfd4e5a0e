/-
  Package source's reader: keyword's forms that read children one by one. Printed by gen_kz.py.
-/
import Derived.Test.YtjendlnicbieoaaGreatDoorKyKz
namespace Go.Proofs.YtjendlnicbieoaaGreatDoor
open Go.RowKit Go.Sort

theorem need_t {α : Type} {b : Bool} {ts : List Tk} (k : List Tk → Except Nat α) (h : b = true) : need b ts k = k (mv ts) := by unfold need; rw [if_pos h]
theorem need_f {α : Type} {b : Bool} {ts : List Tk} (k : List Tk → Except Nat α) (h : b = false) : need b ts k = .error (hd ts).ln := by unfold need; rw [h, if_neg (by simp)]
theorem sub_yes {α β : Type} {r : Except Nat α} {x : α} (k : α → Except Nat β) (h : r = .ok x) : sub r k = k x := by rw [h]; rfl
theorem sub_er {α β : Type} {r : Except Nat α} {n : Nat} (k : α → Except Nat β) (h : r = .error n) : sub r k = .error n := by rw [h]; rfl
theorem list7 {us : List Value} (h : us.length = 7) : ∃ u0 u1 u2 u3 u4 u5 u6, us = [u0, u1, u2, u3, u4, u5, u6] := by
  match us, h with
  | [u0, u1, u2, u3, u4, u5, u6], _ => exact ⟨u0, u1, u2, u3, u4, u5, u6, rfl⟩
theorem nil_app (x : Fo) : Fo.nil.app x = x := rfl
set_option maxRecDepth 100000 in
set_option maxHeartbeats 8000000 in
theorem keyword_4 (f : Nat) (hC : ExC f) (op lo R : Nat) (hop : op ≤ 100) (s : ByteArray) (ts : List Tk) (vN : Value) (fa : Option Addr) (fi fc : Nat) (us : List Us) (ns : List NA) (vs : List Bs) (vU vD vV : Value) (a : Nat) (w : World)
    (h : St w lo R s ts vN fa fi fc us ns vs vU vD vV) (hr : RdOk lo R s w) (ha : ns.length = a + 1) (hn : ns.length ≤ 200) (hl : (mv ts).length ≤ f) (hul : us.length < 200 * fi + ns.length) (hfi : fi ≤ 64) (hvl : vs.length ≤ 9 + ns.length) :
    Calls Tryz.prog 119 #[.pointer (some ⟨R, 0, none⟩), .int .i64 (a : Nat), .agg #[.int .i64 (op : Nat), .int .i64 4]] w (KyE (pKey (pE fi f) f fi vs a op 4 ts) a lo R s vN fa fi fc us ns vs vU vD vV w) := by
  obtain ⟨r, hrr⟩ : ∃ r, pKey (pE fi f) f fi vs a op 4 ts = r := ⟨_, rfl⟩
  have HP0 := Lib.hid (hrr.symm.trans (show _ = pOne (pE fi f vs) a op (mv ts) by simp [pKey]))
  unfold pOne at HP0
  rw [hrr]
  clear hrr
  have hb1 : Below w.heap.size w ((w.alloc (.cells #[.int .i64 (op : Nat), .int .i64 4] 172)).alloc (.cells #[.int .i64 0, .int .i64 0, .slice none 0 0] 59)) := (below_new _ _).alloc (by simp) _
  have hb2 := hb1.alloc hb1.size (.cells #[.int .i64 (op : Nat), .int .i64 0, .slice none 0 0] 59)
  have h2 := h.below hb2
  have hE2 : EnvP _ := hr.E.fr (S := fun _ => False) (Fr.belowAll hb2) (fun h => h)
  have hMv := move_any R s ts _ _ h2.rd hr.sz hE2 hr.ne
  have hRl := hr.rl
  have hll := hr.ll
  go_enter Tryz.func119, Tryz.ntmps119
  go_upto_region 22 with (go_at_call 59; refine hMv.mono ?_; rintro e w0 ⟨rfl, hf0, hE0, hR0⟩; have hK0 : KyM op 4 (a + 1) .nil [] [] (mv ts) none 0 lo R s vN fa fi fc us ns vs vU vD vV vU vD vV w w0 := KyM.start h hr hn hf0 hE0 hR0; have k0_0 := hK0.bk.c 0 rfl; have k1_0 := hK0.bk.c 1 rfl)
  clear hMv
  have hM0 := isMark_any R s _ _ w0 hK0.st.rd ⟨#[40]⟩ 40 rfl
  cases hm0 : isM 40 (mv ts) with
  | false =>
    have hN0 := need_no hK0.st.rd hr.sz hK0.E hr.ne
    rw [hm0] at hM0
    have HE := Lib.hid (HP0.out.trans (need_f _ hm0))
    clear hm0
    go_wp2_with first
      | (go_at_call 88; refine hM0.mono ?_; rintro e w1 ⟨rfl, rfl⟩)
      | (go_at_call 83; refine hN0.mono ?_; rintro e w1 ⟨rfl, rfl⟩)
    refine ⟨rfl, hK0.fr, ?_⟩
    rw [HE.out]
    rfl
  | true =>
    have hN0 := need_yes hK0.st.rd hr.sz hK0.E hr.ne
    rw [hm0] at hM0
    have HP1 := Lib.hid (HP0.out.trans (need_t _ hm0))
    clear hm0
    have hml0 := mv_le (mv ts)
    go_upto_region 23 with first
      | (go_at_call 88; refine hM0.mono ?_; rintro e w1 ⟨rfl, rfl⟩)
      | (go_at_call 83; refine hN0.mono ?_; rintro e w1 ⟨rfl, hf1, hE1, hR1⟩; have hK1 := hK0.moved hr hf1 hE1 hR1; have k0_1 := hK1.bk.c 0 rfl; have k1_1 := hK1.bk.c 1 rfl)
    clear hM0 hN0
    refine hK1.kid hC kw_shape23 (by decide) (by simp) rfl rfl ha h (by omega) hul hfi hvl hr ?_ ?_
    case' refine_2 =>
      intro n act W hx hd hf
      refine ⟨hd, hf, ?_⟩
      rw [HP1.out.trans (sub_er _ (by simpa only [sizeF, szF_app, nil_app, Nat.add_zero, Nat.add_assoc] using hx))]
      rfl
    intro x0 la1 lc1 nx1 vU1 vD1 vV1 act w2 hx hU hK2
    have tk0 := (pE_tk f (vs) _ _ _ hx).1
    have HP2 := Lib.hid (HP1.out.trans (sub_yes _ (by simpa only [sizeF, szF_app, nil_app, Nat.add_zero, Nat.add_assoc] using hx)))
    obtain ⟨us7, hus, rfl⟩ := hU.list (by simp)
    obtain ⟨u0_0, u1_0, u2_0, u3_0, u4_0, u5_0, u6_0, rfl⟩ := list7 hus
    clear hx hU hus
    simp only [List.take_succ_cons, List.take_zero, List.drop_succ_cons, List.drop_zero, List.cons_append, List.nil_append]
    have k0_2 := hK2.bk.c 0 rfl
    have k1_2 := hK2.bk.c 1 rfl
    go_upto_region 24 with fail
    have hM2 := isMark_any R s _ _ w2 hK2.st.rd ⟨#[41]⟩ 41 rfl
    cases hm2 : isM 41 (x0.2.2) with
    | false =>
      have hN2 := need_no hK2.st.rd hr.sz hK2.E hr.ne
      rw [hm2] at hM2
      have HE := Lib.hid (HP2.out.trans (need_f _ hm2))
      clear hm2
      go_wp2_with first
        | (go_at_call 88; refine hM2.mono ?_; rintro e w3 ⟨rfl, rfl⟩)
        | (go_at_call 83; refine hN2.mono ?_; rintro e w3 ⟨rfl, rfl⟩)
      refine ⟨rfl, hK2.fr, ?_⟩
      rw [HE.out]
      rfl
    | true =>
      have hN2 := need_yes hK2.st.rd hr.sz hK2.E hr.ne
      rw [hm2] at hM2
      have HP3 := Lib.hid (HP2.out.trans (need_t _ hm2))
      clear hm2
      have hml2 := mv_le (x0.2.2)
      go_wp2_with first
        | (go_at_call 88; refine hM2.mono ?_; rintro e w3 ⟨rfl, rfl⟩)
        | (go_at_call 83; refine hN2.mono ?_; rintro e w3 ⟨rfl, hf3, hE3, hR3⟩; have hK3 := hK2.moved hr hf3 hE3 hR3; have k0_3 := hK3.bk.c 0 rfl; have k1_3 := hK3.bk.c 1 rfl; have r0 := hK3.br.c 0 rfl; have z0 := hK3.br.fz 0; have n0 := hK3.bn.c 0 rfl; have r1 := hK3.br.c 1 rfl; have z1 := hK3.br.fz 1; have n1 := hK3.bn.c 1 rfl; have r2 := hK3.br.c 2 rfl; have z2 := hK3.br.fz 2; have n2 := hK3.bn.c 2 rfl)
      have hB := ((hK3.br.set 0 (.int .i64 (op : Nat))).set 1 (.int .i64 0)).set 2 (.slice la1 (roots (a + 1) (Fo.nil.app x0.1)).length lc1)
      have b0 := hB.c 0 rfl
      have b1 := hB.c 1 rfl
      have b2 := hB.c 2 rfl
      refine bodyPost_ret (v := .agg #[.int .i64 (op : Nat), .int .i64 0, .slice la1 (roots (a + 1) (Fo.nil.app x0.1)).length lc1]) (by simp [results, Tryz.results119, go_sem, b0, b1, b2]) rfl ?_
      exact hK3.done hr hop HP3.out
set_option maxRecDepth 100000 in
set_option maxHeartbeats 8000000 in
theorem keyword_5 (f : Nat) (hC : ExC f) (op lo R : Nat) (hop : op ≤ 100) (s : ByteArray) (ts : List Tk) (vN : Value) (fa : Option Addr) (fi fc : Nat) (us : List Us) (ns : List NA) (vs : List Bs) (vU vD vV : Value) (a : Nat) (w : World)
    (h : St w lo R s ts vN fa fi fc us ns vs vU vD vV) (hr : RdOk lo R s w) (ha : ns.length = a + 1) (hn : ns.length ≤ 200) (hl : (mv ts).length ≤ f) (hul : us.length < 200 * fi + ns.length) (hfi : fi ≤ 64) (hvl : vs.length ≤ 9 + ns.length) :
    Calls Tryz.prog 119 #[.pointer (some ⟨R, 0, none⟩), .int .i64 (a : Nat), .agg #[.int .i64 (op : Nat), .int .i64 5]] w (KyE (pKey (pE fi f) f fi vs a op 5 ts) a lo R s vN fa fi fc us ns vs vU vD vV w) := by
  obtain ⟨r, hrr⟩ : ∃ r, pKey (pE fi f) f fi vs a op 5 ts = r := ⟨_, rfl⟩
  have HP0 := Lib.hid (hrr.symm.trans (show _ = pTwo (pE fi f vs) a op (mv ts) by simp [pKey]))
  unfold pTwo at HP0
  rw [hrr]
  clear hrr
  have hb1 : Below w.heap.size w ((w.alloc (.cells #[.int .i64 (op : Nat), .int .i64 5] 172)).alloc (.cells #[.int .i64 0, .int .i64 0, .slice none 0 0] 59)) := (below_new _ _).alloc (by simp) _
  have hb2 := hb1.alloc hb1.size (.cells #[.int .i64 (op : Nat), .int .i64 0, .slice none 0 0] 59)
  have h2 := h.below hb2
  have hE2 : EnvP _ := hr.E.fr (S := fun _ => False) (Fr.belowAll hb2) (fun h => h)
  have hMv := move_any R s ts _ _ h2.rd hr.sz hE2 hr.ne
  have hRl := hr.rl
  have hll := hr.ll
  go_enter Tryz.func119, Tryz.ntmps119
  go_upto_region 26 with (go_at_call 59; refine hMv.mono ?_; rintro e w0 ⟨rfl, hf0, hE0, hR0⟩; have hK0 : KyM op 5 (a + 1) .nil [] [] (mv ts) none 0 lo R s vN fa fi fc us ns vs vU vD vV vU vD vV w w0 := KyM.start h hr hn hf0 hE0 hR0; have k0_0 := hK0.bk.c 0 rfl; have k1_0 := hK0.bk.c 1 rfl)
  clear hMv
  have hM0 := isMark_any R s _ _ w0 hK0.st.rd ⟨#[40]⟩ 40 rfl
  cases hm0 : isM 40 (mv ts) with
  | false =>
    have hN0 := need_no hK0.st.rd hr.sz hK0.E hr.ne
    rw [hm0] at hM0
    have HE := Lib.hid (HP0.out.trans (need_f _ hm0))
    clear hm0
    go_wp2_with first
      | (go_at_call 88; refine hM0.mono ?_; rintro e w1 ⟨rfl, rfl⟩)
      | (go_at_call 83; refine hN0.mono ?_; rintro e w1 ⟨rfl, rfl⟩)
    refine ⟨rfl, hK0.fr, ?_⟩
    rw [HE.out]
    rfl
  | true =>
    have hN0 := need_yes hK0.st.rd hr.sz hK0.E hr.ne
    rw [hm0] at hM0
    have HP1 := Lib.hid (HP0.out.trans (need_t _ hm0))
    clear hm0
    have hml0 := mv_le (mv ts)
    go_upto_region 27 with first
      | (go_at_call 88; refine hM0.mono ?_; rintro e w1 ⟨rfl, rfl⟩)
      | (go_at_call 83; refine hN0.mono ?_; rintro e w1 ⟨rfl, hf1, hE1, hR1⟩; have hK1 := hK0.moved hr hf1 hE1 hR1; have k0_1 := hK1.bk.c 0 rfl; have k1_1 := hK1.bk.c 1 rfl)
    clear hM0 hN0
    refine hK1.kid hC kw_shape27 (by decide) (by simp) rfl rfl ha h (by omega) hul hfi hvl hr ?_ ?_
    case' refine_2 =>
      intro n act W hx hd hf
      refine ⟨hd, hf, ?_⟩
      rw [HP1.out.trans (sub_er _ (by simpa only [sizeF, szF_app, nil_app, Nat.add_zero, Nat.add_assoc] using hx))]
      rfl
    intro x0 la1 lc1 nx1 vU1 vD1 vV1 act w2 hx hU hK2
    have tk0 := (pE_tk f (vs) _ _ _ hx).1
    have HP2 := Lib.hid (HP1.out.trans (sub_yes _ (by simpa only [sizeF, szF_app, nil_app, Nat.add_zero, Nat.add_assoc] using hx)))
    obtain ⟨us7, hus, rfl⟩ := hU.list (by simp)
    obtain ⟨u0_0, u1_0, u2_0, u3_0, u4_0, u5_0, u6_0, rfl⟩ := list7 hus
    clear hx hU hus
    simp only [List.take_succ_cons, List.take_zero, List.drop_succ_cons, List.drop_zero, List.cons_append, List.nil_append]
    have k0_2 := hK2.bk.c 0 rfl
    have k1_2 := hK2.bk.c 1 rfl
    go_upto_region 28 with fail
    have hM2 := isMark_any R s _ _ w2 hK2.st.rd ⟨#[44]⟩ 44 rfl
    cases hm2 : isM 44 (x0.2.2) with
    | false =>
      have hN2 := need_no hK2.st.rd hr.sz hK2.E hr.ne
      rw [hm2] at hM2
      have HE := Lib.hid (HP2.out.trans (need_f _ hm2))
      clear hm2
      go_wp2_with first
        | (go_at_call 88; refine hM2.mono ?_; rintro e w3 ⟨rfl, rfl⟩)
        | (go_at_call 83; refine hN2.mono ?_; rintro e w3 ⟨rfl, rfl⟩)
      refine ⟨rfl, hK2.fr, ?_⟩
      rw [HE.out]
      rfl
    | true =>
      have hN2 := need_yes hK2.st.rd hr.sz hK2.E hr.ne
      rw [hm2] at hM2
      have HP3 := Lib.hid (HP2.out.trans (need_t _ hm2))
      clear hm2
      have hml2 := mv_le (x0.2.2)
      go_upto_region 29 with first
        | (go_at_call 88; refine hM2.mono ?_; rintro e w3 ⟨rfl, rfl⟩)
        | (go_at_call 83; refine hN2.mono ?_; rintro e w3 ⟨rfl, hf3, hE3, hR3⟩; have hK3 := hK2.moved hr hf3 hE3 hR3; have k0_3 := hK3.bk.c 0 rfl; have k1_3 := hK3.bk.c 1 rfl)
      clear hM2 hN2
      refine hK3.kid hC kw_shape29 (by decide) (by simp) rfl rfl ha h (by omega) hul hfi hvl hr ?_ ?_
      case' refine_2 =>
        intro n act W hx hd hf
        refine ⟨hd, hf, ?_⟩
        rw [HP3.out.trans (sub_er _ (by simpa only [sizeF, szF_app, nil_app, Nat.add_zero, Nat.add_assoc] using hx))]
        rfl
      intro x1 la2 lc2 nx2 vU2 vD2 vV2 act w4 hx hU hK4
      have tk1 := (pE_tk f (vs) _ _ _ hx).1
      have HP4 := Lib.hid (HP3.out.trans (sub_yes _ (by simpa only [sizeF, szF_app, nil_app, Nat.add_zero, Nat.add_assoc] using hx)))
      obtain ⟨us7, hus, rfl⟩ := hU.list (by simp)
      obtain ⟨u0_1, u1_1, u2_1, u3_1, u4_1, u5_1, u6_1, rfl⟩ := list7 hus
      clear hx hU hus
      simp only [List.take_succ_cons, List.take_zero, List.drop_succ_cons, List.drop_zero, List.cons_append, List.nil_append]
      have k0_4 := hK4.bk.c 0 rfl
      have k1_4 := hK4.bk.c 1 rfl
      go_upto_region 30 with fail
      have hM4 := isMark_any R s _ _ w4 hK4.st.rd ⟨#[41]⟩ 41 rfl
      cases hm4 : isM 41 (x1.2.2) with
      | false =>
        have hN4 := need_no hK4.st.rd hr.sz hK4.E hr.ne
        rw [hm4] at hM4
        have HE := Lib.hid (HP4.out.trans (need_f _ hm4))
        clear hm4
        go_wp2_with first
          | (go_at_call 88; refine hM4.mono ?_; rintro e w5 ⟨rfl, rfl⟩)
          | (go_at_call 83; refine hN4.mono ?_; rintro e w5 ⟨rfl, rfl⟩)
        refine ⟨rfl, hK4.fr, ?_⟩
        rw [HE.out]
        rfl
      | true =>
        have hN4 := need_yes hK4.st.rd hr.sz hK4.E hr.ne
        rw [hm4] at hM4
        have HP5 := Lib.hid (HP4.out.trans (need_t _ hm4))
        clear hm4
        have hml4 := mv_le (x1.2.2)
        go_wp2_with first
          | (go_at_call 88; refine hM4.mono ?_; rintro e w5 ⟨rfl, rfl⟩)
          | (go_at_call 83; refine hN4.mono ?_; rintro e w5 ⟨rfl, hf5, hE5, hR5⟩; have hK5 := hK4.moved hr hf5 hE5 hR5; have k0_5 := hK5.bk.c 0 rfl; have k1_5 := hK5.bk.c 1 rfl; have r0 := hK5.br.c 0 rfl; have z0 := hK5.br.fz 0; have n0 := hK5.bn.c 0 rfl; have r1 := hK5.br.c 1 rfl; have z1 := hK5.br.fz 1; have n1 := hK5.bn.c 1 rfl; have r2 := hK5.br.c 2 rfl; have z2 := hK5.br.fz 2; have n2 := hK5.bn.c 2 rfl)
        have hB := ((hK5.br.set 0 (.int .i64 (op : Nat))).set 1 (.int .i64 0)).set 2 (.slice la2 (roots (a + 1) ((Fo.nil.app x0.1).app x1.1)).length lc2)
        have b0 := hB.c 0 rfl
        have b1 := hB.c 1 rfl
        have b2 := hB.c 2 rfl
        refine bodyPost_ret (v := .agg #[.int .i64 (op : Nat), .int .i64 0, .slice la2 (roots (a + 1) ((Fo.nil.app x0.1).app x1.1)).length lc2]) (by simp [results, Tryz.results119, go_sem, b0, b1, b2]) rfl ?_
        exact hK5.done hr hop HP5.out
set_option maxRecDepth 100000 in
set_option maxHeartbeats 8000000 in
theorem keyword_3 (f : Nat) (hC : ExC f) (op lo R : Nat) (hop : op ≤ 100) (s : ByteArray) (ts : List Tk) (vN : Value) (fa : Option Addr) (fi fc : Nat) (us : List Us) (ns : List NA) (vs : List Bs) (vU vD vV : Value) (a : Nat) (w : World)
    (h : St w lo R s ts vN fa fi fc us ns vs vU vD vV) (hr : RdOk lo R s w) (ha : ns.length = a + 1) (hn : ns.length ≤ 200) (hl : (mv ts).length ≤ f) (hul : us.length < 200 * fi + ns.length) (hfi : fi ≤ 64) (hvl : vs.length ≤ 9 + ns.length) :
    Calls Tryz.prog 119 #[.pointer (some ⟨R, 0, none⟩), .int .i64 (a : Nat), .agg #[.int .i64 (op : Nat), .int .i64 3]] w (KyE (pKey (pE fi f) f fi vs a op 3 ts) a lo R s vN fa fi fc us ns vs vU vD vV w) := by
  obtain ⟨r, hrr⟩ : ∃ r, pKey (pE fi f) f fi vs a op 3 ts = r := ⟨_, rfl⟩
  have HP0 := Lib.hid (hrr.symm.trans (show _ = pIf (pE fi f vs) a op (mv ts) by simp [pKey]))
  unfold pIf at HP0
  rw [hrr]
  clear hrr
  have hb1 : Below w.heap.size w ((w.alloc (.cells #[.int .i64 (op : Nat), .int .i64 3] 172)).alloc (.cells #[.int .i64 0, .int .i64 0, .slice none 0 0] 59)) := (below_new _ _).alloc (by simp) _
  have hb2 := hb1.alloc hb1.size (.cells #[.int .i64 (op : Nat), .int .i64 0, .slice none 0 0] 59)
  have h2 := h.below hb2
  have hE2 : EnvP _ := hr.E.fr (S := fun _ => False) (Fr.belowAll hb2) (fun h => h)
  have hMv := move_any R s ts _ _ h2.rd hr.sz hE2 hr.ne
  have hRl := hr.rl
  have hll := hr.ll
  go_enter Tryz.func119, Tryz.ntmps119
  go_upto_region 16 with (go_at_call 59; refine hMv.mono ?_; rintro e w0 ⟨rfl, hf0, hE0, hR0⟩; have hK0 : KyM op 3 (a + 1) .nil [] [] (mv ts) none 0 lo R s vN fa fi fc us ns vs vU vD vV vU vD vV w w0 := KyM.start h hr hn hf0 hE0 hR0; have k0_0 := hK0.bk.c 0 rfl; have k1_0 := hK0.bk.c 1 rfl)
  clear hMv
  refine hK0.kid hC kw_shape16 (by decide) (by simp) rfl rfl ha h (by omega) hul hfi hvl hr ?_ ?_
  case' refine_2 =>
    intro n act W hx hd hf
    refine ⟨hd, hf, ?_⟩
    rw [HP0.out.trans (sub_er _ (by simpa only [sizeF, szF_app, nil_app, Nat.add_zero, Nat.add_assoc] using hx))]
    rfl
  intro x0 la1 lc1 nx1 vU1 vD1 vV1 act w1 hx hU hK1
  have tk0 := (pE_tk f (vs) _ _ _ hx).1
  have HP1 := Lib.hid (HP0.out.trans (sub_yes _ (by simpa only [sizeF, szF_app, nil_app, Nat.add_zero, Nat.add_assoc] using hx)))
  obtain ⟨us7, hus, rfl⟩ := hU.list (by simp)
  obtain ⟨u0_0, u1_0, u2_0, u3_0, u4_0, u5_0, u6_0, rfl⟩ := list7 hus
  clear hx hU hus
  simp only [List.take_succ_cons, List.take_zero, List.drop_succ_cons, List.drop_zero, List.cons_append, List.nil_append]
  have k0_1 := hK1.bk.c 0 rfl
  have k1_1 := hK1.bk.c 1 rfl
  go_upto_region 17 with fail
  have hM1 := isWord_any R s _ _ w1 hK1.st.rd ⟨#[116, 104, 101, 110]⟩ wThen rfl
  cases hm1 : isW wThen (x0.2.2) with
  | false =>
    have hN1 := need_no hK1.st.rd hr.sz hK1.E hr.ne
    rw [hm1] at hM1
    have HE := Lib.hid (HP1.out.trans (need_f _ hm1))
    clear hm1
    go_wp2_with first
      | (go_at_call 84; refine hM1.mono ?_; rintro e w2 ⟨rfl, rfl⟩)
      | (go_at_call 83; refine hN1.mono ?_; rintro e w2 ⟨rfl, rfl⟩)
    refine ⟨rfl, hK1.fr, ?_⟩
    rw [HE.out]
    rfl
  | true =>
    have hN1 := need_yes hK1.st.rd hr.sz hK1.E hr.ne
    rw [hm1] at hM1
    have HP2 := Lib.hid (HP1.out.trans (need_t _ hm1))
    clear hm1
    have hml1 := mv_le (x0.2.2)
    go_upto_region 18 with first
      | (go_at_call 84; refine hM1.mono ?_; rintro e w2 ⟨rfl, rfl⟩)
      | (go_at_call 83; refine hN1.mono ?_; rintro e w2 ⟨rfl, hf2, hE2, hR2⟩; have hK2 := hK1.moved hr hf2 hE2 hR2; have k0_2 := hK2.bk.c 0 rfl; have k1_2 := hK2.bk.c 1 rfl)
    clear hM1 hN1
    refine hK2.kid hC kw_shape18 (by decide) (by simp) rfl rfl ha h (by omega) hul hfi hvl hr ?_ ?_
    case' refine_2 =>
      intro n act W hx hd hf
      refine ⟨hd, hf, ?_⟩
      rw [HP2.out.trans (sub_er _ (by simpa only [sizeF, szF_app, nil_app, Nat.add_zero, Nat.add_assoc] using hx))]
      rfl
    intro x1 la2 lc2 nx2 vU2 vD2 vV2 act w3 hx hU hK3
    have tk1 := (pE_tk f (vs) _ _ _ hx).1
    have HP3 := Lib.hid (HP2.out.trans (sub_yes _ (by simpa only [sizeF, szF_app, nil_app, Nat.add_zero, Nat.add_assoc] using hx)))
    obtain ⟨us7, hus, rfl⟩ := hU.list (by simp)
    obtain ⟨u0_1, u1_1, u2_1, u3_1, u4_1, u5_1, u6_1, rfl⟩ := list7 hus
    clear hx hU hus
    simp only [List.take_succ_cons, List.take_zero, List.drop_succ_cons, List.drop_zero, List.cons_append, List.nil_append]
    have k0_3 := hK3.bk.c 0 rfl
    have k1_3 := hK3.bk.c 1 rfl
    go_upto_region 19 with fail
    have hM3 := isWord_any R s _ _ w3 hK3.st.rd ⟨#[101, 108, 115, 101]⟩ wElse rfl
    cases hm3 : isW wElse (x1.2.2) with
    | false =>
      have hN3 := need_no hK3.st.rd hr.sz hK3.E hr.ne
      rw [hm3] at hM3
      have HE := Lib.hid (HP3.out.trans (need_f _ hm3))
      clear hm3
      go_wp2_with first
        | (go_at_call 84; refine hM3.mono ?_; rintro e w4 ⟨rfl, rfl⟩)
        | (go_at_call 83; refine hN3.mono ?_; rintro e w4 ⟨rfl, rfl⟩)
      refine ⟨rfl, hK3.fr, ?_⟩
      rw [HE.out]
      rfl
    | true =>
      have hN3 := need_yes hK3.st.rd hr.sz hK3.E hr.ne
      rw [hm3] at hM3
      have HP4 := Lib.hid (HP3.out.trans (need_t _ hm3))
      clear hm3
      have hml3 := mv_le (x1.2.2)
      go_upto_region 20 with first
        | (go_at_call 84; refine hM3.mono ?_; rintro e w4 ⟨rfl, rfl⟩)
        | (go_at_call 83; refine hN3.mono ?_; rintro e w4 ⟨rfl, hf4, hE4, hR4⟩; have hK4 := hK3.moved hr hf4 hE4 hR4; have k0_4 := hK4.bk.c 0 rfl; have k1_4 := hK4.bk.c 1 rfl)
      clear hM3 hN3
      refine hK4.kid hC kw_shape20 (by decide) (by simp) rfl rfl ha h (by omega) hul hfi hvl hr ?_ ?_
      case' refine_2 =>
        intro n act W hx hd hf
        refine ⟨hd, hf, ?_⟩
        rw [HP4.out.trans (sub_er _ (by simpa only [sizeF, szF_app, nil_app, Nat.add_zero, Nat.add_assoc] using hx))]
        rfl
      intro x2 la3 lc3 nx3 vU3 vD3 vV3 act w5 hx hU hK5
      have tk2 := (pE_tk f (vs) _ _ _ hx).1
      have HP5 := Lib.hid (HP4.out.trans (sub_yes _ (by simpa only [sizeF, szF_app, nil_app, Nat.add_zero, Nat.add_assoc] using hx)))
      obtain ⟨us7, hus, rfl⟩ := hU.list (by simp)
      obtain ⟨u0_2, u1_2, u2_2, u3_2, u4_2, u5_2, u6_2, rfl⟩ := list7 hus
      clear hx hU hus
      simp only [List.take_succ_cons, List.take_zero, List.drop_succ_cons, List.drop_zero, List.cons_append, List.nil_append]
      have k0_5 := hK5.bk.c 0 rfl
      have k1_5 := hK5.bk.c 1 rfl
      have r0 := hK5.br.c 0 rfl
      have z0 := hK5.br.fz 0
      have n0 := hK5.bn.c 0 rfl
      have r1 := hK5.br.c 1 rfl
      have z1 := hK5.br.fz 1
      have n1 := hK5.bn.c 1 rfl
      have r2 := hK5.br.c 2 rfl
      have z2 := hK5.br.fz 2
      have n2 := hK5.bn.c 2 rfl
      go_wp2_with fail
      have hB := ((hK5.br.set 0 (.int .i64 (op : Nat))).set 1 (.int .i64 0)).set 2 (.slice la3 (roots (a + 1) (((Fo.nil.app x0.1).app x1.1).app x2.1)).length lc3)
      have b0 := hB.c 0 rfl
      have b1 := hB.c 1 rfl
      have b2 := hB.c 2 rfl
      refine bodyPost_ret (v := .agg #[.int .i64 (op : Nat), .int .i64 0, .slice la3 (roots (a + 1) (((Fo.nil.app x0.1).app x1.1).app x2.1)).length lc3]) (by simp [results, Tryz.results119, go_sem, b0, b1, b2]) rfl ?_
      exact hK5.done hr hop HP5.out
end Go.Proofs.YtjendlnicbieoaaGreatDoor
/-
  Package source's reader: keyword's forms that read a list.
-/
namespace Go.Proofs.YtjendlnicbieoaaGreatDoor
open Go.RowKit Go.Sort

set_option maxRecDepth 100000 in
set_option maxHeartbeats 8000000 in
theorem keyword_6 (f : Nat) (hC : ExC f) (op lo R : Nat) (hop : op ≤ 100) (s : ByteArray) (ts : List Tk) (vN : Value) (fa : Option Addr) (fi fc : Nat) (us : List Us) (ns : List NA) (vs : List Bs) (vU vD vV : Value) (a : Nat) (w : World)
    (h : St w lo R s ts vN fa fi fc us ns vs vU vD vV) (hr : RdOk lo R s w) (ha : ns.length = a + 1) (hn : ns.length ≤ 200) (hl : (mv ts).length ≤ f) (hul : us.length < 200 * fi + ns.length) (hfi : fi ≤ 64) (hvl : vs.length ≤ 9 + ns.length) :
    Calls Tryz.prog 119 #[.pointer (some ⟨R, 0, none⟩), .int .i64 (a : Nat), .agg #[.int .i64 (op : Nat), .int .i64 6]] w (KyE (pKey (pE fi f) f fi vs a op 6 ts) a lo R s vN fa fi fc us ns vs vU vD vV w) := by
  obtain ⟨r, hrr⟩ : ∃ r, pKey (pE fi f) f fi vs a op 6 ts = r := ⟨_, rfl⟩
  have HP0 := Lib.hid (hrr.symm.trans (show _ = pMany (pE fi f vs) f a op (mv ts) by simp [pKey]))
  unfold pMany at HP0
  rw [hrr]
  clear hrr
  have hb1 : Below w.heap.size w ((w.alloc (.cells #[.int .i64 (op : Nat), .int .i64 6] 172)).alloc (.cells #[.int .i64 0, .int .i64 0, .slice none 0 0] 59)) := (below_new _ _).alloc (by simp) _
  have hb2 := hb1.alloc hb1.size (.cells #[.int .i64 (op : Nat), .int .i64 0, .slice none 0 0] 59)
  have h2 := h.below hb2
  have hE2 : EnvP _ := hr.E.fr (S := fun _ => False) (Fr.belowAll hb2) (fun h => h)
  have hMv := move_any R s ts _ _ h2.rd hr.sz hE2 hr.ne
  have hRl := hr.rl
  have hll := hr.ll
  go_enter Tryz.func119, Tryz.ntmps119
  go_upto_region 32 with (go_at_call 59; refine hMv.mono ?_; rintro e w0 ⟨rfl, hf0, hE0, hR0⟩; have hK0 : KyM op 6 (a + 1) .nil [] [] (mv ts) none 0 lo R s vN fa fi fc us ns vs vU vD vV vU vD vV w w0 := KyM.start h hr hn hf0 hE0 hR0; have k0_0 := hK0.bk.c 0 rfl; have k1_0 := hK0.bk.c 1 rfl)
  clear hMv
  have hLi := list_any f hC lo R s (mv ts) vN fa fi fc (us ++ []) ns vs vU vD vV w0 (by omega) (by simpa using hK0.st) (by simp only [List.append_nil]; omega) hfi hn hvl (hr.to hK0.E hK0.fr.size)
  rw [ha] at hLi
  cases hx : pList (pE fi f vs) f (a + 1) (mv ts) with
  | error n =>
    rw [hx] at hLi
    have HE := Lib.hid (HP0.out.trans (sub_er _ hx))
    clear hx
    unfold LiE WrongS at hLi
    dsimp only at hLi
    go_wp2_with (go_at_call 121; refine hLi.mono ?_; rintro e w9 ⟨hf9, rfl⟩)
    refine ⟨rfl, hK0.fr.sx hf9 hK0.oU hK0.oD hK0.oV, ?_⟩
    rw [HE.out]
    rfl
  | ok x =>
    rw [hx] at hLi
    have HE := Lib.hid (HP0.out.trans (sub_yes _ hx))
    obtain ⟨tk1, tk2, tk3⟩ := pList_tk (fun a ts x h => pE_tk f vs a ts x h) (by omega) hx
    clear hx
    go_upto_region 36 with (go_at_call 121; refine hLi.mono ?_; intro e w1 he; obtain ⟨la, lc, ns2, vU2, vD2, vV2, rfl, zz, c2, hK9⟩ := hK0.listed hr ha tk3 tk2 he; have zz2 := zz 2)
    clear zz2 c2 zz hLi
    generalize w1.setCell ⟨w.heap.size + 1 + 1, 2, none⟩ (.slice la (roots (a + 1) x.1).length lc) = w9 at hK9 ⊢
    have r0 := hK9.br.c 0 rfl
    have z0 := hK9.br.fz 0
    have n0 := hK9.bn.c 0 rfl
    have r1 := hK9.br.c 1 rfl
    have z1 := hK9.br.fz 1
    have n1 := hK9.bn.c 1 rfl
    have r2 := hK9.br.c 2 rfl
    have z2 := hK9.br.fz 2
    have n2 := hK9.bn.c 2 rfl
    go_wp2_with fail
    have hB := ((hK9.br.set 0 (.int .i64 (op : Nat))).set 1 (.int .i64 0)).set 2 (.slice la (roots (a + 1) x.1).length lc)
    have b0 := hB.c 0 rfl
    have b1 := hB.c 1 rfl
    have b2 := hB.c 2 rfl
    refine bodyPost_ret (v := .agg #[.int .i64 (op : Nat), .int .i64 0, .slice la (roots (a + 1) x.1).length lc]) (by simp [results, Tryz.results119, go_sem, b0, b1, b2]) rfl ?_
    exact hK9.done hr hop HE.out
set_option maxRecDepth 100000 in
set_option maxHeartbeats 8000000 in
theorem keyword_7 (f : Nat) (hC : ExC f) (op lo R : Nat) (hop : op ≤ 100) (s : ByteArray) (ts : List Tk) (vN : Value) (fa : Option Addr) (fi fc : Nat) (us : List Us) (ns : List NA) (vs : List Bs) (vU vD vV : Value) (a : Nat) (w : World)
    (h : St w lo R s ts vN fa fi fc us ns vs vU vD vV) (hr : RdOk lo R s w) (ha : ns.length = a + 1) (hn : ns.length ≤ 200) (hl : (mv ts).length ≤ f) (hul : us.length < 200 * fi + ns.length) (hfi : fi ≤ 64) (hvl : vs.length ≤ 9 + ns.length) :
    Calls Tryz.prog 119 #[.pointer (some ⟨R, 0, none⟩), .int .i64 (a : Nat), .agg #[.int .i64 (op : Nat), .int .i64 7]] w (KyE (pKey (pE fi f) f fi vs a op 7 ts) a lo R s vN fa fi fc us ns vs vU vD vV w) := by
  obtain ⟨ua, uc, rfl, -⟩ := row_form h.ru
  obtain ⟨r, hrr⟩ : ∃ r, pKey (pE fi f) f fi vs a op 7 ts = r := ⟨_, rfl⟩
  have HP0 := Lib.hid (hrr.symm.trans (show _ = pNamed (pE fi f vs) f fi a op (mv ts) by simp [pKey]))
  unfold pNamed at HP0
  rw [hrr]
  clear hrr
  have hb1 : Below w.heap.size w ((w.alloc (.cells #[.int .i64 (op : Nat), .int .i64 7] 172)).alloc (.cells #[.int .i64 0, .int .i64 0, .slice none 0 0] 59)) := (below_new _ _).alloc (by simp) _
  have hb2 := hb1.alloc hb1.size (.cells #[.int .i64 (op : Nat), .int .i64 0, .slice none 0 0] 59)
  have h2 := h.below hb2
  have hE2 : EnvP _ := hr.E.fr (S := fun _ => False) (Fr.belowAll hb2) (fun h => h)
  have hMv := move_any R s ts _ _ h2.rd hr.sz hE2 hr.ne
  have hRl := hr.rl
  have hll := hr.ll
  go_enter Tryz.func119, Tryz.ntmps119
  go_upto_region 34 with (go_at_call 59; refine hMv.mono ?_; rintro e w0 ⟨rfl, hf0, hE0, hR0⟩; have hK0 : KyM op 7 (a + 1) .nil [] [] (mv ts) none 0 lo R s vN fa fi fc us ns vs (.slice ua us.length uc) vD vV (.slice ua us.length uc) vD vV w w0 := KyM.start h hr hn hf0 hE0 hR0; have k0_0 := hK0.bk.c 0 rfl; have k1_0 := hK0.bk.c 1 rfl)
  clear hMv
  have hUs := use_any lo R s (mv ts) vN fa fi fc ua us.length uc (us.flatMap usC) vD vV a w0 hK0.st.rd (by simpa using hK0.st.ru) (by omega) hr.rl (Nat.le_trans hr.ll hK0.fr.size) hr.sz hK0.E hr.e3
  have hml := mv_le (mv ts)
  cases hm : isN (mv ts) with
  | false =>
    unfold UseE WrongS at hUs
    rw [hm] at hUs
    simp only [Bool.false_eq_true, if_false] at hUs
    have HE := Lib.hid (HP0.out.trans (need_f _ hm))
    clear hm
    go_wp2_with (go_at_call 120; refine hUs.mono ?_; rintro e w9 ⟨hf9, rfl⟩)
    refine ⟨rfl, hK0.fr.same (hf9.more ?_), ?_⟩
    · rintro k - (e | e)
      · exact .inl e
      · exact .inr (.inl e)
    · rw [HE.out]
      rfl
  | true =>
    have HP1 := Lib.hid (HP0.out.trans (need_t _ hm))
    have HM := Lib.hid hm
    clear hm
    go_upto_region 35 with (go_at_call 120; refine hUs.mono ?_; intro e w1 he; obtain ⟨rfl, vU1, hK1⟩ := hK0.used hr HM.out he; have n0 := hK1.bn.c 0 rfl)
    have hLi := list_any f hC lo R s (mv (mv ts)) vN fa fi fc (us ++ [⟨fi, a, (hd (mv ts)).ln, (hd (mv ts)).s⟩]) ns vs vU1 vD vV w1 (by omega) (by simpa using hK1.st) (by simp only [List.length_append, List.length_cons, List.length_nil]; omega) hfi hn hvl (hr.to hK1.E hK1.fr.size)
    rw [ha] at hLi
    cases hx : pList (pE fi f vs) f (a + 1) (mv (mv ts)) with
    | error n =>
      rw [hx] at hLi
      have HE := Lib.hid (HP1.out.trans (sub_er _ hx))
      clear hx
      unfold LiE WrongS at hLi
      dsimp only at hLi
      go_wp2_with (go_at_call 121; refine hLi.mono ?_; rintro e w9 ⟨hf9, rfl⟩)
      refine ⟨rfl, hK1.fr.sx hf9 hK1.oU hK1.oD hK1.oV, ?_⟩
      rw [HE.out]
      rfl
    | ok x =>
      rw [hx] at hLi
      have HE := Lib.hid (HP1.out.trans (sub_yes _ hx))
      obtain ⟨tk1, tk2, tk3⟩ := pList_tk (fun a ts x h => pE_tk f vs a ts x h) (by omega) hx
      clear hx
      go_upto_region 36 with (go_at_call 121; refine hLi.mono ?_; intro e w2 he; obtain ⟨la, lc, ns2, vU2, vD2, vV2, rfl, zz, c2, hK9⟩ := hK1.listed hr ha tk3 tk2 he; have zz2 := zz 2)
      clear zz2 c2 zz hLi
      generalize w2.setCell ⟨w.heap.size + 1 + 1, 2, none⟩ (.slice la (roots (a + 1) x.1).length lc) = w9 at hK9 ⊢
      have r0 := hK9.br.c 0 rfl
      have z0 := hK9.br.fz 0
      have n0 := hK9.bn.c 0 rfl
      have r1 := hK9.br.c 1 rfl
      have z1 := hK9.br.fz 1
      have n1 := hK9.bn.c 1 rfl
      have r2 := hK9.br.c 2 rfl
      have z2 := hK9.br.fz 2
      have n2 := hK9.bn.c 2 rfl
      go_wp2_with fail
      have hB := ((hK9.br.set 0 (.int .i64 (op : Nat))).set 1 (.int .i64 0)).set 2 (.slice la (roots (a + 1) x.1).length lc)
      have b0 := hB.c 0 rfl
      have b1 := hB.c 1 rfl
      have b2 := hB.c 2 rfl
      refine bodyPost_ret (v := .agg #[.int .i64 (op : Nat), .int .i64 0, .slice la (roots (a + 1) x.1).length lc]) (by simp [results, Tryz.results119, go_sem, b0, b1, b2]) rfl ?_
      exact hK9.done hr hop HE.out
end Go.Proofs.YtjendlnicbieoaaGreatDoor
/-
  Package source's reader: keyword's form let. Printed by gen_kh.py.
-/
namespace Go.Proofs.YtjendlnicbieoaaGreatDoor
open Go.RowKit Go.Sort

theorem strg_info : (Tryz.prog.info? 9).map (fun i => (i.zero, i.size, i.bytes)) = some (some (.string ⟨#[]⟩), 1, 16) := by kernel_rfl
set_option maxRecDepth 100000 in
set_option maxHeartbeats 8000000 in
theorem keyword_2 (f : Nat) (hC : ExC f) (op lo R : Nat) (hop : op ≤ 100) (s : ByteArray) (ts : List Tk) (vN : Value) (fa : Option Addr) (fi fc : Nat) (us : List Us) (ns : List NA) (vs : List Bs) (vU vD vV : Value) (a : Nat) (w : World)
    (h : St w lo R s ts vN fa fi fc us ns vs vU vD vV) (hr : RdOk lo R s w) (ha : ns.length = a + 1) (hn : ns.length ≤ 200) (hl : (mv ts).length ≤ f) (hul : us.length < 200 * fi + ns.length) (hfi : fi ≤ 64) (hvl : vs.length < 9 + ns.length) :
    Calls Tryz.prog 119 #[.pointer (some ⟨R, 0, none⟩), .int .i64 (a : Nat), .agg #[.int .i64 (op : Nat), .int .i64 2]] w (KyE (pKey (pE fi f) f fi vs a op 2 ts) a lo R s vN fa fi fc us ns vs vU vD vV w) := by
  obtain ⟨r, hrr⟩ : ∃ r, pKey (pE fi f) f fi vs a op 2 ts = r := ⟨_, rfl⟩
  have HP0 := Lib.hid (hrr.symm.trans (show _ = pLet (pE fi f) vs a op (mv ts) by simp [pKey]))
  unfold pLet at HP0
  rw [hrr]
  clear hrr
  have hb1 : Below w.heap.size w ((w.alloc (.cells #[.int .i64 (op : Nat), .int .i64 2] 172)).alloc (.cells #[.int .i64 0, .int .i64 0, .slice none 0 0] 59)) := (below_new _ _).alloc (by simp) _
  have hb2 := hb1.alloc hb1.size (.cells #[.int .i64 (op : Nat), .int .i64 0, .slice none 0 0] 59)
  have h2 := h.below hb2
  have hE2 : EnvP _ := hr.E.fr (S := fun _ => False) (Fr.belowAll hb2) (fun h => h)
  have hMv := move_any R s ts _ _ h2.rd hr.sz hE2 hr.ne
  have hRl := hr.rl
  have hll := hr.ll
  go_enter Tryz.func119, Tryz.ntmps119
  go_upto_region 7 with (go_at_call 59; refine hMv.mono ?_; rintro e w0 ⟨rfl, hf0, hE0, hR0⟩; have hK0 : KyM op 2 (a + 1) .nil [] [] (mv ts) none 0 lo R s vN fa fi fc us ns vs vU vD vV vU vD vV w w0 := KyM.start h hr hn hf0 hE0 hR0; have k0_0 := hK0.bk.c 0 rfl; have k1_0 := hK0.bk.c 1 rfl)
  clear hMv
  have hNm := name_any R s (mv ts) _ w0 hK0.st.rd
  cases hm : isN (mv ts) with
  | false =>
    unfold NameE WrongS at hNm
    rw [hm] at hNm
    simp only [Bool.false_eq_true, if_false] at hNm
    have HE := Lib.hid (HP0.out.trans (need_f _ hm))
    clear hm
    go_wp2_with (go_at_call 85; refine hNm.mono ?_; rintro e w9 ⟨hb9, rfl⟩)
    refine ⟨rfl, (hK0.below hb9).fr, ?_⟩
    rw [HE.out]
    rfl
  | true =>
    unfold NameE at hNm
    rw [hm] at hNm
    simp only [if_true] at hNm
    have HP2 := Lib.hid (HP0.out.trans (need_t _ hm))
    clear hm
    go_upto_region 8 with (go_at_call 85; refine hNm.mono ?_; rintro e w1 ⟨hb9, S, rfl, hS, hR1⟩; have hK1 := hK0.below hb9; rw [← hS] at HP2; clear hS; have k0_1 := hK1.bk.c 0 rfl; have k1_1 := hK1.bk.c 1 rfl)
    have hMv1 := move_any R s (mv ts) _ w1 hK1.st.rd hr.sz hK1.E hr.ne
    have hml9 := mv_le (mv ts)
    go_upto_region 9 with (go_at_call 59; refine hMv1.mono ?_; rintro e w2 ⟨rfl, hf2, hE2', hR2⟩; have hK2 := hK1.moved hr hf2 hE2' hR2; have k0_2 := hK2.bk.c 0 rfl; have k1_2 := hK2.bk.c 1 rfl)
    clear hMv1 hNm
    have hM2 := isMark_any R s _ _ w2 hK2.st.rd ⟨#[61]⟩ 61 rfl
    cases hm2 : isM 61 (mv (mv ts)) with
    | false =>
      have hN2 := need_no hK2.st.rd hr.sz hK2.E hr.ne
      rw [hm2] at hM2
      have HE := Lib.hid (HP2.out.trans (need_f _ hm2))
      clear hm2
      go_wp2_with first
        | (go_at_call 88; refine hM2.mono ?_; rintro e w3 ⟨rfl, rfl⟩)
        | (go_at_call 83; refine hN2.mono ?_; rintro e w3 ⟨rfl, rfl⟩)
      refine ⟨rfl, hK2.fr, ?_⟩
      rw [HE.out]
      rfl
    | true =>
      have hN2 := need_yes hK2.st.rd hr.sz hK2.E hr.ne
      rw [hm2] at hM2
      have HP3 := Lib.hid (HP2.out.trans (need_t _ hm2))
      clear hm2
      have hml2 := mv_le (mv (mv ts))
      go_upto_region 10 with first
        | (go_at_call 88; refine hM2.mono ?_; rintro e w3 ⟨rfl, rfl⟩)
        | (go_at_call 83; refine hN2.mono ?_; rintro e w3 ⟨rfl, hf3, hE3, hR3⟩; have hK3 := hK2.moved hr hf3 hE3 hR3; have k0_3 := hK3.bk.c 0 rfl; have k1_3 := hK3.bk.c 1 rfl)
      clear hM2 hN2
      refine hK3.kid hC kw_shape10 (by decide) (by simp) rfl rfl ha h (by omega) hul hfi (by omega) hr ?_ ?_
      case' refine_2 =>
        intro n act W hx hd hf
        refine ⟨hd, hf, ?_⟩
        rw [HP3.out.trans (sub_er _ (by simpa only [sizeF, szF_app, nil_app, Nat.add_zero, Nat.add_assoc] using hx))]
        rfl
      intro x0 la1 lc1 nx1 vU1 vD1 vV1 act w4 hx hU hK4
      have tk0 := (pE_tk f (vs) _ _ _ hx).1
      have HP4 := Lib.hid (HP3.out.trans (sub_yes _ (by simpa only [sizeF, szF_app, nil_app, Nat.add_zero, Nat.add_assoc] using hx)))
      obtain ⟨us7, hus, rfl⟩ := hU.list (by simp)
      obtain ⟨u0_0, u1_0, u2_0, u3_0, u4_0, u5_0, u6_0, rfl⟩ := list7 hus
      clear hx hU hus
      simp only [List.take_succ_cons, List.take_zero, List.drop_succ_cons, List.drop_zero, List.cons_append, List.nil_append]
      have k0_4 := hK4.bk.c 0 rfl
      have k1_4 := hK4.bk.c 1 rfl
      go_upto_region 11 with fail
      have hM4 := isWord_any R s _ _ w4 hK4.st.rd ⟨#[105, 110]⟩ wIn rfl
      cases hm4 : isW wIn (x0.2.2) with
      | false =>
        have hN4 := need_no hK4.st.rd hr.sz hK4.E hr.ne
        rw [hm4] at hM4
        have HE := Lib.hid (HP4.out.trans (need_f _ hm4))
        clear hm4
        go_wp2_with first
          | (go_at_call 84; refine hM4.mono ?_; rintro e w5 ⟨rfl, rfl⟩)
          | (go_at_call 83; refine hN4.mono ?_; rintro e w5 ⟨rfl, rfl⟩)
        refine ⟨rfl, hK4.fr, ?_⟩
        rw [HE.out]
        rfl
      | true =>
        have hN4 := need_yes hK4.st.rd hr.sz hK4.E hr.ne
        rw [hm4] at hM4
        have HP5 := Lib.hid (HP4.out.trans (need_t _ hm4))
        clear hm4
        have hml4 := mv_le (x0.2.2)
        go_upto_region 12 with first
          | (go_at_call 84; refine hM4.mono ?_; rintro e w5 ⟨rfl, rfl⟩)
          | (go_at_call 83; refine hN4.mono ?_; rintro e w5 ⟨rfl, hf5, hE5, hR5⟩; have hK5 := hK4.moved hr hf5 hE5 hR5; have k0_5 := hK5.bk.c 0 rfl; have k1_5 := hK5.bk.c 1 rfl)
        clear hM4 hN4
        obtain ⟨va, vc, rfl, -⟩ := row_form hK5.st.rv
        have cv : w5.cell? ⟨R, 13, none⟩ = some (.slice va vs.length vc) := hK5.st.rd.tl_ (q := 4) rfl
        have hnw := heap_alloc_new w5 (.cells #[.string S] 9)
        have hz5 := hK5.fr.size
        have hRw := hK5.st.rd.lt
        have hfzR := hK5.st.rd.fz
        have hvb := row_base hK5.st.rv
        have hrv := hK5.st.rv
        go_upto_region 13 with (at_builtin; refine wpList_row _ rfl (.tmp 46) (.tmp 48) 60 9 _ 1 16 Tryz.underlying60 strg_info rfl (by decide) (by decide) rfl lo (.slice va vs.length vc) vs.length (strsV vs) rfl (hrv.alloc _) w5.heap.size [.string S] rfl hnw rfl (by intro u hu; simp at hu; subst hu; rfl) (by omega) (by simp only [World.size_alloc]; omega) ?_; intro g6 cap6 w6 hr6 hg6 ha6; have hf6 : Fr (fun q => (Value.slice va vs.length vc).ownBlock = some q) w5 w6 := (Fr.alloc _).same (Fr.grown hg6 fun g hg => .inl hg); have hz6 : w6.frozen? ⟨R, 13, none⟩ = false := (Rdr.fr hK5.st.rd hf6 (fun e => by have := hvb _ e; omega)).fz 13; have hc6 : w6.cell? ⟨R, 13, none⟩ = some (.slice va vs.length vc) := (hf6.cell hRw (fun e => by have := hvb _ e; omega)).trans cv)
        have hK7 := hK5.pushed hr (S := S) hf6 (ha6.imp id fun e => by rw [e]; simp) hr6
        have HP7 := HP5
        clear hz6 hc6 hnw hrv
        generalize w6.setCell ⟨R, 13, none⟩ (.slice (some ⟨g6, 0, none⟩) (vs.length + 1) cap6) = w7 at hK7 ⊢
        have k0_7 := hK7.bk.c 0 rfl
        have k1_7 := hK7.bk.c 1 rfl
        refine hK7.kid hC kw_shape13 (by decide) (by simp) rfl rfl ha h (by omega) hul hfi (by simp only [List.length_append, List.length_cons, List.length_nil]; omega) hr ?_ ?_
        case' refine_2 =>
          intro n act W hx hd hf
          refine ⟨hd, hf, ?_⟩
          rw [HP7.out.trans (sub_er _ (by simpa only [sizeF, szF_app, nil_app, Nat.add_zero, Nat.add_assoc] using hx))]
          rfl
        intro x1 la2 lc2 nx2 vU2 vD2 vV2 act w8 hx hU hK8
        have tk1 := (pE_tk f (vs ++ [S.data.toList]) _ _ _ hx).1
        have HP8 := Lib.hid (HP7.out.trans (sub_yes _ (by simpa only [sizeF, szF_app, nil_app, Nat.add_zero, Nat.add_assoc] using hx)))
        obtain ⟨us7, hus, rfl⟩ := hU.list (by simp)
        obtain ⟨u0_1, u1_1, u2_1, u3_1, u4_1, u5_1, u6_1, rfl⟩ := list7 hus
        clear hx hU hus
        simp only [List.take_succ_cons, List.take_zero, List.drop_succ_cons, List.drop_zero, List.cons_append, List.nil_append]
        have k0_8 := hK8.bk.c 0 rfl
        have k1_8 := hK8.bk.c 1 rfl
        go_upto_region 14 with fail
        obtain ⟨va8, vc8, rfl, hvc8, -, hva8⟩ := row_form hK8.st.rv
        obtain ⟨g8, rfl, -⟩ := hva8 vs.length (.string S) (by simp [strsV])
        have hl8 : (vs ++ [S.data.toList]).length = vs.length + 1 := by simp
        rw [hl8] at hK8 hvc8
        have c8 : w8.cell? ⟨R, 13, none⟩ = some (.slice (some ⟨g8, 0, none⟩) (vs.length + 1) vc8) := hK8.st.rd.tl_ (q := 4) rfl
        have z8 := hK8.st.rd.fz 13
        clear hl8
        go_region
        have hK9 := (hK8.popped hr).below (Below.refl _ _).drew
        clear c8 z8
        generalize (w8.setCell ⟨R, 13, none⟩ (.slice (some ⟨g8, 0, none⟩) vs.length vc8)).drew = w9 at hK9 ⊢
        have r0 := hK9.br.c 0 rfl
        have z0 := hK9.br.fz 0
        have n0 := hK9.bn.c 0 rfl
        have r1 := hK9.br.c 1 rfl
        have z1 := hK9.br.fz 1
        have n1 := hK9.bn.c 1 rfl
        have r2 := hK9.br.c 2 rfl
        have z2 := hK9.br.fz 2
        have n2 := hK9.bn.c 2 rfl
        go_wp2_with fail
        have hB := ((hK9.br.set 0 (.int .i64 (op : Nat))).set 1 (.int .i64 0)).set 2 (.slice la2 (roots (a + 1) ((Fo.nil.app x0.1).app x1.1)).length lc2)
        have b0 := hB.c 0 rfl
        have b1 := hB.c 1 rfl
        have b2 := hB.c 2 rfl
        refine bodyPost_ret (v := .agg #[.int .i64 (op : Nat), .int .i64 0, .slice la2 (roots (a + 1) ((Fo.nil.app x0.1).app x1.1)).length lc2]) (by simp [results, Tryz.results119, go_sem, b0, b1, b2]) rfl ?_
        exact hK9.done hr hop HP8.out
end Go.Proofs.YtjendlnicbieoaaGreatDoor
