/-
  The statements' function works: the chapter's rows.
-/
import Derived.Test.YtkahboomahhdoaaDoorWk6
namespace Go.Proofs.YtkahboomahhdoaaDoor
open Go.RowKit Go.Shelf Go.Sort
attribute [local go_sem] Oper.semAt_some

theorem list_cons {us : List Value} {n : Nat} (h : us.length = n + 1) : ∃ x r, us = x :: r ∧ r.length = n := by
  match us, h with
  | x :: r, h => exact ⟨x, r, rfl, by simpa using h⟩
theorem list_nil {us : List Value} (h : us.length = 0) : us = [] := List.eq_nil_of_length_eq_zero h
theorem r6_shape : Shape (ropsOf Tryd.f9 6) R6K R6E := ⟨by kernel_rfl, by kernel_rfl⟩
set_option maxRecDepth 100000 in
set_option maxHeartbeats 4000000 in
theorem works_any (w : World) (hE : Env w) : Calls Tryd.prog 9 #[] w fun e w' => e = .returned (.bool true) ∧ Below w.heap.size w w' := by
  refine callsIn_wide.1 (callsIn_of_wp_marks (n := 4) Tryd.func9 rfl trivial ?_ rfl)
  simp only [Tryd.ntmps9, List.size_toArray, List.length_nil, Nat.reduceSub, Array.replicate_succ, Array.replicate_zero, List.push_toArray, List.append_toArray, List.nil_append, List.cons_append]
  refine wpIn_wide.2 ?_
  have hst0 : WkSt w ((w.alloc (.cells #[.bool false] 4)).alloc (.cells #[.int .i64 4, .int .i64 3, .slice none 0 0] 26)) := by
    have h1 := Bx.new (w.alloc (.cells #[.bool false] 4)) 26 (.int .i64 4) (.int .i64 3) (.slice none 0 0)
    have hs : (w.alloc (.cells #[.bool false] 4)).heap.size = w.heap.size + 1 := by simp
    rw [hs] at h1
    exact ⟨(B1.new w 4 (.bool false)).alloc _, h1, two_alloc _ _ _, hE.below (two_alloc _ _ _) hE.size, hE.size⟩
  go_upto_region 2 with fail
  generalize (w.alloc (.cells #[.bool false] 4)).alloc (.cells #[.int .i64 4, .int .i64 3, .slice none 0 0] 26) = w1 at *
  go_wp2_with fail
  refine (rInt_any (-5) _).mono ?_
  rintro e w2 ⟨rfl, hb2⟩
  have hst2 := hst0.below hb2
  clear hst0 hb2
  go_wp2_with fail
  have hb3 := below_alloc w2 (.cells #[.int .i64 2, .int .i64 (-5), .slice none 0 0, .int .i64 1, .int .i64 0, .slice none 0 0] 26)
  have hst3 := hst2.below hb3
  refine (Text_any tPair _ _ (IsV_two (rng_small (by decide)) (rng_small (by decide)) (by simp) (heap_alloc_new _ _) (IsV_lf (rng_small (by decide)) (rng_small (by decide))) (IsV_lf (rng_small (by decide)) (rng_small (by decide)))) hst3.env).mono ?_
  rw [text_pair]
  rintro e w4 ⟨rfl, hb4⟩
  have hst4 := hst3.below hb4
  clear hst2 hb3 hst3 hb4
  go_upto_region 3 with fail
  go_cut [4, 5] from 21 to 170 (fun s4 s5 wx => s4 = .string ⟨#[119, 114, 97, 112, 40, 55, 44, 114, 101, 99, 118, 40, 99, 104, 97, 110, 40, 51, 41, 41, 44, 49, 41]⟩ ∧ s5 = .int .i64 0 ∧ WkSt w wx)
  case first =>
    have c0 := hst4.chan.c0
    have c1 := hst4.chan.c1
    have c2 := hst4.chan.c2
    refine wp_weaken ?_
    go_region_with (first
      | (go_at_call 27; refine (rInt_any 1 _).mono ?_; rintro e w5 ⟨rfl, hb5⟩; have hst5 : WkSt w w5 := WkSt.below (by first | exact hst4.drew | exact hst4 | exact (hst4.below (below_alloc _ _)).drew | exact hst4.drew.below (below_alloc _ _)) hb5; have c0 := hst5.chan.c0; have c1 := hst5.chan.c1; have c2 := hst5.chan.c2)
      | (go_at_call 20; ((with_reducible refine (text_wrap_call (ty := 26) (ty' := 26) (fr := (0, 0)) (fr' := (0, 0)) (heap_alloc_new _ _) ?_ ?_).mono ?_); (have hA := (hb5.block w4.heap.size (by simp)).trans (heap_alloc_new w4 _); exact (Below.heap_alloc _ _ _ (lt_of_heap hA)).trans hA); exact (hst5.below (below_alloc _ _)).env; rintro e w6 ⟨rfl, hb6⟩; have hst6 : WkSt w w6 := (hst5.below (below_alloc _ _)).below hb6))
      | (go_at_call 20; ((with_reducible refine (text_wrap_call (ty := 26) (ty' := 26) (fr := (0, 0)) (fr' := (0, 0)) (two_new _ _ _) (two_old _ _ _) ?_).mono ?_); exact ((hst5.below (below_alloc _ _)).below (below_alloc _ _)).env; rintro e w6 ⟨rfl, hb6⟩; have hst6 : WkSt w w6 := ((hst5.below (below_alloc _ _)).below (below_alloc _ _)).below hb6)))
    all_goals
      go_wp2_with fail
      go_meet
      exact ⟨rfl, rfl, hst6⟩
  case rest =>
    obtain ⟨rfl, rfl, hst5⟩ := hcut
    clear hst4
    go_wp2_with fail
    refine (Text_any tChoose _ _ (IsV_lf (rng_small (by decide)) (rng_small (by decide))) hst5.env).mono ?_
    rw [text_choose]
    rintro e w6 ⟨rfl, hb6⟩
    have hst6 := hst5.below hb6
    clear hst5 hb6
    go_wp2_with fail
    refine (Parse_any sSend (by decide) _ hst6.env.words).mono ?_
    rw [parse_send]
    rintro e w7 ⟨v, rfl, hv7, hb7⟩
    obtain ⟨kk, nn, aa, len, cap, rfl⟩ := hv7.form
    have hst7 := hst6.below hb7
    clear hst6
    go_upto_region 6 with fail
    have hbx := Bx.new w7 26 (.int .i64 kk) (.int .i64 nn) (.slice aa len cap)
    have hst8 := hst7.below (below_alloc w7 (.cells #[.int .i64 kk, .int .i64 nn, .slice aa len cap] 26))
    have hv8 : IsV (· < (w7.alloc (.cells #[.int .i64 kk, .int .i64 nn, .slice aa len cap] 26)).heap.size) (w7.alloc (.cells #[.int .i64 kk, .int .i64 nn, .slice aa len cap] 26)) tSend (.agg #[.int .i64 kk, .int .i64 nn, .slice aa len cap]) := IsV.later (w := w7) (hv7.more fun g hg => hg.2) (below_alloc _ _)
    clear hst7 hv7 hb7
    generalize w7.alloc (.cells #[.int .i64 kk, .int .i64 nn, .slice aa len cap] 26) = w8 at *
    generalize w7.heap.size = b8 at *
    go_cut [86] from 21 to 170 (fun s86 wx => s86 = .bool false ∧ WkSt w wx)
    case first =>
      refine r6_region (cb := w.heap.size + 1) (b8 := b8) (kk := kk) (nn := nn) (aa := aa) (len := len) (cap := cap) r6_shape (by simp) rfl rfl rfl rfl rfl rfl rfl rfl rfl rfl hst8 rfl hbx hv8 ?_
      intro a3 w9 hU h86 hst9
      obtain ⟨us, hus, rfl⟩ := hU.list (by simp)
      obtain ⟨x0, us0, e0, hus0⟩ := list_cons hus
      subst e0
      obtain ⟨x1, us1, e1, hus1⟩ := list_cons hus0
      subst e1
      obtain ⟨x2, us2, e2, hus2⟩ := list_cons hus1
      subst e2
      obtain ⟨x3, us3, e3, hus3⟩ := list_cons hus2
      subst e3
      obtain ⟨x4, us4, e4, hus4⟩ := list_cons hus3
      subst e4
      obtain ⟨x5, us5, e5, hus5⟩ := list_cons hus4
      subst e5
      obtain ⟨x6, us6, e6, hus6⟩ := list_cons hus5
      subst e6
      obtain ⟨x7, us7, e7, hus7⟩ := list_cons hus6
      subst e7
      obtain ⟨x8, us8, e8, hus8⟩ := list_cons hus7
      subst e8
      obtain ⟨x9, us9, e9, hus9⟩ := list_cons hus8
      subst e9
      obtain ⟨x10, us10, e10, hus10⟩ := list_cons hus9
      subst e10
      obtain ⟨x11, us11, e11, hus11⟩ := list_cons hus10
      subst e11
      obtain ⟨x12, us12, e12, hus12⟩ := list_cons hus11
      subst e12
      obtain ⟨x13, us13, e13, hus13⟩ := list_cons hus12
      subst e13
      obtain ⟨x14, us14, e14, hus14⟩ := list_cons hus13
      subst e14
      obtain ⟨x15, us15, e15, hus15⟩ := list_cons hus14
      subst e15
      obtain ⟨x16, us16, e16, hus16⟩ := list_cons hus15
      subst e16
      obtain ⟨x17, us17, e17, hus17⟩ := list_cons hus16
      subst e17
      obtain ⟨x18, us18, e18, hus18⟩ := list_cons hus17
      subst e18
      obtain ⟨x19, us19, e19, hus19⟩ := list_cons hus18
      subst e19
      obtain ⟨x20, us20, e20, hus20⟩ := list_cons hus19
      subst e20
      obtain ⟨x21, us21, e21, hus21⟩ := list_cons hus20
      subst e21
      obtain ⟨x22, us22, e22, hus22⟩ := list_cons hus21
      subst e22
      obtain ⟨x23, us23, e23, hus23⟩ := list_cons hus22
      subst e23
      obtain ⟨x24, us24, e24, hus24⟩ := list_cons hus23
      subst e24
      obtain ⟨x25, us25, e25, hus25⟩ := list_cons hus24
      subst e25
      obtain ⟨x26, us26, e26, hus26⟩ := list_cons hus25
      subst e26
      obtain ⟨x27, us27, e27, hus27⟩ := list_cons hus26
      subst e27
      obtain ⟨x28, us28, e28, hus28⟩ := list_cons hus27
      subst e28
      obtain ⟨x29, us29, e29, hus29⟩ := list_cons hus28
      subst e29
      obtain ⟨x30, us30, e30, hus30⟩ := list_cons hus29
      subst e30
      obtain ⟨x31, us31, e31, hus31⟩ := list_cons hus30
      subst e31
      obtain ⟨x32, us32, e32, hus32⟩ := list_cons hus31
      subst e32
      obtain ⟨x33, us33, e33, hus33⟩ := list_cons hus32
      subst e33
      obtain ⟨x34, us34, e34, hus34⟩ := list_cons hus33
      subst e34
      obtain ⟨x35, us35, e35, hus35⟩ := list_cons hus34
      subst e35
      obtain ⟨x36, us36, e36, hus36⟩ := list_cons hus35
      subst e36
      have en := list_nil hus36
      subst en
      have h36 : x36 = .bool false := h86
      subst h36
      clear hU h86
      simp only [List.take_succ_cons, List.take_zero, List.drop_succ_cons, List.drop_zero, List.cons_append, List.nil_append]
      go_wp2_with fail
      go_meet
      exact ⟨rfl, hst9⟩
    case rest =>
      obtain ⟨rfl, hst9⟩ := hcut
      clear hst8 hv8 hbx
      go_wp2_with fail
      refine (Each_any ⟨#[49, 10, 117, 110, 105, 116, 10, 120, 10, 50]⟩ _).mono ?_
      rintro e w10 ⟨rfl, rfl⟩
      have hst10 := hst9.below (below_alloc wc (.cells #[.string ⟨#[49, 10, 117, 110, 105, 116, 10, 120, 10, 50]⟩] 9))
      have hcs := (B1.new wc 9 (.string ⟨#[49, 10, 117, 110, 105, 116, 10, 120, 10, 50]⟩)).c
      have hbs : wc.heap.size < (wc.alloc (.cells #[.string ⟨#[49, 10, 117, 110, 105, 116, 10, 120, 10, 50]⟩] 9)).heap.size := by simp
      generalize wc.alloc (.cells #[.string ⟨#[49, 10, 117, 110, 105, 116, 10, 120, 10, 50]⟩] 9) = w11 at *
      generalize wc.heap.size = bs at *
      have hfn := func_nil bs w11
      go_wp2_with fail
      have hst12 := hst10.below (below_alloc w11 (.cells #[.int .i64 0] 3))
      have hn12 := B1.new w11 3 (.int .i64 0)
      have hcs12 : (w11.alloc (.cells #[.int .i64 0] 3)).cell? ⟨bs, 0, none⟩ = some (.string txt4) := ((below_alloc w11 (.cells #[.int .i64 0] 3)).cell (p := ⟨bs, 0, none⟩) hbs).trans hcs
      have hnb : w.heap.size + 1 < w11.heap.size := hst10.chan.lt
      have hnl : w11.heap.size < (w11.alloc (.cells #[.int .i64 0] 3)).heap.size := by simp
      clear hst9 hst10 hcs hfn
      generalize w11.alloc (.cells #[.int .i64 0] 3) = w12 at *
      generalize w11.heap.size = nb at *
      refine wpIn_wide.1 (wp_range (n := 4) (gf := 36) (lb := #[.pointer (some ⟨bs, 0, none⟩)]) rfl (enters_of Tryd.func36 (by kernel_rfl) rfl) (each_iter _ txt4 (by decide) bs w12 hcs12) (fun _ => rfl)
        (fun pre W => B1 W nb 3 (.int .i64 (pre.length : Int)) ∧ WkSt w W) (fun _ _ _ => False) ?_ (fun _ _ _ _ h _ => h) (fun _ _ h => h.2.env) ?_ ?_ ?_ (fun _ _ _ _ h _ => h.elim))
      · rintro pre W W' ⟨h1, h2⟩ hg
        exact ⟨(hg.block nb h1.lt (fun e => by injection e; omega)).trans h1, h2.near (by omega) hg⟩
      · intro W hg
        have hb : Below w12.heap.size w12 W := ⟨hg.os, hg.tape, hg.output, hg.size, fun k hk => hg.block k hk (by simp)⟩
        exact ⟨hn12.belowAll hb, hst12.below hb⟩
      · rintro pre ⟨i, t, v⟩ W ⟨hn, hst⟩ ⟨hi, hpre, hv⟩ hWl
        dsimp only at hi hv
        subst hi
        have HPRE := Lib.hid hpre
        clear hpre
        obtain ⟨kk2, nn2, aa2, len2, cap2, rfl⟩ := hv.form
        simp only [encE]
        gi_wp2
        refine ⟨World.grownBy_alloc W _ none, ?_⟩
        intro w2 hg2 hl2 hr2
        have hx2 : Bx w2 W.heap.size 26 (.int .i64 kk2) (.int .i64 nn2) (.slice aa2 len2 cap2) := (hg2.block W.heap.size (by simp) (fun e => by injection e; omega)).trans (Bx.new W 26 (.int .i64 kk2) (.int .i64 nn2) (.slice aa2 len2 cap2))
        have hn2 : B1 w2 nb 3 (.int .i64 (pre.length : Int)) := (hg2.block nb (by have := hn.lt; simp; omega) (fun e => by injection e; omega)).trans (hn.alloc _)
        have hst2 : WkSt w w2 := (hst.below (below_alloc W _)).near (by omega) hg2
        clear hn hst hg2
        rcases pre_two HPRE.out with ⟨hlen, rfl⟩ | ⟨hlen, rfl⟩
        · have hlenI : (pre.length : Int) = 0 := by omega
          rw [hlenI] at hn2 ⊢
          obtain ⟨rfl, rfl, rfl, hcl⟩ := leaf_form hv
          have n0 := fun d os => cell_regrown hn2.c d os
          have x0 := fun d os => cell_regrown hx2.c0 d os
          have x1 := fun d os => cell_regrown hx2.c1 d os
          have x2 := fun d os => cell_regrown hx2.c2 d os
          have cI : ∀ d os, Calls Tryd.prog 27 #[.int .i64 1] (grow (redrawn w2 d) os) fun e w'' => e = .returned (.agg #[.int .i64 2, .int .i64 1, .slice none 0 0]) ∧ ∃ p : Regrown, w'' = grow (redrawn w2 p.d) p.os := fun d os => Calls.regrown_of (rInt_any 1 _)
          have cS : ∀ d os, Calls Tryd.prog 12 #[.agg #[.int .i64 2, .int .i64 1, .slice aa2 0 cap2], .agg #[.int .i64 2, .int .i64 1, .slice none 0 0]] (grow (redrawn w2 d) os) fun e w'' => e = .returned (.bool true) ∧ ∃ p : Regrown, w'' = grow (redrawn w2 p.d) p.os := fun d os => Calls.regrown_of (same_leaf _ (rng_small (by decide)) (rng_small (by decide)) hcl)
          gi_wp2
          refine round_quiet (C := fun w' => ∃ p : Regrown, w' = grow (redrawn w2 p.d) p.os) (by kernel_rfl) (by kernel_rfl) (by kernel_rfl) (by rintro ⟨_, _, h⟩; exact h) ⟨⟨w2.drawn + 1, #[]⟩, by rw [grow_empty]; rfl⟩ ?_
          repeat (quiet_step (first | exact cI _ _ | exact cS _ _))
          refine wpQuiet_nil ?_
          intro _ hw'
          obtain ⟨⟨dq, osq⟩, hw''⟩ := hw'
          subst hw''
          have hb3 := below_regrown w2 dq osq
          clear n0 x0 x1 x2 cI cS
          generalize grow (redrawn w2 dq) osq = w3 at *
          have hn3 := hn2.belowAll hb3
          have hst3 := hst2.below hb3
          have n0 := hn3.c
          have nf := hn3.fz
          gi_wp2
          refine ⟨⟨?_, ?_⟩, ?_, ?_⟩
          · rw [Below.heap_setCell _ _ _ _ (by simp; omega)]
            exact hb3.block _ hl2
          · rw [Below.heap_setCell _ _ _ _ (by simp; omega)]
            exact hb3.block _ (by omega)
          · have hl9 : ((pre ++ [(pre.length, VT.mk 2 1 [], Value.agg #[.int .i64 2, .int .i64 1, .slice aa2 0 cap2])]).length : Int) = 1 := by simp; omega
            rw [hl9]
            exact hn3.set _
          · exact hst3.setN hnb _
        · have hlenI : (pre.length : Int) = 1 := by omega
          rw [hlenI] at hn2 ⊢
          obtain ⟨rfl, rfl, rfl, hcl⟩ := leaf_form hv
          have n0 := fun d os => cell_regrown hn2.c d os
          have x0 := fun d os => cell_regrown hx2.c0 d os
          have x1 := fun d os => cell_regrown hx2.c1 d os
          have x2 := fun d os => cell_regrown hx2.c2 d os
          have cI : ∀ d os, Calls Tryd.prog 27 #[.int .i64 1] (grow (redrawn w2 d) os) fun e w'' => e = .returned (.agg #[.int .i64 2, .int .i64 1, .slice none 0 0]) ∧ ∃ p : Regrown, w'' = grow (redrawn w2 p.d) p.os := fun d os => Calls.regrown_of (rInt_any 1 _)
          have cS : ∀ d os, Calls Tryd.prog 12 #[.agg #[.int .i64 1, .int .i64 0, .slice aa2 0 cap2], .agg #[.int .i64 1, .int .i64 0, .slice none 0 0]] (grow (redrawn w2 d) os) fun e w'' => e = .returned (.bool true) ∧ ∃ p : Regrown, w'' = grow (redrawn w2 p.d) p.os := fun d os => Calls.regrown_of (same_leaf _ (rng_small (by decide)) (rng_small (by decide)) hcl)
          gi_wp2
          refine round_quiet (C := fun w' => ∃ p : Regrown, w' = grow (redrawn w2 p.d) p.os) (by kernel_rfl) (by kernel_rfl) (by kernel_rfl) (by rintro ⟨_, _, h⟩; exact h) ⟨⟨w2.drawn + 1, #[]⟩, by rw [grow_empty]; rfl⟩ ?_
          repeat (quiet_step (first | exact cI _ _ | exact cS _ _))
          refine wpQuiet_nil ?_
          intro _ hw'
          obtain ⟨⟨dq, osq⟩, hw''⟩ := hw'
          subst hw''
          have hb3 := below_regrown w2 dq osq
          clear n0 x0 x1 x2 cI cS
          generalize grow (redrawn w2 dq) osq = w3 at *
          have hn3 := hn2.belowAll hb3
          have hst3 := hst2.below hb3
          have n0 := hn3.c
          have nf := hn3.fz
          gi_wp2
          refine ⟨⟨?_, ?_⟩, ?_, ?_⟩
          · rw [Below.heap_setCell _ _ _ _ (by simp; omega)]
            exact hb3.block _ hl2
          · rw [Below.heap_setCell _ _ _ _ (by simp; omega)]
            exact hb3.block _ (by omega)
          · have hl9 : ((pre ++ [(pre.length, VT.mk 1 0 [], Value.agg #[.int .i64 1, .int .i64 0, .slice aa2 0 cap2])]).length : Int) = 2 := by simp; omega
            rw [hl9]
            exact hn3.set _
          · exact hst3.setN hnb _
      · rintro xs W hS ⟨hn, hst⟩ hD
        have hl2 : (xs.length : Int) = 2 := by have := congrArg List.length hS; rw [each_txt4] at this; simp at this; omega
        rw [hl2] at hn
        go_wp2_with fail
        refine (Word_any 4 _ hst.env.words).mono ?_
        rw [word4]
        rintro e w' ⟨rfl, rfl⟩
        go_wp2_with fail
        refine (Kind_any ⟨#[110, 101, 118, 101, 114]⟩ _ hst.env.words).mono ?_
        rw [kind_never]
        rintro e w' ⟨rfl, rfl⟩
        go_wp2_with fail
        refine (Kind_any ⟨#[105, 110, 116]⟩ _ hst.env.words).mono ?_
        rw [kind_int]
        rintro e w' ⟨rfl, rfl⟩
        have n0 := hn.c
        go_wp2_with fail
        refine (wrong_any _ 5 parse_w1 (by decide) _ hst.env.words).mono ?_
        rintro e w13 ⟨rfl, hb13⟩
        have hst13 := hst.below hb13
        have hD13 := (hb13.block _ (lt_of_heap hD)).trans hD
        clear hb13 hD hst
        go_wp2_with fail
        refine (wrong_any _ 1 parse_w2 (by decide) _ hst13.env.words).mono ?_
        rintro e w14 ⟨rfl, hb14⟩
        have hst14 := hst13.below hb14
        have hD14 := (hb14.block _ (lt_of_heap hD13)).trans hD13
        clear hb14 hD13 hst13
        go_wp2_with fail
        refine (wrong_any _ 1 parse_w3 (by decide) _ hst14.env.words).mono ?_
        rintro e w15 ⟨rfl, hb15⟩
        have hst15 := hst14.below hb15
        have hD15 := (hb15.block _ (lt_of_heap hD14)).trans hD14
        clear hb15 hD14 hst14
        go_wp2_with fail
        refine (wrong_any _ 5 parse_w4 (by decide) _ hst15.env.words).mono ?_
        rintro e w16 ⟨rfl, hb16⟩
        have hst16 := hst15.below hb16
        have hD16 := (hb16.block _ (lt_of_heap hD15)).trans hD15
        clear hb16 hD15 hst15
        go_wp2_with fail
        refine (wrong_any _ 7 parse_w5 (by decide) _ hst16.env.words).mono ?_
        rintro e w17 ⟨rfl, hb17⟩
        have hst17 := hst16.below hb17
        have hD17 := (hb17.block _ (lt_of_heap hD16)).trans hD16
        clear hb17 hD16 hst16
        go_wp2_with fail
        refine (wrong_any _ 4 parse_w6 (by decide) _ hst17.env.words).mono ?_
        rintro e w18 ⟨rfl, hb18⟩
        have hst18 := hst17.below hb18
        have hD18 := (hb18.block _ (lt_of_heap hD17)).trans hD17
        clear hb18 hD17 hst17
        go_wp2_with fail
        refine (wrong_any _ 0 parse_w7 (by decide) _ hst18.env.words).mono ?_
        rintro e w19 ⟨rfl, hb19⟩
        have hst19 := hst18.below hb19
        have hD19 := (hb19.block _ (lt_of_heap hD18)).trans hD18
        clear hb19 hD18 hst18
        have r0 := hst19.res.c
        have rf := hst19.res.fz
        go_wp2_with fail
        have hD20 : (w19.setCell ⟨w.heap.size, 0, none⟩ (.bool true)).heap[w12.heap.size]? = some (.deferred (some [])) := (Below.heap_setCell _ _ _ _ (by simp; omega)).trans hD19
        refine ⟨by simp, .inl ⟨_, _, rfl, run_takeDeferred hD20, ?_⟩⟩
        have hr20 : B1 ((w19.setCell ⟨w.heap.size, 0, none⟩ (.bool true)).putObj w12.heap.size (.deferred none)) w.heap.size 4 (.bool true) := (World.putObj_heap_other (by omega)).trans (hst19.res.set _)
        exact ⟨.bool true, by simp [results, Tryd.results9, go_sem, hr20.c], rfl, (hst19.b.setCell (p := ⟨w.heap.size, 0, none⟩) (Nat.le_refl _) _).trans (belowK_b (w := w) (Nat.le_refl _) _ _ _ _ (by omega) hD20 rfl rfl)⟩
end Go.Proofs.YtkahboomahhdoaaDoor
