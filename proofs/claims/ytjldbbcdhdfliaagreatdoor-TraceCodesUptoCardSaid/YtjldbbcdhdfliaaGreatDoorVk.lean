/-
 Walks over package trace: Decode.
-/
import Derived.Test.YtjldbbcdhdfliaaGreatDoorViVj
import Derived.Deep.AppendLies
namespace Go.Proofs.YtjldbbcdhdfliaaGreatDoor
open Go.RowKit Go.Sort

/-- What stands behind the event's call. -/
structure EvP (W0 : World) (lb lo : Nat) (v : Value) (n : Nat) (xs : List Value) (PE : List Value → World → Prop) (vs : List Value) (W : World) : Prop where
 pe : PE vs W
 lc : B1 W lb 38 v
 row : (W.alloc (.cells vs.toArray 29)).ownsRow lo 29 10 v n xs
 le : lo ≤ W.heap.size
 keep : ∀ W1, (W.alloc (.cells vs.toArray 29)).grownBy W1 v.ownBlock → B1 W1 lb 38 v
 form : ∃ (k st th sy br pa m kk nn : Int) (aa : Option Addr) (ll cc : Nat), vs = [.int .i64 k, .int .i64 st, .int .i64 th, .int .i64 sy, .int .i64 br, .int .i64 pa, .int .i64 m, .int .i64 kk, .int .i64 nn, .slice aa ll cc]
/-- The state in the statement that appends an event. -/
structure D11S (a0 : Act) (rb lb lo : Nat) (v : Value) (n : Nat) (xs : List Value) (PE : List Value → World → Prop) (W0 : World) (D : Nat → Bool) (a : Act) (W : World) : Prop where
 fr : Upd a0 a 44 5
 sl : Slots [(0, 44, v), (1, 45, .pointer (some ⟨rb, 0, none⟩))] D a
 d3 : D 3 = true → D 2 = true
 d4 : D 4 = true → D 3 = true
 d5 : D 5 = true → D 4 = true
 d40 : D 4 = true → D 0 = true
 lc : D 5 = false → B1 W lb 38 v
 s1 : D 2 = false → W = W0
 s2 : D 2 = true → D 3 = false → ∃ vs, EvP W0 lb lo v n xs PE vs W ∧ a.eval (.tmp 46) = .agg vs.toArray
 s3 : D 3 = true → D 4 = false → ∃ vs w4, EvP W0 lb lo v n xs PE vs w4 ∧ W = w4.alloc (.cells vs.toArray 29) ∧ a.eval (.tmp 47) = .slice (some ⟨w4.heap.size, 0, none⟩) 1 1
 s4 : D 4 = true → ∃ vs w4 W1 g cap, EvP W0 lb lo v n xs PE vs w4 ∧ W1.ownsRow lo 29 10 (.slice (some ⟨g, 0, none⟩) (n + 1) cap) (n + 1) (xs ++ vs) ∧ (w4.alloc (.cells vs.toArray 29)).grownBy W1 v.ownBlock ∧ (v.ownBlock = some g ∨ g = (w4.alloc (.cells vs.toArray 29)).heap.size) ∧ a.eval (.tmp 48) = .slice (some ⟨g, 0, none⟩) (n + 1) cap ∧
  (D 5 = false → W = W1) ∧ (D 5 = true → W = W1.setCell ⟨lb, 0, none⟩ (.slice (some ⟨g, 0, none⟩) (n + 1) cap))
theorem D11S.fill {a0 a : Act} {rb lb lo n : Nat} {v : Value} {xs : List Value} {PE : List Value → World → Prop} {W0 W : World} {D : Nat → Bool} (h : D11S a0 rb lb lo v n xs PE W0 D a W) (i t : Nat) (u : Value) (hi : i = 0 ∨ i = 1) (ht : t = 44 ∨ t = 45) (hs : t < a.tmps.size)
  (hT : ∀ y ∈ [(0, 44, v), (1, 45, Value.pointer (some ⟨rb, 0, none⟩))], (y.1 = i → y.2.1 = t ∧ y.2.2 = u) ∧ (y.1 ≠ i → y.2.1 ≠ t)) : D11S a0 rb lb lo v n xs PE W0 (upd D i) (a.put (some t) u) W := by
 have e2 : upd D i 2 = D 2 := upd_ne D (by omega)
 have e3 : upd D i 3 = D 3 := upd_ne D (by omega)
 have e4 : upd D i 4 = D 4 := upd_ne D (by omega)
 have e5 : upd D i 5 = D 5 := upd_ne D (by omega)
 have q6 : (a.put (some t) u).eval (.tmp 46) = a.eval (.tmp 46) := eval_put_ne (by omega) u
 have q7 : (a.put (some t) u).eval (.tmp 47) = a.eval (.tmp 47) := eval_put_ne (by omega) u
 have q8 : (a.put (some t) u).eval (.tmp 48) = a.eval (.tmp 48) := eval_put_ne (by omega) u
 refine ⟨h.fr.put (by omega) (by omega) u, h.sl.put i t u hs hT, ?_, ?_, ?_, ?_, ?_, ?_, ?_, ?_, ?_⟩
 ·rw [e2, e3]; exact h.d3
 ·rw [e3, e4]; exact h.d4
 ·rw [e4, e5]; exact h.d5
 ·rw [e4]
  intro hd
  rcases hi with rfl | rfl
  ·exact upd_same _ _
  ·rw [upd_ne D (by decide)]; exact h.d40 hd
 ·rw [e5]; exact h.lc
 ·rw [e2]; exact h.s1
 ·rw [e2, e3, q6]; exact h.s2
 ·rw [e3, e4, q7]; exact h.s3
 ·rw [e4, e5, q8]; exact h.s4
set_option maxRecDepth 100000 in
set_option maxHeartbeats 8000000 in
/-- The statement that appends an event, where there is one. -/
theorem d11_some {ops : Array Oper} {Q : Exit → Act → World → Prop} {a0 : Act} {id rb lb lo n : Nat} {v : Value} {xs : List Value} {PE : List Value → World → Prop} {W : World} (hsh : Shape ops d11K d11E) (hsz : 49 ≤ a0.tmps.size) (h2 : a0.eval (.tmp 2) = .pointer (some ⟨lb, 0, none⟩)) (h5 : a0.eval (.tmp 5) = .pointer (some ⟨rb, 0, none⟩))
  (hl : B1 W.drew lb 38 v) (hn : n ≤ 1000000) (hev : Calls Tryz.prog 58 #[.pointer (some ⟨rb, 0, none⟩)] W.drew fun e w' => ∃ vs, e = .returned (.agg vs.toArray) ∧ EvP W.drew lb lo v n xs PE vs w')
  (hQ : ∀ a W2, Upd a0 a 44 5 → (∃ vs w4 W1 g cap, EvP W.drew lb lo v n xs PE vs w4 ∧ W1.ownsRow lo 29 10 (.slice (some ⟨g, 0, none⟩) (n + 1) cap) (n + 1) (xs ++ vs) ∧ (w4.alloc (.cells vs.toArray 29)).grownBy W1 v.ownBlock ∧ (v.ownBlock = some g ∨ g = (w4.alloc (.cells vs.toArray 29)).heap.size) ∧ W2 = W1.setCell ⟨lb, 0, none⟩ (.slice (some ⟨g, 0, none⟩) (n + 1) cap)) → Q .normal a W2) : (Code.region id ops true).wp Tryz.prog Q a0 W := by
 refine wp_region_inv (by kernel_rfl) (hsh.edged (by decide)) (D11S a0 rb lb lo v n xs PE W.drew) ?_ ?_ ?_
 ·exact ⟨Upd.refl _ _ _, fun x _ h => by simp at h, fun h => by simp at h, fun h => by simp at h, fun h => by simp at h, fun h => by simp at h, fun _ => hl, fun _ => rfl, fun h => by simp at h, fun h => by simp at h, fun h => by simp at h⟩
 ·rintro D a wr j o hI ho hD hdep
  have hk_ := hsh.key_at ho
  have hasz : a.tmps.size = a0.tmps.size := hI.fr.size
  have hj : j < 6 := by
   rcases Nat.lt_or_ge j 6 with hlt | hge
   ·exact hlt
   ·rw [List.getElem?_eq_none (by simpa [d11K] using hge)] at hk_; cases hk_
  have hdp := fun es => hsh.dep_at ho hdep (es := es)
  clear hdep
  have t2 : a.eval (.tmp 2) = .pointer (some ⟨lb, 0, none⟩) := (hI.fr.eval (by omega)).trans h2
  have nf : ∀ {b : Bool}, (b = true → False) → b = false := fun {b} h => by cases b; rfl; exact (h rfl).elim
  have hcases : j = 0 ∨ j = 1 ∨ j = 2 ∨ j = 3 ∨ j = 4 ∨ j = 5 := by omega
  rcases hcases with rfl | rfl | rfl | rfl | rfl | rfl
  ·obtain ⟨odst, oop, oty, opos, oaft, ogd⟩ := o
   simp only [key, d11K, List.getElem?_cons_zero, Option.some.injEq, Prod.mk.injEq] at hk_
   obtain ⟨rfl, rfl, rfl⟩ := hk_
   have h5f : D 5 = false := nf fun e => by have := hI.d40 (hI.d5 e); rw [hD] at this; cases this
   exact wpOp_of ho rfl (op_load1 rfl t2 (by kernel_rfl) (hI.lc h5f).c (hI.fill 0 44 v (by omega) (by omega) (by omega) (by simp)))
  ·obtain ⟨odst, oop, oty, opos, oaft, ogd⟩ := o
   simp only [key, d11K, List.getElem?_cons_zero, List.getElem?_cons_succ, Option.some.injEq, Prod.mk.injEq] at hk_
   obtain ⟨rfl, rfl, rfl⟩ := hk_
   exact wpOp_of ho rfl (op_move rfl ((hI.fr.eval (by omega)).trans h5) (hI.fill 1 45 _ (by omega) (by omega) (by omega) (by simp)))
  ·obtain ⟨odst, oop, oty, opos, oaft, ogd⟩ := o
   simp only [key, d11K, List.getElem?_cons_zero, List.getElem?_cons_succ, Option.some.injEq, Prod.mk.injEq] at hk_
   obtain ⟨rfl, rfl, rfl⟩ := hk_
   have p1_ : D 1 = true := hdp _ rfl 1 (by decide)
   have s45 : a.eval (.tmp 45) = .pointer (some ⟨rb, 0, none⟩) := hI.sl (1, 45, .pointer (some ⟨rb, 0, none⟩)) (by simp) p1_
   have h3f : D 3 = false := nf fun e => by have := hI.d3 e; rw [hD] at this; cases this
   have h4f : D 4 = false := nf fun e => by have := hI.d4 e; rw [h3f] at this; cases this
   have h5f : D 5 = false := nf fun e => by have := hI.d5 e; rw [h4f] at this; cases this
   obtain rfl := hI.s1 hD
   refine wpOp_of ho rfl (op_run (n := .enter 58 #[.pointer (some ⟨rb, 0, none⟩)]) (w' := W.drew) ?_ ?_)
   ·have e1 : a.eval (.func 58) = .func (.func 58) #[] #[] := rfl
    generalize a.eval = ev at *
    unfold execOp
    simp [go_sem, s45, e1]
   ·refine hev.mono ?_
    rintro e w1 ⟨vs, rfl, hp⟩
    have g3 : upd D 2 3 = false := (upd_ne D (by decide)).trans h3f
    have g4 : upd D 2 4 = false := (upd_ne D (by decide)).trans h4f
    refine ⟨hI.fr.put (by omega) (by omega) _, hI.sl.put 2 46 _ (by omega) (by simp), ?_, ?_, ?_, ?_, fun _ => hp.lc, ?_, ?_, ?_, ?_⟩
    ·rw [g3]; intro e; cases e
    ·rw [g4]; intro e; cases e
    ·rw [upd_ne D (show 5 ≠ 2 by decide), h5f]; intro e; cases e
    ·rw [g4]; intro e; cases e
    ·rw [upd_same]; intro e; cases e
    ·intro _ _; exact ⟨vs, hp, eval_put_same (by omega) _⟩
    ·rw [g3]; intro e; cases e
    ·rw [g4]; intro e; cases e
  ·obtain ⟨odst, oop, oty, opos, oaft, ogd⟩ := o
   simp only [key, d11K, List.getElem?_cons_zero, List.getElem?_cons_succ, Option.some.injEq, Prod.mk.injEq] at hk_
   obtain ⟨rfl, rfl, rfl⟩ := hk_
   have p2_ : D 2 = true := hdp _ rfl 2 (by decide)
   have h4f : D 4 = false := nf fun e => by have := hI.d4 e; rw [hD] at this; cases this
   have h5f : D 5 = false := nf fun e => by have := hI.d5 e; rw [h4f] at this; cases this
   obtain ⟨vs, hp, s46⟩ := hI.s2 p2_ hD
   have g2 : upd D 3 2 = true := (upd_ne D (by decide)).trans p2_
   have g4 : upd D 3 4 = false := (upd_ne D (by decide)).trans h4f
   have hl5 := hI.lc h5f
   refine wpOp_of ho rfl (op_run (n := .value (.slice (some ⟨wr.heap.size, 0, none⟩) 1 1)) (w' := wr.alloc (.cells vs.toArray 29)) ?_ ?_)
   ·obtain ⟨k, st, th, sy, br, pa, m, kk, nn, aa, ll, cc, rfl⟩ := hp.form
    generalize a.eval = ev at *
    unfold execOp
    simp [go_sem, s46]
   ·refine ⟨hI.fr.put (by omega) (by omega) _, hI.sl.put 3 47 _ (by omega) (by simp), fun _ => g2, fun _ => upd_same _ _, ?_, ?_, fun _ => hl5.belowAll (below_alloc _ _), ?_, ?_, fun _ _ => ⟨vs, wr, hp, rfl, eval_put_same (by omega) _⟩, ?_⟩
    ·rw [upd_ne D (show 5 ≠ 3 by decide), h5f]; intro e; cases e
    ·rw [g4]; intro e; cases e
    ·rw [g2]; intro e; cases e
    ·rw [upd_same]; intro _ e; cases e
    ·rw [g4]; intro e; cases e
  ·obtain ⟨odst, oop, oty, opos, oaft, ogd⟩ := o
   simp only [key, d11K, List.getElem?_cons_zero, List.getElem?_cons_succ, Option.some.injEq, Prod.mk.injEq] at hk_
   obtain ⟨rfl, rfl, rfl⟩ := hk_
   have p0_ : D 0 = true := hdp _ rfl 0 (by decide)
   have p2_ : D 2 = true := hdp _ rfl 2 (by decide)
   have p3_ : D 3 = true := hdp _ rfl 3 (by decide)
   have s44 : a.eval (.tmp 44) = v := hI.sl (0, 44, v) (by simp) p0_
   have h5f : D 5 = false := nf fun e => by have := hI.d5 e; rw [hD] at this; cases this
   obtain ⟨vs, w4, hp, rfl, s47⟩ := hI.s3 p3_ hD
   obtain ⟨i0, hi0, hz0, hz1, hz2⟩ := info_parts ev_info
   have hle := hp.le
   have hlen : vs.length = 1 * 10 := by
    obtain ⟨k, st, th, sy, br, pa, m, kk, nn, aa, ll, cc, rfl⟩ := hp.form
    rfl
   have hone : ∀ u ∈ vs, u.oneCell' = true := by
    obtain ⟨k, st, th, sy, br, pa, m, kk, nn, aa, ll, cc, rfl⟩ := hp.form
    simp [Value.oneCell']
   have g5 : upd D 4 5 = false := (upd_ne D (by decide)).trans h5f
   refine wpOp_of ho rfl (wp_append_lies _ (.tmp 44) (.tmp 47) 38 rfl lo 29 i0 _ 10 96 Tryz.underlying38 hi0 hz0 hz1 hz2 rfl (by decide) v n xs s44 hp.row ⟨w4.heap.size, 0, none⟩ 1 1 vs s47 hlen (World.news_of_block (heap_alloc_new w4 (.cells vs.toArray 29))) hone (by omega) (by unfold maxLen; omega) (by omega) (by simp; omega) _ rfl ?_)
   intro g cap W1 hown hgrow hat hglt
   refine ⟨hI.fr.put (by omega) (by omega) _, hI.sl.put 4 48 _ (by omega) (by simp), fun _ => (upd_ne D (by decide)).trans p2_, fun _ => (upd_ne D (by decide)).trans p3_, fun _ => upd_same _ _, fun _ => (upd_ne D (by decide)).trans p0_, fun _ => hp.keep W1 hgrow, ?_, ?_, ?_, fun _ => ⟨vs, w4, W1, g, cap, hp, hown, hgrow, hat, eval_put_same (by omega) _, fun _ => rfl, fun e => by rw [g5] at e; cases e⟩⟩
   ·rw [upd_ne D (show 2 ≠ 4 by decide), p2_]; intro e; cases e
   ·rw [upd_ne D (show 3 ≠ 4 by decide), p3_]; intro _ e; cases e
   ·rw [upd_same]; intro _ e; cases e
  ·obtain ⟨odst, oop, oty, opos, oaft, ogd⟩ := o
   simp only [key, d11K, List.getElem?_cons_zero, List.getElem?_cons_succ, Option.some.injEq, Prod.mk.injEq] at hk_
   obtain ⟨rfl, rfl, rfl⟩ := hk_
   have p4_ : D 4 = true := hdp _ rfl 4 (by decide)
   obtain ⟨vs, w4, W1, g, cap, z1, z2, z3, z4, s48, z6, _⟩ := hI.s4 p4_
   obtain rfl := z6 hD
   have hl5 := hI.lc hD
   have c0 := hl5.c
   have f0 := hl5.fz 0
   refine wpOp_of ho rfl (op_run (n := .skip) (w' := wr.setCell ⟨lb, 0, none⟩ (.slice (some ⟨g, 0, none⟩) (n + 1) cap)) ?_ ?_)
   ·generalize a.eval = ev at *
    unfold execOp
    simp [go_sem, t2, s48, c0, f0]
   ·have g4 : upd D 5 4 = true := (upd_ne D (by decide)).trans p4_
    have p3_ := hI.d4 p4_
    have p2_ := hI.d3 p3_
    have p0_ := hI.d40 p4_
    refine ⟨hI.fr, hI.sl.done 5 (by simp), fun _ => (upd_ne D (by decide)).trans p2_, fun _ => (upd_ne D (by decide)).trans p3_, fun _ => g4, fun _ => (upd_ne D (by decide)).trans p0_, ?_, ?_, ?_, ?_, fun _ => ⟨vs, w4, wr, g, cap, z1, z2, z3, z4, s48, ?_, fun _ => rfl⟩⟩
    ·rw [upd_same]; intro e; cases e
    ·rw [upd_ne D (show 2 ≠ 5 by decide), p2_]; intro e; cases e
    ·rw [upd_ne D (show 3 ≠ 5 by decide), p3_]; intro _ e; cases e
    ·rw [g4]; intro _ e; cases e
    ·rw [upd_same]; intro e; cases e
 ·intro D a W2 hI hall
  have al : ∀ i, i < 6 → D i = true := fun i hi => hall i (by rw [hsh.size]; simpa [d11K] using hi)
  obtain ⟨vs, w4, W1, g, cap, z1, z2, z3, z4, _, _, z7⟩ := hI.s4 (al 4 (by decide))
  exact hQ a W2 hI.fr ⟨vs, w4, W1, g, cap, z1, z2, z3, z4, z7 (al 5 (by decide))⟩
set_option maxRecDepth 100000 in
set_option maxHeartbeats 8000000 in
theorem Decode_any (l : List UInt8) (hl : l.length ≤ 1000000) (a : Option Addr) (cap : Nat) (hcap : l.length ≤ cap) (w : World) (hE : EnvT w) (hb : 4 ≤ l.length → ∃ g o, a = some ⟨g, o, none⟩ ∧ g < w.heap.size ∧ Cel w g o l) : Calls Tryz.prog 22 #[.slice a l.length cap] w (DcEnds (decE l) w) := by
 have hmf : ∀ (fn : Fn) (first cap : Array Value) (w : World), (Instr.makeFunc fn first cap).run Tryz.prog w = .ok (.func fn first cap) w := fun _ _ _ _ => rfl
 have h0 : Below w.heap.size w ((w.alloc (.cells #[.slice none 0 0] 38)).alloc (.cells #[.int .i64 0] 30)) := (below_alloc _ _).alloc (by simp) _
 have s1 : (w.alloc (.cells #[.slice none 0 0] 38)).heap.size = w.heap.size + 1 := by simp
 have hb0 := (B1.new w 38 (.slice none 0 0)).alloc (.cells #[.int .i64 0] 30)
 have he0 := B1.new (w.alloc (.cells #[.slice none 0 0] 38)) 30 (.int .i64 0)
 rw [s1] at he0
 clear s1
 obtain ⟨r, hr⟩ : ∃ r, decE l = r := ⟨_, rfl⟩
 have HR := Lib.hid hr
 unfold DcEnds
 rw [hr]
 clear hr
 have HB := Lib.hid hb
 clear hb
 by_cases h4 : l.length < 4
 ·have hd0 : decide (4194304 < (l.length : Int)) = false := by simp; omega
  have hd1 : decide ((l.length : Int) < 4) = true := by simp; omega
  obtain rfl : r = none := by
   rw [← HR.out]
   unfold decE
   rw [if_pos h4]
  go_enter_defers Tryz.func22, Tryz.ntmps22
  go_wp2_with fail
  generalize (w.alloc (.cells #[.slice none 0 0] 38)).alloc (.cells #[.int .i64 0] 30) = w1 at *
  refine (raise_any _).mono ?_
  rintro e w4 ⟨rfl, rfl⟩
  show bodyPostD _ _ _ _ _ _
  refine leaves_cons (f := 56) (args := #[.pointer (some ⟨w.heap.size + 1, 0, none⟩), .pointer (some ⟨w.heap.size, 0, none⟩)]) (by simp) (by simp [go_sem]) ?_
  refine (decD_fault w.heap.size (w.heap.size + 1) _ _ [] _ hb0 he0 (by omega)).mono ?_
  rintro e u' w5 ⟨rfl, rfl, hb5, he5, hbb⟩
  refine ⟨.tuple #[.slice none 0 0, .int .i64 230], by simp [results, Tryz.results22, go_sem, hb5.c, he5.c], ?_⟩
  exact ⟨rfl, h0.trans (hbb _ (Nat.le_refl _) (by omega) h0.size)⟩
 ·obtain ⟨g, o, rfl, hg, hcel⟩ := HB.out (by omega)
  obtain ⟨N, hN⟩ : ∃ N, l.length = N := ⟨_, rfl⟩
  obtain ⟨n, hn⟩ : ∃ n, N = n + 4 := ⟨N - 4, by omega⟩
  have hd0 : decide (4194304 < (N : Int)) = false := by simp; omega
  have hd1 : decide ((N : Int) < 4) = false := by simp; omega
  have hsub : IntKind.i64.wrap ((N : Int) - 4) = (n : Int) := (IntWalk.i64_in _ (by omega)).trans (by omega)
  rw [hN] at hcap ⊢
  have hle1 : n ≤ cap := by omega
  have hle2 : (n : Int) ≤ (cap : Int) := by omega
  have hle3 : n ≤ N := by omega
  have hle4 : (n : Int) ≤ (N : Int) := by omega
  have hNl : N ≤ 1000000 := by omega
  have HNN := Lib.hid hN
  have HN := Lib.hid hn
  have HCEL := Lib.hid hcel
  clear hN hn hcel h4 hl HB
  obtain ⟨b0, b1, b2, b3, hb4⟩ : ∃ b0 b1 b2 b3, l.drop n = [b0, b1, b2, b3] := four_of (by rw [List.length_drop, HNN.out, HN.out]; omega)
  have hc4 : Cel w g (o + n) [b0, b1, b2, b3] := hb4 ▸ HCEL.out.drop n
  have HB4 := Lib.hid hb4
  have HC4 := Lib.hid hc4
  have htl : (l.take n).length = n := by rw [List.length_take, HNN.out]; omega
  have hsl := sumF_lt (l.take n) 1 (by omega)
  have hts : ∀ W, Below w.heap.size w W → Calls Tryz.prog 57 #[.slice (some ⟨g, o, none⟩) n n] W fun e w' => e = .returned (sum4V (sumF 1 (l.take n))) ∧ Below W.heap.size W w' := fun W hW => by
   have := tsumC_any g o n (l.take n) (by omega) W (Nat.lt_of_lt_of_le hg hW.size) ((HCEL.out.take n).below hW hg)
   rw [htl] at this
   exact this
  obtain ⟨S, hS⟩ : ∃ S, sumF 1 (l.take n) = S := ⟨_, rfl⟩
  rw [hS] at hts hsl
  unfold sum4V at hts
  obtain ⟨s0, hs0⟩ : ∃ s0 : Int, (S : Int) % 256 = s0 := ⟨_, rfl⟩
  obtain ⟨s1, hs1⟩ : ∃ s0 : Int, (S : Int) / 256 % 256 = s0 := ⟨_, rfl⟩
  obtain ⟨s2, hs2⟩ : ∃ s0 : Int, (S : Int) / 65536 % 256 = s0 := ⟨_, rfl⟩
  obtain ⟨s3, hs3⟩ : ∃ s0 : Int, (S : Int) / 16777216 % 256 = s0 := ⟨_, rfl⟩
  rw [hs0, hs1, hs2, hs3] at hts
  have hS4 : (l.drop n = sum4 (sumF 1 (l.take n))) = ((s0 = (b0.toNat : Nat) ∧ s1 = (b1.toNat : Nat)) ∧ s2 = (b2.toNat : Nat) ∧ s3 = (b3.toNat : Nat)) := by
   rw [hS, sum_eq hsl hb4, hs0, hs1, hs2, hs3]
  obtain ⟨t0, ht0⟩ : ∃ t0 : Int, ((b0.toNat : Nat) : Int) = t0 := ⟨_, rfl⟩
  obtain ⟨t1, ht1⟩ : ∃ t0 : Int, ((b1.toNat : Nat) : Int) = t0 := ⟨_, rfl⟩
  obtain ⟨t2, ht2⟩ : ∃ t0 : Int, ((b2.toNat : Nat) : Int) = t0 := ⟨_, rfl⟩
  obtain ⟨t3, ht3⟩ : ∃ t0 : Int, ((b3.toNat : Nat) : Int) = t0 := ⟨_, rfl⟩
  rw [ht0, ht1, ht2, ht3] at hS4
  have hkeep : ∀ W, Below w.heap.size w W → Below w.heap.size w W ∧ W.cell? ⟨g, o + n, none⟩ = some (.int .u8 t0) ∧ W.cell? ⟨g, o + n + 1, none⟩ = some (.int .u8 t1) ∧ W.cell? ⟨g, o + n + 2, none⟩ = some (.int .u8 t2) ∧ W.cell? ⟨g, o + n + 3, none⟩ = some (.int .u8 t3) := fun W hW => by
   have := heldD hg HC4.out hW
   rw [ht0, ht1, ht2, ht3] at this
   exact this
  have HK := Lib.hid hkeep
  have HS4 := Lib.hid hS4
  have HTS := Lib.hid hts
  have HTL := Lib.hid htl
  have hnq := neq4
  have hcn : ¬ cap = n := by have := HN.out; omega
  have hsa := fun a c w => arrayAt4 a (N - n) c (by have := HN.out; omega) w
  clear hb4 hc4 hts hS hsl htl hs0 hs1 hs2 hs3 ht0 ht1 ht2 ht3 hS4 hkeep HC4 HB4
  clear S
  go_enter_defers Tryz.func22, Tryz.ntmps22
  go_upto_region 7 with fail
  generalize (w.alloc (.cells #[.slice none 0 0] 38)).alloc (.cells #[.int .i64 0] 30) = w1 at *
  have h0d : Below w.heap.size w w1.drew := h0.trans ⟨rfl, rfl, rfl, Nat.le_refl _, fun _ _ => rfl⟩
  by_cases heq : (s0 = t0 ∧ s1 = t1) ∧ s2 = t2 ∧ s3 = t3
  ·have HRR : Hid (decL (l.length + 1) [] 0 (l.take n) = r) := by
    have := HR.out
    unfold decE at this
    rw [if_neg (by rw [HNN.out, HN.out]; omega), show l.length - 4 = n by rw [HNN.out, HN.out]; omega, if_pos (by rw [HS4.out]; exact heq)] at this
    exact this
   obtain ⟨⟨rfl, rfl⟩, rfl, rfl⟩ := heq
   go_cut [27] from 17 to 28 (fun s27 wx => s27 = .bool false ∧ Below w.heap.size w wx ∧ B1 wx w.heap.size 38 (.slice none 0 0) ∧ B1 wx (w.heap.size + 1) 30 (.int .i64 0))
   case first =>
    go_region_held3 (fun w' => Below w.heap.size w w' ∧ w'.cell? ⟨g, o + n, none⟩ = some (.int .u8 s0) ∧ w'.cell? ⟨g, o + n + 1, none⟩ = some (.int .u8 s1) ∧ w'.cell? ⟨g, o + n + 2, none⟩ = some (.int .u8 s2) ∧ w'.cell? ⟨g, o + n + 3, none⟩ = some (.int .u8 s3))
     (first | exact HK.out _ h0d | exact HK.out _ hb4d | assumption)
     (first | (go_at_call 57; ((with_reducible refine (HTS.out _ h0d).mono ?_); rintro e w4 ⟨rfl, hb4⟩; have hb4d := h0d.trans (hb4.mono h0d.size); dsimp only)))
    all_goals
     go_wp2_with fail
     go_meet
     exact ⟨by simp, hb4d, (hb0.belowAll (w' := w1.drew) ⟨rfl, rfl, rfl, Nat.le_refl _, fun _ _ => rfl⟩).belowAll hb4, (he0.belowAll (w' := w1.drew) ⟨rfl, rfl, rfl, Nat.le_refl _, fun _ _ => rfl⟩).belowAll hb4⟩
   case rest =>
    obtain ⟨rfl, hbx, hb5, he5⟩ := hcut
    clear hb0 he0 h0 h0d HR HS4 HK HTS hnq hsa
    go_upto_region 9 with fail
    have hbd : Below wc.heap.size wc wc.drew := ⟨rfl, rfl, rfl, Nat.le_refl _, fun _ _ => rfl⟩
    go_cut [5] from 29 to 37 (fun s5 wx => ∃ rb b mb lo, s5 = .pointer (some ⟨rb, 0, none⟩) ∧ DcI w w.heap.size (w.heap.size + 1) lo b mb rb g 0 (l.take n) [] (.slice none 0 0) [] wx)
    case first =>
     go_region_held3 (fun w' => Below wc.heap.size wc w')
      (first | exact hbd | exact hbd2 | exact hbd2.trans ((below_alloc _ _).mono hbd2.size) | assumption)
      (first | (go_at_call 34; ((with_reducible refine (tables_any _).mono ?_); rintro e w5 ⟨b, mb, rfl, hb1, hb2, hT, hb6⟩; have hbd2 := hbd.trans (hb6.mono hbd.size); dsimp only)))
     all_goals
      have hlt5 := he5.lt
      have hb1' : wc.heap.size ≤ b := hb1
      have hb2' : wc.heap.size ≤ mb := hb2
      have hI := DcI.new (hbx.trans (hbd2.mono hbx.size)) (hb5.belowAll hbd2) (he5.belowAll hbd2) hT hE hg (HCEL.out.take n) HTL.out (Nat.le_refl _) (by omega) (by omega) (by omega)
      go_wp2_with fail
      go_meet
      exact ⟨_, _, _, _, rfl, hI⟩
    case rest =>
     obtain ⟨rb, b, mb, lo, rfl, hI⟩ := hcut
     clear hbx hb5 he5 hbd
     obtain ⟨i0, hi0, hz0, hz1, hz2⟩ := info_parts ev_info
     go_wp2_with fail
     go_loopw [48] (fun _ wr => ∃ (v : Value) (xs : List Value) (done : List Ev) (last : Int) (l4 : List UInt8) (f : Nat), DcI w w.heap.size (w.heap.size + 1) lo b mb rb g last l4 done v xs wr ∧ 0 ≤ last ∧ last ≤ 9223372036854775807 ∧ l4.length < f ∧ done.length + l4.length ≤ 1000000 ∧ decL f done last l4 = r) (fun _ wr => leftN wr rb)
     case atStart => exact ⟨_, _, _, _, _, _, hI, by omega, by omega, by rw [HTL.out, HNN.out]; omega, by rw [HTL.out]; simp; omega, HRR.out⟩
     case round =>
      clear hI
      obtain ⟨v, xs, done, last, l4, f, hI, h0, h1, hf, hdl, hro⟩ := hrel
      have HRO := Lib.hid hro
      clear hro
      obtain ⟨va, vcap, rfl⟩ := hI.acc.form
      have cl := hI.lc.c
      have hrd := hI.rd
      obtain ⟨oo, hB, _⟩ := hrd.ex
      have cr : wr.cell? ⟨rb, 0, none⟩ = some (.slice (some ⟨g, oo, none⟩) l4.length l4.length) := by unfold RdB at hB; simp [World.cell?, hB]
      obtain ⟨f, rfl⟩ : ∃ f', f = f' + 1 := ⟨f - 1, by omega⟩
      rcases l4 with _ | ⟨c, l4⟩
      ·obtain rfl : r = some done := by
        have := HRO.out
        rw [decL, if_pos rfl] at this
        exact this.symm
       have o1 := hI.o1
       have o7 := hI.o7
       have o3 := hI.o3
       have o5 := hI.o5
       have d1 := hI.lc.fz 0
       have hec1 := hI.ec.far (q := ⟨w.heap.size, 0, none⟩) (by simp) (.slice va done.length vcap)
       have d2 := hec1.c
       have d3 := hec1.fz 0
       have hlc2 := (hI.lc.set (.slice va done.length vcap)).far (q := ⟨w.heap.size + 1, 0, none⟩) (by simp) (.int .i64 0)
       have hec2 := hec1.set (.int .i64 0)
       have hac2 := hI.acc.hi (w' := (wr.setCell ⟨w.heap.size, 0, none⟩ (.slice va done.length vcap)).setCell ⟨w.heap.size + 1, 0, none⟩ (.int .i64 0)) (by simp [World.setCell]) (fun q hq => (Below.heap_setCell _ _ _ _ (by simp; omega)).trans (Below.heap_setCell _ _ _ _ (by simp; omega)))
       have hbb2 := (hI.bb.setCell (p := ⟨w.heap.size, 0, none⟩) (Nat.le_refl _) (.slice va done.length vcap)).setCell (p := ⟨w.heap.size + 1, 0, none⟩) (by simp) (.int .i64 0)
       clear hec1 hrd hB
       go_wp2_with fail
       show bodyPostD Tryz.prog Tryz.f22 _ .ret _ _
       refine leaves_cons (f := 56) (args := #[.pointer (some ⟨w.heap.size + 1, 0, none⟩), .pointer (some ⟨w.heap.size, 0, none⟩)]) (by simp) (by simp [go_sem]) ?_
       refine (decD_none w.heap.size (w.heap.size + 1) _ hec2).mono ?_
       rintro e u' w11 ⟨rfl, rfl, rfl⟩
       refine ⟨.tuple #[.slice va done.length vcap, .int .i64 0], by simp [results, Tryz.results22, go_sem, hlc2.c, hec2.c], ?_⟩
       obtain ⟨a2, cap2, hv, hc1, hc2, hes⟩ := hac2.isEs
       exact ⟨⟨a2, cap2, by rw [hv], hc1, hc2, hes.more fun q hq => ⟨by omega, hq.2⟩⟩, hbb2⟩
      ·have hevw := rdrEvent_any wr rb b mb g last h0 h1 (c :: l4) (by omega) hI.o5 hI.o6 (by have := hI.o8; have := hI.o1; have := hI.o3; have := hI.o5; omega) hI.tt hI.en wr.drew hI.drew
       obtain ⟨n4, hn4⟩ : ∃ n4, (c :: l4).length = n4 := ⟨_, rfl⟩
       have hdn : decide (0 < (n4 : Int)) = true := by simp at hn4 ⊢; omega
       have hn4p : 0 < n4 := by simp at hn4; omega
       rw [hn4] at cr
       have HN4 := Lib.hid hn4
       clear hn4
       have hstep : decL (f + 1) done last (c :: l4) = match evD last (c :: l4) with
        | none => none
        | some (x, last', l') => decL f (done ++ [x]) last' l' := by
        rw [decL, if_neg (by simp)]
        rfl
       rcases hev : evD last (c :: l4) with _ | ⟨x, last', l5⟩
       ·obtain rfl : r = none := by
         have := HRO.out
         rw [hstep, hev] at this
         exact this.symm
        rw [hev] at hevw
        have HEV := Lib.hid hevw
        clear hevw hstep hev
        go_upto_region 11 with fail
        refine d11_none (rb := rb) (lb := w.heap.size) (R := fun w4 => Below rb wr w4 ∧ wr.drew.grownBy w4 (some rb)) d11_shape (by simp) rfl rfl cl (HEV.out.mono ?_) ?_
        ·rintro e w4 ⟨⟨rfl, hb4⟩, hg4⟩
         exact ⟨rfl, hb4, hg4⟩
        ·rintro a9 w4 hU ⟨hb4, hg4⟩
         obtain ⟨us, hus, rfl⟩ := hU.list (by simp)
         obtain ⟨x0, us0, e0, hus0⟩ := list_cons4 hus
         subst e0
         obtain ⟨x1, us1, e1, hus1⟩ := list_cons4 hus0
         subst e1
         obtain ⟨x2, us2, e2, hus2⟩ := list_cons4 hus1
         subst e2
         obtain ⟨x3, us3, e3, hus3⟩ := list_cons4 hus2
         subst e3
         obtain ⟨x4, us4, e4, hus4⟩ := list_cons4 hus3
         subst e4
         have en := List.eq_nil_of_length_eq_zero hus4
         subst en
         clear hU hus
         simp only [List.take_succ_cons, List.take_zero, List.drop_succ_cons, List.drop_zero, List.cons_append, List.nil_append]
         have o1 := hI.o1
         have o3 := hI.o3
         have o5 := hI.o5
         have hlc4 : B1 w4 w.heap.size 38 (.slice va done.length vcap) := (hb4.block _ (by omega)).trans hI.lc
         have hec4 : B1 w4 (w.heap.size + 1) 30 (.int .i64 0) := (hb4.block _ (by omega)).trans hI.ec
         have hbb4 := hI.bb.trans (hb4.mono (by omega))
         show bodyPostD Tryz.prog Tryz.f22 (DcEnds none w) (.panic [{ v := .iface 119 (.agg #[.int .i64 230]), recovered := false }]) _ w4
         refine leaves_cons (f := 56) (args := #[.pointer (some ⟨w.heap.size + 1, 0, none⟩), .pointer (some ⟨w.heap.size, 0, none⟩)]) (by simp) (by simp [go_sem]) ?_
         refine (decD_fault w.heap.size (w.heap.size + 1) _ _ [] _ hlc4 hec4 (by omega)).mono ?_
         rintro e u' w6 ⟨rfl, rfl, hb7, he7, hbb⟩
         refine ⟨.tuple #[.slice none 0 0, .int .i64 230], by simp [results, Tryz.results22, go_sem, hb7.c, he7.c], ?_⟩
         exact ⟨rfl, hbb4.trans (hbb _ (Nat.le_refl _) (by omega) hbb4.size)⟩
       ·obtain ⟨hm1, hm2, hm3⟩ := evD_some hev h0 h1
        rw [hev] at hevw
        have HEV := Lib.hid hevw
        have HRO2 : Hid (decL f (done ++ [x]) last' l5 = r) := by
         have := HRO.out
         rw [hstep, hev] at this
         exact this
        clear hevw hstep hev HRO
        go_upto_region 11 with fail
        refine d11_some (rb := rb) (lb := w.heap.size) (lo := lo) (n := done.length) (v := .slice va done.length vcap) (xs := xs) (PE := fun vs w4 => ∃ kk nn a len cp, vs = (evC x kk nn a len cp).toList ∧ IsV (fun q => wr.heap.size ≤ q ∧ q < w4.heap.size) w4 x.v (.agg #[.int .i64 kk, .int .i64 nn, .slice a len cp]) ∧ RngE x ∧ DcI w w.heap.size (w.heap.size + 1) lo b mb rb g last' l5 done (.slice va done.length vcap) xs w4 ∧ wr.heap.size ≤ w4.heap.size) d11_shape (by simp) rfl rfl (hI.lc.belowAll (w' := wr.drew) ⟨rfl, rfl, rfl, Nat.le_refl _, fun _ _ => rfl⟩) (by omega) (HEV.out.mono ?_) ?_
        ·rintro e w4 ⟨⟨⟨vv, rfl, kk, nn, a, len, cp, rfl, hv, hrg⟩, hrd4⟩, hg4⟩
         have hI4 := hI.grown (W' := w4) ⟨hg4.os, hg4.tape, hg4.output, hg4.size, hg4.block⟩ hrd4
         have o1 := hI.o1
         have o3 := hI.o3
         have o5 := hI.o5
         have o7 := hI.o7
         refine ⟨(evC x kk nn a len cp).toList, rfl, ⟨kk, nn, a, len, cp, rfl, hv, hrg, hI4, hg4.size⟩, hI4.lc, (hI4.acc.below (below_alloc _ _)).row, hI4.acc.le, fun W1 hgr => ?_, ⟨_, _, _, _, _, _, _, _, _, _, _, _, rfl⟩⟩
         have hl5 := hI4.lc.belowAll (below_alloc w4 (.cells (evC x kk nn a len cp).toList.toArray 29))
         refine (hgr.block _ hl5.lt fun e => ?_).trans hl5
         have := (World.ownsRow.lt hI4.acc.row _ e.symm).1
         omega
        ·rintro a9 W2 hU ⟨vs, w4, W1, gq, cap9, hp, hown, hgrow, hat, rfl⟩
         obtain ⟨kk, nn, a, len, cp, rfl, hv, hrg, hI4, hsz4⟩ := hp.pe
         have hb5 := below_alloc w4 (.cells (evC x kk nn a len cp).toList.toArray 29)
         have hI5 := hI4.grown (grown_of hb5) (hI4.rd.belowB hb5 hI4.rd.lt)
         have hlo := hI.acc.le
         have hkb : ∀ q, some q = (Value.slice va done.length vcap).ownBlock → q < wr.heap.size := fun q hq => (World.ownsRow.lt hI.acc.row q hq.symm).2
         have hv5 : IsV (fun q => lo ≤ q ∧ q < (w4.alloc (.cells (evC x kk nn a len cp).toList.toArray 29)).heap.size ∧ some q ≠ (Value.slice va done.length vcap).ownBlock) (w4.alloc (.cells (evC x kk nn a len cp).toList.toArray 29)) x.v (.agg #[.int .i64 kk, .int .i64 nn, .slice a len cp]) :=
          (hv.keep fun q hq _ => World.cell?_of_block (w := w4) (hb5.block q hq.2)).more fun q hq => ⟨by omega, Nat.lt_of_lt_of_le hq.2 hb5.size, fun e => by have := hkb q e; omega⟩
         have hI6 := hI5.push hgrow (hI5.acc.push hv5 hrg hown hgrow hat)
         have hm4 : leftN (W1.setCell ⟨w.heap.size, 0, none⟩ (.slice (some ⟨gq, 0, none⟩) (done.length + 1) cap9)) rb < leftN wr rb := by
          rw [leftN_of hI6.rd, leftN_of hI.rd]
          simp
          omega
         obtain ⟨us, hus, rfl⟩ := hU.list (by simp)
         obtain ⟨x0, us0, e0, hus0⟩ := list_cons4 hus
         subst e0
         obtain ⟨x1, us1, e1, hus1⟩ := list_cons4 hus0
         subst e1
         obtain ⟨x2, us2, e2, hus2⟩ := list_cons4 hus1
         subst e2
         obtain ⟨x3, us3, e3, hus3⟩ := list_cons4 hus2
         subst e3
         obtain ⟨x4, us4, e4, hus4⟩ := list_cons4 hus3
         subst e4
         have en := List.eq_nil_of_length_eq_zero hus4
         subst en
         clear hU hus
         simp only [List.take_succ_cons, List.take_zero, List.drop_succ_cons, List.drop_zero, List.cons_append, List.nil_append]
         clear hI hI4 hI5 hp hv hv5 cl cr hrd hB
         go_wp2_with fail
         go_roundw
         case rel => first | exact ⟨_, _, done ++ [x], last', l5, f, hI6, hm2, hm3, by simp at hf; omega, by simp at hdl ⊢; omega, HRO2.out⟩ | ((repeat apply Exists.intro); exact ⟨⟨_, _, done ++ [x], last', l5, f, hI6, hm2, hm3, by simp at hf; omega, by simp at hdl ⊢; omega, HRO2.out⟩, rfl⟩)
         case measure => exact hm4
  ·obtain rfl : r = none := by
    have := HR.out
    unfold decE at this
    rw [if_neg (by rw [HNN.out, HN.out]; omega), show l.length - 4 = n by rw [HNN.out, HN.out]; omega, if_neg (by rw [HS4.out]; exact heq)] at this
    exact this.symm
   have hdq : (!decide (s0 = t0) || !decide (s1 = t1) || (!decide (s2 = t2) || !decide (s3 = t3))) = true := by
    by_cases q0 : s0 = t0 <;> by_cases q1 : s1 = t1 <;> by_cases q2 : s2 = t2 <;> by_cases q3 : s3 = t3 <;> simp [q0, q1, q2, q3] at heq ⊢
   clear heq HR
   go_region_held3 (fun w' => Below w.heap.size w w' ∧ w'.cell? ⟨g, o + n, none⟩ = some (.int .u8 t0) ∧ w'.cell? ⟨g, o + n + 1, none⟩ = some (.int .u8 t1) ∧ w'.cell? ⟨g, o + n + 2, none⟩ = some (.int .u8 t2) ∧ w'.cell? ⟨g, o + n + 3, none⟩ = some (.int .u8 t3))
    (first | exact HK.out _ h0d | exact HK.out _ hb4d | assumption)
    (first | (go_at_call 57; ((with_reducible refine (HTS.out _ h0d).mono ?_); rintro e w4 ⟨rfl, hb4⟩; have hb4d := h0d.trans (hb4.mono h0d.size); dsimp only)))
   all_goals
    have hb6 := (hb0.belowAll (w' := w1.drew) ⟨rfl, rfl, rfl, Nat.le_refl _, fun _ _ => rfl⟩).belowAll hb4
    have he6 := (he0.belowAll (w' := w1.drew) ⟨rfl, rfl, rfl, Nat.le_refl _, fun _ _ => rfl⟩).belowAll hb4
    clear hsa hnq
    go_wp2_with fail
    refine (raise_any _).mono ?_
    rintro e w5 ⟨rfl, rfl⟩
    show bodyPostD _ _ _ _ _ _
    refine leaves_cons (f := 56) (args := #[.pointer (some ⟨w.heap.size + 1, 0, none⟩), .pointer (some ⟨w.heap.size, 0, none⟩)]) (by simp) (by simp [go_sem]) ?_
    refine (decD_fault w.heap.size (w.heap.size + 1) _ _ [] _ hb6 he6 (by omega)).mono ?_
    rintro e u' w6 ⟨rfl, rfl, hb7, he7, hbb⟩
    refine ⟨.tuple #[.slice none 0 0, .int .i64 230], by simp [results, Tryz.results22, go_sem, hb7.c, he7.c], ?_⟩
    exact ⟨rfl, hb4d.trans (hbb _ (Nat.le_refl _) (by omega) hb4d.size)⟩
end Go.Proofs.YtjldbbcdhdfliaaGreatDoor
