/-
 The reference's drawn statement 'named, l := names(k), numbers(x)', in whatever order: by an invariant. Printed by gen_nn.py.
-/
import Derived.Test.YtjldbbcdhdfliaaGreatDoorUaTw
import Derived.Test.YtjldbbcdhdfliaaGreatDoorTd
import Derived.Test.YtjldbbcdhdfliaaGreatDoorAppM
namespace Go.Proofs.YtjldbbcdhdfliaaGreatDoor
open Go.RowKit Go.Sort

/-- What stands of the two boxes. -/
structure NnM (s1 s2 : Nat) (x : Ev) (w0 W : World) (a : Act) (A B S T : Bool) : Prop where
 b : Below w0.heap.size w0 W
 p : A = true → ∃ g, a.eval (.tmp s1) = .pointer (some ⟨g, 0, none⟩) ∧ w0.heap.size ≤ g ∧ (S = false → W.heap[g]? = some (.cells #[.bool false, .bool false, .bool false, .bool false, .bool false] 85 (0, 0))) ∧ (S = true → W.heap[g]? = some (.cells (nmC x.k) 85 (0, 0)))
 q : B = true → ∃ g, a.eval (.tmp s2) = .pointer (some ⟨g, 0, none⟩) ∧ w0.heap.size ≤ g ∧ (T = false → W.heap[g]? = some (.cells #[.int .i64 0, .int .i64 0, .int .i64 0, .int .i64 0] 87 (0, 0))) ∧ (T = true → W.heap[g]? = some (.cells #[.int .i64 x.sy, .int .i64 x.br, .int .i64 x.pa, .int .i64 x.n] 87 (0, 0)))
section
variable {s1 s2 : Nat} {x : Ev} {w0 W W' : World} {a : Act} {A B S T : Bool}
theorem NnM.start : NnM s1 s2 x w0 w0.drew a false false false false := ⟨⟨rfl, rfl, rfl, Nat.le_refl _, fun _ _ => rfl⟩, fun h => (by cases h), fun h => (by cases h)⟩
theorem NnM.step (h : NnM s1 s2 x w0 W a A B S T) {t : Nat} (h1 : t ≠ s1) (h2 : t ≠ s2) (v : Value) (hb : Below W.heap.size W W') : NnM s1 s2 x w0 W' (a.put (some t) v) A B S T := by
 refine ⟨h.b.trans (hb.mono h.b.size), fun e => ?_, fun e => ?_⟩
 ·obtain ⟨g, z1, z2, z3, z4⟩ := h.p e
  exact ⟨g, (eval_put_ne (Ne.symm h1) _).trans z1, z2, fun e => (hb.block _ (lt_of_heap (z3 e))).trans (z3 e), fun e => (hb.block _ (lt_of_heap (z4 e))).trans (z4 e)⟩
 ·obtain ⟨g, z1, z2, z3, z4⟩ := h.q e
  exact ⟨g, (eval_put_ne (Ne.symm h2) _).trans z1, z2, fun e => (hb.block _ (lt_of_heap (z3 e))).trans (z3 e), fun e => (hb.block _ (lt_of_heap (z4 e))).trans (z4 e)⟩
theorem NnM.newA (h : NnM s1 s2 x w0 W a A B false T) (hs : s1 < a.tmps.size) (h12 : s1 ≠ s2) : NnM s1 s2 x w0 (W.alloc (.cells #[.bool false, .bool false, .bool false, .bool false, .bool false] 85)) (a.put (some s1) (.pointer (some ⟨W.heap.size, 0, none⟩))) true B false T := by
 have hb := below_alloc W (.cells #[.bool false, .bool false, .bool false, .bool false, .bool false] 85)
 refine ⟨h.b.trans (hb.mono h.b.size), fun _ => ⟨W.heap.size, eval_put_same hs _, h.b.size, fun _ => heap_alloc_new _ _, fun e => (by cases e)⟩, fun e => ?_⟩
 obtain ⟨g, z1, z2, z3, z4⟩ := h.q e
 exact ⟨g, (eval_put_ne (Ne.symm h12) _).trans z1, z2, fun e => (hb.block _ (lt_of_heap (z3 e))).trans (z3 e), fun e => (hb.block _ (lt_of_heap (z4 e))).trans (z4 e)⟩
theorem NnM.newB (h : NnM s1 s2 x w0 W a A B S false) (hs : s2 < a.tmps.size) (h12 : s1 ≠ s2) : NnM s1 s2 x w0 (W.alloc (.cells #[.int .i64 0, .int .i64 0, .int .i64 0, .int .i64 0] 87)) (a.put (some s2) (.pointer (some ⟨W.heap.size, 0, none⟩))) A true S false := by
 have hb := below_alloc W (.cells #[.int .i64 0, .int .i64 0, .int .i64 0, .int .i64 0] 87)
 refine ⟨h.b.trans (hb.mono h.b.size), fun e => ?_, fun _ => ⟨W.heap.size, eval_put_same hs _, h.b.size, fun _ => heap_alloc_new _ _, fun e => (by cases e)⟩⟩
 obtain ⟨g, z1, z2, z3, z4⟩ := h.p e
 exact ⟨g, (eval_put_ne h12 _).trans z1, z2, fun e => (hb.block _ (lt_of_heap (z3 e))).trans (z3 e), fun e => (hb.block _ (lt_of_heap (z4 e))).trans (z4 e)⟩
end
theorem nm_set (k : Int) {W : World} {g : Nat} (h : W.heap[g]? = some (.cells #[.bool false, .bool false, .bool false, .bool false, .bool false] 85 (0, 0))) :
  (((((W.setCell ⟨g, 0, none⟩ (.bool (decide (0 ∈ rowE k)))).setCell ⟨g, 1, none⟩ (.bool (decide (1 ∈ rowE k)))).setCell ⟨g, 2, none⟩ (.bool (decide (2 ∈ rowE k)))).setCell ⟨g, 3, none⟩ (.bool (decide (3 ∈ rowE k)))).setCell ⟨g, 4, none⟩ (.bool (decide (4 ∈ rowE k)))).heap[g]? = some (.cells (nmC k) 85 (0, 0)) := by
 unfold nmC
 simp [World.setCell, Array.getElem?_modify, h]
theorem nu_set (n0 n1 n2 n3 : Int) {W : World} {g : Nat} (h : W.heap[g]? = some (.cells #[.int .i64 0, .int .i64 0, .int .i64 0, .int .i64 0] 87 (0, 0))) :
  ((((W.setCell ⟨g, 0, none⟩ (.int .i64 n0)).setCell ⟨g, 1, none⟩ (.int .i64 n1)).setCell ⟨g, 2, none⟩ (.int .i64 n2)).setCell ⟨g, 3, none⟩ (.int .i64 n3)).heap[g]? = some (.cells #[.int .i64 n0, .int .i64 n1, .int .i64 n2, .int .i64 n3] 87 (0, 0)) := by
 simp [World.setCell, Array.getElem?_modify, h]
section
variable {s1 s2 : Nat} {x : Ev} {w0 W W' : World} {a : Act} {A B S T : Bool}
/-- A write into one of the boxes. -/
theorem NnM.writeA (h : NnM s1 s2 x w0 W a A B false T) {g : Nat} (hg : a.eval (.tmp s1) = .pointer (some ⟨g, 0, none⟩)) (hge : w0.heap.size ≤ g) (hW : W'.heap[g]? = some (.cells (nmC x.k) 85 (0, 0))) (h0 : W.heap[g]? = some (.cells #[.bool false, .bool false, .bool false, .bool false, .bool false] 85 (0, 0))) (hb : Below w0.heap.size W W') (hk : ∀ j, j ≠ g → W'.heap[j]? = W.heap[j]?) : NnM s1 s2 x w0 W' a A B true T := by
 refine ⟨h.b.trans hb, fun _ => ⟨g, hg, hge, fun e => (by cases e), fun _ => hW⟩, fun e => ?_⟩
 obtain ⟨g', z1, z2, z3, z4⟩ := h.q e
 have hne : ∀ {o : Array Value}, W.heap[g']? = some (.cells o 87 (0, 0)) → g' ≠ g := by
  rintro o h1 rfl
  rw [h0] at h1
  injection h1 with h1
  injection h1 with _ h1 _
  exact absurd h1 (by decide)
 exact ⟨g', z1, z2, fun e => (hk _ (hne (z3 e))).trans (z3 e), fun e => (hk _ (hne (z4 e))).trans (z4 e)⟩
theorem NnM.writeB (h : NnM s1 s2 x w0 W a A B S false) {g : Nat} (hg : a.eval (.tmp s2) = .pointer (some ⟨g, 0, none⟩)) (hge : w0.heap.size ≤ g) (hW : W'.heap[g]? = some (.cells #[.int .i64 x.sy, .int .i64 x.br, .int .i64 x.pa, .int .i64 x.n] 87 (0, 0))) (h0 : W.heap[g]? = some (.cells #[.int .i64 0, .int .i64 0, .int .i64 0, .int .i64 0] 87 (0, 0))) (hb : Below w0.heap.size W W') (hk : ∀ j, j ≠ g → W'.heap[j]? = W.heap[j]?) : NnM s1 s2 x w0 W' a A B S true := by
 refine ⟨h.b.trans hb, fun e => ?_, fun _ => ⟨g, hg, hge, fun e => (by cases e), fun _ => hW⟩⟩
 obtain ⟨g', z1, z2, z3, z4⟩ := h.p e
 have hne : ∀ {o : Array Value}, W.heap[g']? = some (.cells o 85 (0, 0)) → g' ≠ g := by
  rintro o h1 rfl
  rw [h0] at h1
  injection h1 with h1
  injection h1 with _ h1 _
  exact absurd h1 (by decide)
 exact ⟨g', z1, z2, fun e => (hk _ (hne (z3 e))).trans (z3 e), fun e => (hk _ (hne (z4 e))).trans (z4 e)⟩
end
theorem set_far {W : World} {q : Addr} {u : Value} {j : Nat} (h : j ≠ q.block) : (W.setCell q u).heap[j]? = W.heap[j]? := by
 have h' : ¬ q.block = j := fun e => h e.symm
 simp [World.setCell, Array.getElem?_modify, h']
theorem bel_reflN (w : World) : Below w.heap.size w w := Below.refl _ _
def nnRK : List Key := [(some 26, .move (.tmp 3), none),
  (some 27, .call { callee := .value (.func 39), args := #[.tmp 26], argTypes := #[3] }, none),
  (some 28, .load 29 (.tmp 1), none),
  (some 29, .call { callee := .value (.func 41), args := #[.tmp 28], argTypes := #[29] }, none),
  (some 4, .alloc 85, none),
  (some 5, .alloc 87, none),
  (none, .store 85 (.tmp 4) (.tmp 27), none),
  (none, .store 87 (.tmp 5) (.tmp 29), none)]
def nnRE : List (List Nat) := [[], [0], [], [2, 1], [], [], [4, 1, 3, 0, 1, 4, 5], [5, 3, 6, 0, 1, 2, 3, 4, 5, 6]]
def nnRT (x : Ev) (kk nn : Int) (al : Option Addr) (ll cl : Nat) (_xb : Nat) : List (Nat × Nat × Value) := [(0, 26, .int .i64 x.k), (1, 27, .agg (nmC x.k)), (2, 28, .agg #[.int .i64 x.k, .int .i64 x.st, .int .i64 x.th, .int .i64 x.sy, .int .i64 x.br, .int .i64 x.pa, .int .i64 x.n, .int .i64 kk, .int .i64 nn, .slice al ll cl]), (3, 29, .agg #[.int .i64 x.sy, .int .i64 x.br, .int .i64 x.pa, .int .i64 x.n])]
structure nnRI (a0 : Act) (x : Ev) (kk nn : Int) (al : Option Addr) (ll cl : Nat) (xb : Nat) (w0 : World) (D : Nat → Bool) (a : Act) (W : World) : Prop where
 fr : Upd a0 a 4 26
 sl : Slots (nnRT x kk nn al ll cl xb) D a
 m : NnM 4 5 x w0 W a (D 4) (D 5) (D 6) (D 7)
 s : D 6 = true → D 4 = true
 t : D 7 = true → D 5 = true
theorem nnRI.step {a0 a : Act} {x : Ev} {kk nn : Int} {al : Option Addr} {ll cl xb : Nat} {w0 W W' : World} {D : Nat → Bool} (h : nnRI a0 x kk nn al ll cl xb w0 D a W) (i t : Nat) (v : Value) (hi : i ≠ 4 ∧ i ≠ 5 ∧ i ≠ 6 ∧ i ≠ 7) (h1 : 4 ≤ t) (h2 : t < 30) (hn1 : t ≠ 4) (hn2 : t ≠ 5) (hs : t < a.tmps.size) (hT : ∀ y ∈ nnRT x kk nn al ll cl xb, (y.1 = i → y.2.1 = t ∧ y.2.2 = v) ∧ (y.1 ≠ i → y.2.1 ≠ t)) (hb : Below W.heap.size W W') : nnRI a0 x kk nn al ll cl xb w0 (upd D i) (a.put (some t) v) W' := by
 obtain ⟨i1, i2, i3, i4⟩ := hi
 refine ⟨h.fr.put h1 (by omega) v, h.sl.put i t v hs hT, ?_, ?_, ?_⟩
 ·rw [upd_ne D (Ne.symm i1), upd_ne D (Ne.symm i2), upd_ne D (Ne.symm i3), upd_ne D (Ne.symm i4)]
  exact h.m.step hn1 hn2 v hb
 ·rw [upd_ne D (Ne.symm i1), upd_ne D (Ne.symm i3)]
  exact h.s
 ·rw [upd_ne D (Ne.symm i2), upd_ne D (Ne.symm i4)]
  exact h.t
set_option maxRecDepth 100000 in
set_option maxHeartbeats 4000000 in
theorem nnR_region {ops : Array Oper} {Q : Exit → Act → World → Prop} {a0 : Act} {id : Nat} {x : Ev} {kk nn : Int} {al : Option Addr} {ll cl xb : Nat} {w0 : World} (hsh : Shape ops nnRK nnRE) (hsz : 30 ≤ a0.tmps.size) (hk : a0.eval (.tmp 3) = .int .i64 x.k) (hx : a0.eval (.tmp 1) = .pointer (some ⟨xb, 0, none⟩))
  (hbe : w0.heap[xb]? = some (.cells #[.int .i64 x.k, .int .i64 x.st, .int .i64 x.th, .int .i64 x.sy, .int .i64 x.br, .int .i64 x.pa, .int .i64 x.n, .int .i64 kk, .int .i64 nn, .slice al ll cl] 29 (0, 0)))
  (hQ : ∀ a W g4 g5, Upd a0 a 4 26 → a.eval (.tmp 4) = .pointer (some ⟨g4, 0, none⟩) → a.eval (.tmp 5) = .pointer (some ⟨g5, 0, none⟩) → w0.heap.size ≤ g4 → w0.heap.size ≤ g5 → W.heap[g4]? = some (.cells (nmC x.k) 85 (0, 0)) → W.heap[g5]? = some (.cells #[.int .i64 x.sy, .int .i64 x.br, .int .i64 x.pa, .int .i64 x.n] 87 (0, 0)) → Below w0.heap.size w0 W → Q .normal a W) : (Code.region id ops true).wp Tryz.prog Q a0 w0 := by
 refine wp_region_inv (by kernel_rfl) (hsh.edged (by decide)) (nnRI a0 x kk nn al ll cl xb w0) ?_ ?_ ?_
 ·exact ⟨Upd.refl _ _ _, fun x _ h => by simp at h, NnM.start, fun h => by simp at h, fun h => by simp at h⟩
 ·rintro D a wr j o hI ho hD hdep
  have hk_ := hsh.key_at ho
  have hasz : a.tmps.size = a0.tmps.size := hI.fr.size
  have hj : j < 8 := by
   rcases Nat.lt_or_ge j 8 with hlt | hge
   ·exact hlt
   ·rw [List.getElem?_eq_none (by simpa [nnRK] using hge)] at hk_; cases hk_
  have hdp := fun es => hsh.dep_at ho hdep (es := es)
  clear hdep
  have hbw := hI.m.b
  have hbx := (hbw.block xb (lt_of_heap hbe)).trans hbe
  have hcases : j = 0 ∨ j = 1 ∨ j = 2 ∨ j = 3 ∨ j = 4 ∨ j = 5 ∨ j = 6 ∨ j = 7 := by omega
  rcases hcases with rfl | rfl | rfl | rfl | rfl | rfl | rfl | rfl
  ·
   obtain ⟨odst, oop, oty, opos, oaft, ogd⟩ := o
   simp only [key, nnRK, List.getElem?_cons_zero, Option.some.injEq, Prod.mk.injEq] at hk_
   obtain ⟨rfl, rfl, rfl⟩ := hk_
   exact wpOp_of ho rfl (op_move rfl ((hI.fr.eval (by omega)).trans hk) (hI.step 0 26 (.int .i64 x.k) (by decide) (by omega) (by omega) (by omega) (by omega) (by omega) (by simp [nnRT]) (bel_reflN _)))
  ·
   obtain ⟨odst, oop, oty, opos, oaft, ogd⟩ := o
   simp only [key, nnRK, List.getElem?_cons_zero, List.getElem?_cons_succ, Option.some.injEq, Prod.mk.injEq] at hk_
   obtain ⟨rfl, rfl, rfl⟩ := hk_
   have p0_ : D 0 = true := hdp _ rfl 0 (by decide)
   have s26 : a.eval (.tmp 26) = .int .i64 x.k := hI.sl (0, 26, .int .i64 x.k) (by simp [nnRT]) p0_
   refine wpOp_of ho rfl (op_run (n := .enter 39 #[.int .i64 x.k]) (w' := wr) ?_ ?_)
   ·have e1 : a.eval (.func 39) = .func (.func 39) #[] #[] := rfl
    generalize a.eval = ev at *
    unfold execOp
    simp [go_sem, s26, e1]
   ·refine (rnames_any x.k wr).mono ?_
    rintro e w1 ⟨rfl, hb⟩
    exact hI.step 1 27 (.agg (nmC x.k)) (by decide) (by omega) (by omega) (by omega) (by omega) (by omega) (by simp [nnRT]) hb
  ·
   obtain ⟨odst, oop, oty, opos, oaft, ogd⟩ := o
   simp only [key, nnRK, List.getElem?_cons_zero, List.getElem?_cons_succ, Option.some.injEq, Prod.mk.injEq] at hk_
   obtain ⟨rfl, rfl, rfl⟩ := hk_
   refine wpOp_of ho rfl (op_run (n := .value (.agg #[.int .i64 x.k, .int .i64 x.st, .int .i64 x.th, .int .i64 x.sy, .int .i64 x.br, .int .i64 x.pa, .int .i64 x.n, .int .i64 kk, .int .i64 nn, .slice al ll cl])) (w' := wr) ?_ (hI.step 2 28 (.agg #[.int .i64 x.k, .int .i64 x.st, .int .i64 x.th, .int .i64 x.sy, .int .i64 x.br, .int .i64 x.pa, .int .i64 x.n, .int .i64 kk, .int .i64 nn, .slice al ll cl]) (by decide) (by omega) (by omega) (by omega) (by omega) (by omega) (by simp [nnRT]) (bel_reflN _)))
   have hx2 := (hI.fr.eval (t := 1) (by omega)).trans hx
   have c0 : wr.cell? ⟨xb, 0, none⟩ = some (.int .i64 x.k) := by simp [World.cell?, hbx]
   have c1 : wr.cell? ⟨xb, 1, none⟩ = some (.int .i64 x.st) := by simp [World.cell?, hbx]
   have c2 : wr.cell? ⟨xb, 2, none⟩ = some (.int .i64 x.th) := by simp [World.cell?, hbx]
   have c3 : wr.cell? ⟨xb, 3, none⟩ = some (.int .i64 x.sy) := by simp [World.cell?, hbx]
   have c4 : wr.cell? ⟨xb, 4, none⟩ = some (.int .i64 x.br) := by simp [World.cell?, hbx]
   have c5 : wr.cell? ⟨xb, 5, none⟩ = some (.int .i64 x.pa) := by simp [World.cell?, hbx]
   have c6 : wr.cell? ⟨xb, 6, none⟩ = some (.int .i64 x.n) := by simp [World.cell?, hbx]
   have c7 : wr.cell? ⟨xb, 7, none⟩ = some (.int .i64 kk) := by simp [World.cell?, hbx]
   have c8 : wr.cell? ⟨xb, 8, none⟩ = some (.int .i64 nn) := by simp [World.cell?, hbx]
   have c9 : wr.cell? ⟨xb, 9, none⟩ = some (.slice al ll cl) := by simp [World.cell?, hbx]
   generalize a.eval = ev at *
   unfold execOp
   simp [go_sem, hx2, c0, c1, c2, c3, c4, c5, c6, c7, c8, c9]
  ·
   obtain ⟨odst, oop, oty, opos, oaft, ogd⟩ := o
   simp only [key, nnRK, List.getElem?_cons_zero, List.getElem?_cons_succ, Option.some.injEq, Prod.mk.injEq] at hk_
   obtain ⟨rfl, rfl, rfl⟩ := hk_
   have p2_ : D 2 = true := hdp _ rfl 2 (by decide)
   have s28 : a.eval (.tmp 28) = .agg #[.int .i64 x.k, .int .i64 x.st, .int .i64 x.th, .int .i64 x.sy, .int .i64 x.br, .int .i64 x.pa, .int .i64 x.n, .int .i64 kk, .int .i64 nn, .slice al ll cl] := hI.sl (2, 28, .agg #[.int .i64 x.k, .int .i64 x.st, .int .i64 x.th, .int .i64 x.sy, .int .i64 x.br, .int .i64 x.pa, .int .i64 x.n, .int .i64 kk, .int .i64 nn, .slice al ll cl]) (by simp [nnRT]) p2_
   refine wpOp_of ho rfl (op_run (n := .enter 41 #[.agg #[.int .i64 x.k, .int .i64 x.st, .int .i64 x.th, .int .i64 x.sy, .int .i64 x.br, .int .i64 x.pa, .int .i64 x.n, .int .i64 kk, .int .i64 nn, .slice al ll cl]]) (w' := wr) ?_ ?_)
   ·have e1 : a.eval (.func 41) = .func (.func 41) #[] #[] := rfl
    generalize a.eval = ev at *
    unfold execOp
    simp [go_sem, s28, e1]
   ·refine (rnumbers_any x.k x.st x.th x.sy x.br x.pa x.n kk nn al ll cl wr).mono ?_
    rintro e w1 ⟨rfl, hb⟩
    exact hI.step 3 29 (.agg #[.int .i64 x.sy, .int .i64 x.br, .int .i64 x.pa, .int .i64 x.n]) (by decide) (by omega) (by omega) (by omega) (by omega) (by omega) (by simp [nnRT]) hb
  ·
   obtain ⟨odst, oop, oty, opos, oaft, ogd⟩ := o
   simp only [key, nnRK, List.getElem?_cons_zero, List.getElem?_cons_succ, Option.some.injEq, Prod.mk.injEq] at hk_
   obtain ⟨rfl, rfl, rfl⟩ := hk_
   refine wpOp_of ho rfl (op_run (n := .value (.pointer (some ⟨wr.heap.size, 0, none⟩))) (w' := wr.alloc (.cells #[.bool false, .bool false, .bool false, .bool false, .bool false] 85)) ?_ ?_)
   ·generalize a.eval = ev at *
    unfold execOp
    simp [go_sem]
   ·have hst : D 6 = false := by
     cases h : D 6 with
     | false => rfl
     | true => exact absurd hD (by simp [hI.s h])
    refine ⟨hI.fr.put (by omega) (by omega) _, hI.sl.put 4 4 _ (by omega) (by simp [nnRT]), ?_, fun _ => ?_, fun h => ?_⟩
    ·have hm := hI.m
     rw [hst] at hm
     rw [upd_same, upd_ne D (show 5 ≠ 4 by decide), upd_ne D (show 6 ≠ 4 by decide), upd_ne D (show 7 ≠ 4 by decide), hst]
     exact hm.newA (by omega) (by decide)
    ·exact upd_same _ _
    ·rw [upd_ne D (by decide)] at h
     rw [upd_ne D (by decide)]
     exact hI.t h
  ·
   obtain ⟨odst, oop, oty, opos, oaft, ogd⟩ := o
   simp only [key, nnRK, List.getElem?_cons_zero, List.getElem?_cons_succ, Option.some.injEq, Prod.mk.injEq] at hk_
   obtain ⟨rfl, rfl, rfl⟩ := hk_
   refine wpOp_of ho rfl (op_run (n := .value (.pointer (some ⟨wr.heap.size, 0, none⟩))) (w' := wr.alloc (.cells #[.int .i64 0, .int .i64 0, .int .i64 0, .int .i64 0] 87)) ?_ ?_)
   ·generalize a.eval = ev at *
    unfold execOp
    simp [go_sem]
   ·have hst : D 7 = false := by
     cases h : D 7 with
     | false => rfl
     | true => exact absurd hD (by simp [hI.t h])
    refine ⟨hI.fr.put (by omega) (by omega) _, hI.sl.put 5 5 _ (by omega) (by simp [nnRT]), ?_, fun h => ?_, fun _ => ?_⟩
    ·have hm := hI.m
     rw [hst] at hm
     rw [upd_same, upd_ne D (show 4 ≠ 5 by decide), upd_ne D (show 6 ≠ 5 by decide), upd_ne D (show 7 ≠ 5 by decide), hst]
     exact hm.newB (by omega) (by decide)
    ·rw [upd_ne D (by decide)] at h
     rw [upd_ne D (by decide)]
     exact hI.s h
    ·exact upd_same _ _
  ·
   obtain ⟨odst, oop, oty, opos, oaft, ogd⟩ := o
   simp only [key, nnRK, List.getElem?_cons_zero, List.getElem?_cons_succ, Option.some.injEq, Prod.mk.injEq] at hk_
   obtain ⟨rfl, rfl, rfl⟩ := hk_
   have p1_ : D 1 = true := hdp _ rfl 1 (by decide)
   have s27 : a.eval (.tmp 27) = .agg (nmC x.k) := hI.sl (1, 27, .agg (nmC x.k)) (by simp [nnRT]) p1_
   have pa_ : D 4 = true := hdp _ rfl 4 (by decide)
   obtain ⟨g, z1, z2, z3, _⟩ := hI.m.p pa_
   have hx := z3 hD
   have c0 : wr.cell? ⟨g, 0, none⟩ = some (.bool false) := by simp [World.cell?, hx]
   have c1 : wr.cell? ⟨g, 1, none⟩ = some (.bool false) := by simp [World.cell?, hx]
   have c2 : wr.cell? ⟨g, 2, none⟩ = some (.bool false) := by simp [World.cell?, hx]
   have c3 : wr.cell? ⟨g, 3, none⟩ = some (.bool false) := by simp [World.cell?, hx]
   have c4 : wr.cell? ⟨g, 4, none⟩ = some (.bool false) := by simp [World.cell?, hx]
   have hf : ∀ i, wr.frozen? ⟨g, i, none⟩ = false := fun i => by simp [World.frozen?, hx]
   refine wpOp_of ho rfl (op_run (n := .skip) (w' := (((((wr.setCell ⟨g, 0, none⟩ (.bool (decide (0 ∈ rowE x.k)))).setCell ⟨g, 1, none⟩ (.bool (decide (1 ∈ rowE x.k)))).setCell ⟨g, 2, none⟩ (.bool (decide (2 ∈ rowE x.k)))).setCell ⟨g, 3, none⟩ (.bool (decide (3 ∈ rowE x.k)))).setCell ⟨g, 4, none⟩ (.bool (decide (4 ∈ rowE x.k))))) ?_ ?_)
   ·unfold nmC at s27
    generalize a.eval = ev at *
    unfold execOp
    simp [go_sem, z1, s27, c0, c1, c2, c3, c4, hf]
   ·have hb : Below w0.heap.size wr (((((wr.setCell ⟨g, 0, none⟩ (.bool (decide (0 ∈ rowE x.k)))).setCell ⟨g, 1, none⟩ (.bool (decide (1 ∈ rowE x.k)))).setCell ⟨g, 2, none⟩ (.bool (decide (2 ∈ rowE x.k)))).setCell ⟨g, 3, none⟩ (.bool (decide (3 ∈ rowE x.k)))).setCell ⟨g, 4, none⟩ (.bool (decide (4 ∈ rowE x.k)))) := (((((Below.refl _ _).setCell (p := ⟨g, 0, none⟩) z2 _).setCell (p := ⟨g, 1, none⟩) z2 _).setCell (p := ⟨g, 2, none⟩) z2 _).setCell (p := ⟨g, 3, none⟩) z2 _).setCell (p := ⟨g, 4, none⟩) z2 _
    have hkp : ∀ j, j ≠ g → (((((wr.setCell ⟨g, 0, none⟩ (.bool (decide (0 ∈ rowE x.k)))).setCell ⟨g, 1, none⟩ (.bool (decide (1 ∈ rowE x.k)))).setCell ⟨g, 2, none⟩ (.bool (decide (2 ∈ rowE x.k)))).setCell ⟨g, 3, none⟩ (.bool (decide (3 ∈ rowE x.k)))).setCell ⟨g, 4, none⟩ (.bool (decide (4 ∈ rowE x.k)))).heap[j]? = wr.heap[j]? := fun j hj => (((((set_far hj).trans (set_far hj)).trans (set_far hj)).trans (set_far hj)).trans (set_far hj))
    refine ⟨hI.fr, hI.sl.done 6 (by simp [nnRT]), ?_, fun h => ?_, fun h => ?_⟩
    ·have hm := hI.m
     rw [hD] at hm
     rw [upd_same, upd_ne D (show 4 ≠ 6 by decide), upd_ne D (show 5 ≠ 6 by decide), upd_ne D (show 7 ≠ 6 by decide)]
     exact hm.writeA z1 z2 (nm_set x.k hx) hx hb hkp
    ·rw [upd_ne D (by decide)]
     exact pa_
    ·rw [upd_ne D (by decide)] at h
     rw [upd_ne D (by decide)]
     exact hI.t h
  ·
   obtain ⟨odst, oop, oty, opos, oaft, ogd⟩ := o
   simp only [key, nnRK, List.getElem?_cons_zero, List.getElem?_cons_succ, Option.some.injEq, Prod.mk.injEq] at hk_
   obtain ⟨rfl, rfl, rfl⟩ := hk_
   have p3_ : D 3 = true := hdp _ rfl 3 (by decide)
   have s29 : a.eval (.tmp 29) = .agg #[.int .i64 x.sy, .int .i64 x.br, .int .i64 x.pa, .int .i64 x.n] := hI.sl (3, 29, .agg #[.int .i64 x.sy, .int .i64 x.br, .int .i64 x.pa, .int .i64 x.n]) (by simp [nnRT]) p3_
   have pa_ : D 5 = true := hdp _ rfl 5 (by decide)
   obtain ⟨g, z1, z2, z3, _⟩ := hI.m.q pa_
   have hx := z3 hD
   have c0 : wr.cell? ⟨g, 0, none⟩ = some (.int .i64 0) := by simp [World.cell?, hx]
   have c1 : wr.cell? ⟨g, 1, none⟩ = some (.int .i64 0) := by simp [World.cell?, hx]
   have c2 : wr.cell? ⟨g, 2, none⟩ = some (.int .i64 0) := by simp [World.cell?, hx]
   have c3 : wr.cell? ⟨g, 3, none⟩ = some (.int .i64 0) := by simp [World.cell?, hx]
   have hf : ∀ i, wr.frozen? ⟨g, i, none⟩ = false := fun i => by simp [World.frozen?, hx]
   refine wpOp_of ho rfl (op_run (n := .skip) (w' := ((((wr.setCell ⟨g, 0, none⟩ (.int .i64 x.sy)).setCell ⟨g, 1, none⟩ (.int .i64 x.br)).setCell ⟨g, 2, none⟩ (.int .i64 x.pa)).setCell ⟨g, 3, none⟩ (.int .i64 x.n))) ?_ ?_)
   ·generalize a.eval = ev at *
    unfold execOp
    simp [go_sem, z1, s29, c0, c1, c2, c3, hf]
   ·have hb : Below w0.heap.size wr ((((wr.setCell ⟨g, 0, none⟩ (.int .i64 x.sy)).setCell ⟨g, 1, none⟩ (.int .i64 x.br)).setCell ⟨g, 2, none⟩ (.int .i64 x.pa)).setCell ⟨g, 3, none⟩ (.int .i64 x.n)) := ((((Below.refl _ _).setCell (p := ⟨g, 0, none⟩) z2 _).setCell (p := ⟨g, 1, none⟩) z2 _).setCell (p := ⟨g, 2, none⟩) z2 _).setCell (p := ⟨g, 3, none⟩) z2 _
    have hkp : ∀ j, j ≠ g → ((((wr.setCell ⟨g, 0, none⟩ (.int .i64 x.sy)).setCell ⟨g, 1, none⟩ (.int .i64 x.br)).setCell ⟨g, 2, none⟩ (.int .i64 x.pa)).setCell ⟨g, 3, none⟩ (.int .i64 x.n)).heap[j]? = wr.heap[j]? := fun j hj => ((((set_far hj).trans (set_far hj)).trans (set_far hj)).trans (set_far hj))
    refine ⟨hI.fr, hI.sl.done 7 (by simp [nnRT]), ?_, fun h => ?_, fun h => ?_⟩
    ·have hm := hI.m
     rw [hD] at hm
     rw [upd_same, upd_ne D (show 4 ≠ 7 by decide), upd_ne D (show 5 ≠ 7 by decide), upd_ne D (show 6 ≠ 7 by decide)]
     exact hm.writeB z1 z2 (nu_set x.sy x.br x.pa x.n hx) hx hb hkp
    ·rw [upd_ne D (by decide)] at h
     rw [upd_ne D (by decide)]
     exact hI.s h
    ·rw [upd_ne D (by decide)]
     exact pa_
 ·intro D a W hI hall
  obtain ⟨g4, y1, y2, _, y4⟩ := hI.m.p (hall 4 (by rw [hsh.size]; decide))
  obtain ⟨g5, z1, z2, _, z4⟩ := hI.m.q (hall 5 (by rw [hsh.size]; decide))
  exact hQ a W g4 g5 hI.fr y1 z1 y2 z2 (y4 (hall 6 (by rw [hsh.size]; decide))) (z4 (hall 7 (by rw [hsh.size]; decide))) hI.m.b
def nnTT (x : Ev) (kk nn : Int) (al : Option Addr) (ll cl : Nat) (_xb : Nat) : List (Nat × Nat × Value) := [(0, 28, .int .i64 x.k), (1, 29, .agg (nmC x.k)), (2, 30, .agg #[.int .i64 x.k, .int .i64 x.st, .int .i64 x.th, .int .i64 x.sy, .int .i64 x.br, .int .i64 x.pa, .int .i64 x.n, .int .i64 kk, .int .i64 nn, .slice al ll cl]), (3, 31, .agg #[.int .i64 x.sy, .int .i64 x.br, .int .i64 x.pa, .int .i64 x.n])]
structure nnTI (a0 : Act) (x : Ev) (kk nn : Int) (al : Option Addr) (ll cl : Nat) (xb : Nat) (w0 : World) (D : Nat → Bool) (a : Act) (W : World) : Prop where
 fr : Upd a0 a 6 26
 sl : Slots (nnTT x kk nn al ll cl xb) D a
 m : NnM 6 7 x w0 W a (D 4) (D 5) (D 6) (D 7)
 s : D 6 = true → D 4 = true
 t : D 7 = true → D 5 = true
theorem nnTI.step {a0 a : Act} {x : Ev} {kk nn : Int} {al : Option Addr} {ll cl xb : Nat} {w0 W W' : World} {D : Nat → Bool} (h : nnTI a0 x kk nn al ll cl xb w0 D a W) (i t : Nat) (v : Value) (hi : i ≠ 4 ∧ i ≠ 5 ∧ i ≠ 6 ∧ i ≠ 7) (h1 : 6 ≤ t) (h2 : t < 32) (hn1 : t ≠ 6) (hn2 : t ≠ 7) (hs : t < a.tmps.size) (hT : ∀ y ∈ nnTT x kk nn al ll cl xb, (y.1 = i → y.2.1 = t ∧ y.2.2 = v) ∧ (y.1 ≠ i → y.2.1 ≠ t)) (hb : Below W.heap.size W W') : nnTI a0 x kk nn al ll cl xb w0 (upd D i) (a.put (some t) v) W' := by
 obtain ⟨i1, i2, i3, i4⟩ := hi
 refine ⟨h.fr.put h1 (by omega) v, h.sl.put i t v hs hT, ?_, ?_, ?_⟩
 ·rw [upd_ne D (Ne.symm i1), upd_ne D (Ne.symm i2), upd_ne D (Ne.symm i3), upd_ne D (Ne.symm i4)]
  exact h.m.step hn1 hn2 v hb
 ·rw [upd_ne D (Ne.symm i1), upd_ne D (Ne.symm i3)]
  exact h.s
 ·rw [upd_ne D (Ne.symm i2), upd_ne D (Ne.symm i4)]
  exact h.t
def nnET (x : Ev) (kk nn : Int) (al : Option Addr) (ll cl : Nat) (xb : Nat) : List (Nat × Nat × Value) := [(0, 53, .pointer (some ⟨xb, 0, none⟩)), (1, 54, .int .i64 x.k), (2, 55, .agg (nmC x.k)), (3, 56, .agg #[.int .i64 x.k, .int .i64 x.st, .int .i64 x.th, .int .i64 x.sy, .int .i64 x.br, .int .i64 x.pa, .int .i64 x.n, .int .i64 kk, .int .i64 nn, .slice al ll cl]), (4, 57, .agg #[.int .i64 x.sy, .int .i64 x.br, .int .i64 x.pa, .int .i64 x.n])]
structure nnEI (a0 : Act) (x : Ev) (kk nn : Int) (al : Option Addr) (ll cl : Nat) (xb : Nat) (w0 : World) (D : Nat → Bool) (a : Act) (W : World) : Prop where
 fr : Upd a0 a 10 48
 sl : Slots (nnET x kk nn al ll cl xb) D a
 m : NnM 10 11 x w0 W a (D 5) (D 6) (D 7) (D 8)
 s : D 7 = true → D 5 = true
 t : D 8 = true → D 6 = true
theorem nnEI.step {a0 a : Act} {x : Ev} {kk nn : Int} {al : Option Addr} {ll cl xb : Nat} {w0 W W' : World} {D : Nat → Bool} (h : nnEI a0 x kk nn al ll cl xb w0 D a W) (i t : Nat) (v : Value) (hi : i ≠ 5 ∧ i ≠ 6 ∧ i ≠ 7 ∧ i ≠ 8) (h1 : 10 ≤ t) (h2 : t < 58) (hn1 : t ≠ 10) (hn2 : t ≠ 11) (hs : t < a.tmps.size) (hT : ∀ y ∈ nnET x kk nn al ll cl xb, (y.1 = i → y.2.1 = t ∧ y.2.2 = v) ∧ (y.1 ≠ i → y.2.1 ≠ t)) (hb : Below W.heap.size W W') : nnEI a0 x kk nn al ll cl xb w0 (upd D i) (a.put (some t) v) W' := by
 obtain ⟨i1, i2, i3, i4⟩ := hi
 refine ⟨h.fr.put h1 (by omega) v, h.sl.put i t v hs hT, ?_, ?_, ?_⟩
 ·rw [upd_ne D (Ne.symm i1), upd_ne D (Ne.symm i2), upd_ne D (Ne.symm i3), upd_ne D (Ne.symm i4)]
  exact h.m.step hn1 hn2 v hb
 ·rw [upd_ne D (Ne.symm i1), upd_ne D (Ne.symm i3)]
  exact h.s
 ·rw [upd_ne D (Ne.symm i2), upd_ne D (Ne.symm i4)]
  exact h.t
end Go.Proofs.YtjldbbcdhdfliaaGreatDoor
/-
 The reference's Encode: names and numbers of an event, in whatever order; the slots between are kept. Printed by gen_ne.py.
-/
namespace Go.Proofs.YtjldbbcdhdfliaaGreatDoor
open Go.RowKit Go.Sort

/-- Two activations that differ in slots 10, 11, 53 to 57 alone. -/
structure UpdE (a0 a : Act) : Prop where
 u : Upd a0 a 10 48
 m : ∀ t, 12 ≤ t → t < 53 → a.tmps[t]? = a0.tmps[t]?
theorem UpdE.refl (a : Act) : UpdE a a := ⟨Upd.refl _ _ _, fun _ _ _ => rfl⟩
theorem UpdE.put {a0 a : Act} {t : Nat} (h : UpdE a0 a) (h1 : 10 ≤ t) (h2 : t < 58) (hm : t < 12 ∨ 53 ≤ t) (v : Value) : UpdE a0 (a.put (some t) v) := by
 refine ⟨h.u.put h1 (by omega) v, fun k h3 h4 => ?_⟩
 rw [← h.m k h3 h4]
 have hne : ¬ t = k := by omega
 simp [Act.put, hne]
theorem UpdE.list {a0 a : Act} (h : UpdE a0 a) (hs : 58 ≤ a0.tmps.size) : ∃ us vs : List Value, us.length = 2 ∧ vs.length = 5 ∧ a = ⟨(a0.tmps.toList.take 10 ++ (us ++ ((a0.tmps.toList.drop 12).take 41 ++ (vs ++ a0.tmps.toList.drop 58)))).toArray, a0.defers⟩ := by
 obtain ⟨us, hl, ha⟩ := h.u.list hs
 refine ⟨us.take 2, us.drop 43, by simp [hl], by simp [hl], ?_⟩
 have hmid : (us.drop 2).take 41 = (a0.tmps.toList.drop 12).take 41 := by
  apply List.ext_getElem?
  intro i
  rcases Nat.lt_or_ge i 41 with hi | hi
  ·have h1 := h.m (12 + i) (by omega) (by omega)
   rw [ha] at h1
   rw [List.getElem?_take, List.getElem?_take, if_pos hi, if_pos hi, List.getElem?_drop, List.getElem?_drop]
   have h2 : (a0.tmps.toList.take 10 ++ (us ++ a0.tmps.toList.drop (10 + 48))).toArray[12 + i]? = us[2 + i]? := by
    rw [List.getElem?_toArray, List.getElem?_append_right (by simp; omega)]
    have e : (a0.tmps.toList.take 10).length = 10 := by simp; omega
    rw [e, List.getElem?_append_left (by omega)]
    congr 1
    omega
   have h3 : (a0.tmps.toList.take 10 ++ (us ++ a0.tmps.toList.drop (10 + 48))).toArray[12 + i]? = a0.tmps[12 + i]? := h1
   rw [h2] at h3
   rw [h3, Array.getElem?_toList]
  ·rw [List.getElem?_eq_none (by simp; omega), List.getElem?_eq_none (by simp; omega)]
 rw [← hmid]
 have e : us = us.take 2 ++ ((us.drop 2).take 41 ++ us.drop 43) := by
  have e1 : us.drop 43 = (us.drop 2).drop 41 := by rw [List.drop_drop]
  rw [e1, List.take_append_drop, List.take_append_drop]
 rw [ha]
 have e2 : us ++ a0.tmps.toList.drop (10 + 48) = us.take 2 ++ ((us.drop 2).take 41 ++ (us.drop 43 ++ a0.tmps.toList.drop 58)) := by
  conv => lhs; rw [e]
  simp
 rw [e2]
def neEK : List Key := [(some 53, .fieldAddr 29 (.tmp 9) 0, none),
  (some 54, .load 23 (.tmp 53), none),
  (some 55, .call { callee := .value (.func 39), args := #[.tmp 54], argTypes := #[3] }, none),
  (some 56, .load 29 (.tmp 9), none),
  (some 57, .call { callee := .value (.func 41), args := #[.tmp 56], argTypes := #[29] }, none),
  (some 10, .alloc 85, none),
  (some 11, .alloc 87, none),
  (none, .store 85 (.tmp 10) (.tmp 55), none),
  (none, .store 87 (.tmp 11) (.tmp 57), none)]
def neEE : List (List Nat) := [[], [0], [1], [], [3, 2], [], [], [5, 2, 4, 0, 1, 2, 5, 6], [6, 4, 7, 0, 1, 2, 3, 4, 5, 6, 7]]
def neET (x : Ev) (kk nn : Int) (al : Option Addr) (ll cl : Nat) (xb : Nat) : List (Nat × Nat × Value) := [(0, 53, .pointer (some ⟨xb, 0, none⟩)), (1, 54, .int .i64 x.k), (2, 55, .agg (nmC x.k)), (3, 56, .agg #[.int .i64 x.k, .int .i64 x.st, .int .i64 x.th, .int .i64 x.sy, .int .i64 x.br, .int .i64 x.pa, .int .i64 x.n, .int .i64 kk, .int .i64 nn, .slice al ll cl]), (4, 57, .agg #[.int .i64 x.sy, .int .i64 x.br, .int .i64 x.pa, .int .i64 x.n])]
structure neEI (a0 : Act) (x : Ev) (kk nn : Int) (al : Option Addr) (ll cl : Nat) (xb : Nat) (w0 : World) (D : Nat → Bool) (a : Act) (W : World) : Prop where
 fr : UpdE a0 a
 sl : Slots (neET x kk nn al ll cl xb) D a
 m : NnM 10 11 x w0 W a (D 5) (D 6) (D 7) (D 8)
 s : D 7 = true → D 5 = true
 t : D 8 = true → D 6 = true
theorem neEI.step {a0 a : Act} {x : Ev} {kk nn : Int} {al : Option Addr} {ll cl xb : Nat} {w0 W W' : World} {D : Nat → Bool} (h : neEI a0 x kk nn al ll cl xb w0 D a W) (i t : Nat) (v : Value) (hi : i ≠ 5 ∧ i ≠ 6 ∧ i ≠ 7 ∧ i ≠ 8) (h1 : 10 ≤ t) (h2 : t < 58) (hn1 : t ≠ 10) (hn2 : t ≠ 11) (hm : t < 12 ∨ 53 ≤ t) (hs : t < a.tmps.size) (hT : ∀ y ∈ neET x kk nn al ll cl xb, (y.1 = i → y.2.1 = t ∧ y.2.2 = v) ∧ (y.1 ≠ i → y.2.1 ≠ t)) (hb : Below W.heap.size W W') : neEI a0 x kk nn al ll cl xb w0 (upd D i) (a.put (some t) v) W' := by
 obtain ⟨i1, i2, i3, i4⟩ := hi
 refine ⟨h.fr.put h1 (by omega) hm v, h.sl.put i t v hs hT, ?_, ?_, ?_⟩
 ·rw [upd_ne D (Ne.symm i1), upd_ne D (Ne.symm i2), upd_ne D (Ne.symm i3), upd_ne D (Ne.symm i4)]
  exact h.m.step hn1 hn2 v hb
 ·rw [upd_ne D (Ne.symm i1), upd_ne D (Ne.symm i3)]
  exact h.s
 ·rw [upd_ne D (Ne.symm i2), upd_ne D (Ne.symm i4)]
  exact h.t
set_option maxRecDepth 100000 in
set_option maxHeartbeats 4000000 in
theorem neE_region {ops : Array Oper} {Q : Exit → Act → World → Prop} {a0 : Act} {id : Nat} {x : Ev} {kk nn : Int} {al : Option Addr} {ll cl xb : Nat} {w0 : World} (hsh : Shape ops neEK neEE) (hsz : 58 ≤ a0.tmps.size) (hx : a0.eval (.tmp 9) = .pointer (some ⟨xb, 0, none⟩))
  (hbe : w0.heap[xb]? = some (.cells #[.int .i64 x.k, .int .i64 x.st, .int .i64 x.th, .int .i64 x.sy, .int .i64 x.br, .int .i64 x.pa, .int .i64 x.n, .int .i64 kk, .int .i64 nn, .slice al ll cl] 29 (0, 0)))
  (hQ : ∀ a W g4 g5, UpdE a0 a → a.eval (.tmp 10) = .pointer (some ⟨g4, 0, none⟩) → a.eval (.tmp 11) = .pointer (some ⟨g5, 0, none⟩) → w0.heap.size ≤ g4 → w0.heap.size ≤ g5 → W.heap[g4]? = some (.cells (nmC x.k) 85 (0, 0)) → W.heap[g5]? = some (.cells #[.int .i64 x.sy, .int .i64 x.br, .int .i64 x.pa, .int .i64 x.n] 87 (0, 0)) → Below w0.heap.size w0 W → Q .normal a W) : (Code.region id ops true).wp Tryz.prog Q a0 w0 := by
 refine wp_region_inv (by kernel_rfl) (hsh.edged (by decide)) (neEI a0 x kk nn al ll cl xb w0) ?_ ?_ ?_
 ·exact ⟨UpdE.refl _, fun x _ h => by simp at h, NnM.start, fun h => by simp at h, fun h => by simp at h⟩
 ·rintro D a wr j o hI ho hD hdep
  have hk_ := hsh.key_at ho
  have hasz : a.tmps.size = a0.tmps.size := hI.fr.u.size
  have hj : j < 9 := by
   rcases Nat.lt_or_ge j 9 with hlt | hge
   ·exact hlt
   ·rw [List.getElem?_eq_none (by simpa [neEK] using hge)] at hk_; cases hk_
  have hdp := fun es => hsh.dep_at ho hdep (es := es)
  clear hdep
  have hbw := hI.m.b
  have hbx := (hbw.block xb (lt_of_heap hbe)).trans hbe
  have hcases : j = 0 ∨ j = 1 ∨ j = 2 ∨ j = 3 ∨ j = 4 ∨ j = 5 ∨ j = 6 ∨ j = 7 ∨ j = 8 := by omega
  rcases hcases with rfl | rfl | rfl | rfl | rfl | rfl | rfl | rfl | rfl
  ·
   obtain ⟨odst, oop, oty, opos, oaft, ogd⟩ := o
   simp only [key, neEK, List.getElem?_cons_zero, Option.some.injEq, Prod.mk.injEq] at hk_
   obtain ⟨rfl, rfl, rfl⟩ := hk_
   refine wpOp_of ho rfl (op_run (n := .value (.pointer (some ⟨xb, 0, none⟩))) (w' := wr) ?_ (hI.step 0 53 (.pointer (some ⟨xb, 0, none⟩)) (by decide) (by omega) (by omega) (by omega) (by omega) (by omega) (by omega) (by simp [neET]) (bel_reflN _)))
   have hx2 := (hI.fr.u.eval (t := 9) (by omega)).trans hx
   generalize a.eval = ev at *
   unfold execOp
   simp [go_sem, hx2]
  ·
   obtain ⟨odst, oop, oty, opos, oaft, ogd⟩ := o
   simp only [key, neEK, List.getElem?_cons_zero, List.getElem?_cons_succ, Option.some.injEq, Prod.mk.injEq] at hk_
   obtain ⟨rfl, rfl, rfl⟩ := hk_
   have p0_ : D 0 = true := hdp _ rfl 0 (by decide)
   have s53 : a.eval (.tmp 53) = .pointer (some ⟨xb, 0, none⟩) := hI.sl (0, 53, .pointer (some ⟨xb, 0, none⟩)) (by simp [neET]) p0_
   have c0 : wr.cell? ⟨xb, 0, none⟩ = some (.int .i64 x.k) := by simp [World.cell?, hbx]
   exact wpOp_of ho rfl (op_load1 rfl s53 (by kernel_rfl) c0 (hI.step 1 54 (.int .i64 x.k) (by decide) (by omega) (by omega) (by omega) (by omega) (by omega) (by omega) (by simp [neET]) (bel_reflN _)))
  ·
   obtain ⟨odst, oop, oty, opos, oaft, ogd⟩ := o
   simp only [key, neEK, List.getElem?_cons_zero, List.getElem?_cons_succ, Option.some.injEq, Prod.mk.injEq] at hk_
   obtain ⟨rfl, rfl, rfl⟩ := hk_
   have p1_ : D 1 = true := hdp _ rfl 1 (by decide)
   have s54 : a.eval (.tmp 54) = .int .i64 x.k := hI.sl (1, 54, .int .i64 x.k) (by simp [neET]) p1_
   refine wpOp_of ho rfl (op_run (n := .enter 39 #[.int .i64 x.k]) (w' := wr) ?_ ?_)
   ·have e1 : a.eval (.func 39) = .func (.func 39) #[] #[] := rfl
    generalize a.eval = ev at *
    unfold execOp
    simp [go_sem, s54, e1]
   ·refine (rnames_any x.k wr).mono ?_
    rintro e w1 ⟨rfl, hb⟩
    exact hI.step 2 55 (.agg (nmC x.k)) (by decide) (by omega) (by omega) (by omega) (by omega) (by omega) (by omega) (by simp [neET]) hb
  ·
   obtain ⟨odst, oop, oty, opos, oaft, ogd⟩ := o
   simp only [key, neEK, List.getElem?_cons_zero, List.getElem?_cons_succ, Option.some.injEq, Prod.mk.injEq] at hk_
   obtain ⟨rfl, rfl, rfl⟩ := hk_
   refine wpOp_of ho rfl (op_run (n := .value (.agg #[.int .i64 x.k, .int .i64 x.st, .int .i64 x.th, .int .i64 x.sy, .int .i64 x.br, .int .i64 x.pa, .int .i64 x.n, .int .i64 kk, .int .i64 nn, .slice al ll cl])) (w' := wr) ?_ (hI.step 3 56 (.agg #[.int .i64 x.k, .int .i64 x.st, .int .i64 x.th, .int .i64 x.sy, .int .i64 x.br, .int .i64 x.pa, .int .i64 x.n, .int .i64 kk, .int .i64 nn, .slice al ll cl]) (by decide) (by omega) (by omega) (by omega) (by omega) (by omega) (by omega) (by simp [neET]) (bel_reflN _)))
   have hx2 := (hI.fr.u.eval (t := 9) (by omega)).trans hx
   have c0 : wr.cell? ⟨xb, 0, none⟩ = some (.int .i64 x.k) := by simp [World.cell?, hbx]
   have c1 : wr.cell? ⟨xb, 1, none⟩ = some (.int .i64 x.st) := by simp [World.cell?, hbx]
   have c2 : wr.cell? ⟨xb, 2, none⟩ = some (.int .i64 x.th) := by simp [World.cell?, hbx]
   have c3 : wr.cell? ⟨xb, 3, none⟩ = some (.int .i64 x.sy) := by simp [World.cell?, hbx]
   have c4 : wr.cell? ⟨xb, 4, none⟩ = some (.int .i64 x.br) := by simp [World.cell?, hbx]
   have c5 : wr.cell? ⟨xb, 5, none⟩ = some (.int .i64 x.pa) := by simp [World.cell?, hbx]
   have c6 : wr.cell? ⟨xb, 6, none⟩ = some (.int .i64 x.n) := by simp [World.cell?, hbx]
   have c7 : wr.cell? ⟨xb, 7, none⟩ = some (.int .i64 kk) := by simp [World.cell?, hbx]
   have c8 : wr.cell? ⟨xb, 8, none⟩ = some (.int .i64 nn) := by simp [World.cell?, hbx]
   have c9 : wr.cell? ⟨xb, 9, none⟩ = some (.slice al ll cl) := by simp [World.cell?, hbx]
   generalize a.eval = ev at *
   unfold execOp
   simp [go_sem, hx2, c0, c1, c2, c3, c4, c5, c6, c7, c8, c9]
  ·
   obtain ⟨odst, oop, oty, opos, oaft, ogd⟩ := o
   simp only [key, neEK, List.getElem?_cons_zero, List.getElem?_cons_succ, Option.some.injEq, Prod.mk.injEq] at hk_
   obtain ⟨rfl, rfl, rfl⟩ := hk_
   have p3_ : D 3 = true := hdp _ rfl 3 (by decide)
   have s56 : a.eval (.tmp 56) = .agg #[.int .i64 x.k, .int .i64 x.st, .int .i64 x.th, .int .i64 x.sy, .int .i64 x.br, .int .i64 x.pa, .int .i64 x.n, .int .i64 kk, .int .i64 nn, .slice al ll cl] := hI.sl (3, 56, .agg #[.int .i64 x.k, .int .i64 x.st, .int .i64 x.th, .int .i64 x.sy, .int .i64 x.br, .int .i64 x.pa, .int .i64 x.n, .int .i64 kk, .int .i64 nn, .slice al ll cl]) (by simp [neET]) p3_
   refine wpOp_of ho rfl (op_run (n := .enter 41 #[.agg #[.int .i64 x.k, .int .i64 x.st, .int .i64 x.th, .int .i64 x.sy, .int .i64 x.br, .int .i64 x.pa, .int .i64 x.n, .int .i64 kk, .int .i64 nn, .slice al ll cl]]) (w' := wr) ?_ ?_)
   ·have e1 : a.eval (.func 41) = .func (.func 41) #[] #[] := rfl
    generalize a.eval = ev at *
    unfold execOp
    simp [go_sem, s56, e1]
   ·refine (rnumbers_any x.k x.st x.th x.sy x.br x.pa x.n kk nn al ll cl wr).mono ?_
    rintro e w1 ⟨rfl, hb⟩
    exact hI.step 4 57 (.agg #[.int .i64 x.sy, .int .i64 x.br, .int .i64 x.pa, .int .i64 x.n]) (by decide) (by omega) (by omega) (by omega) (by omega) (by omega) (by omega) (by simp [neET]) hb
  ·
   obtain ⟨odst, oop, oty, opos, oaft, ogd⟩ := o
   simp only [key, neEK, List.getElem?_cons_zero, List.getElem?_cons_succ, Option.some.injEq, Prod.mk.injEq] at hk_
   obtain ⟨rfl, rfl, rfl⟩ := hk_
   refine wpOp_of ho rfl (op_run (n := .value (.pointer (some ⟨wr.heap.size, 0, none⟩))) (w' := wr.alloc (.cells #[.bool false, .bool false, .bool false, .bool false, .bool false] 85)) ?_ ?_)
   ·generalize a.eval = ev at *
    unfold execOp
    simp [go_sem]
   ·have hst : D 7 = false := by
     cases h : D 7 with
     | false => rfl
     | true => exact absurd hD (by simp [hI.s h])
    refine ⟨hI.fr.put (by omega) (by omega) (by omega) _, hI.sl.put 5 10 _ (by omega) (by simp [neET]), ?_, fun _ => ?_, fun h => ?_⟩
    ·have hm := hI.m
     rw [hst] at hm
     rw [upd_same, upd_ne D (show 6 ≠ 5 by decide), upd_ne D (show 7 ≠ 5 by decide), upd_ne D (show 8 ≠ 5 by decide), hst]
     exact hm.newA (by omega) (by decide)
    ·exact upd_same _ _
    ·rw [upd_ne D (by decide)] at h
     rw [upd_ne D (by decide)]
     exact hI.t h
  ·
   obtain ⟨odst, oop, oty, opos, oaft, ogd⟩ := o
   simp only [key, neEK, List.getElem?_cons_zero, List.getElem?_cons_succ, Option.some.injEq, Prod.mk.injEq] at hk_
   obtain ⟨rfl, rfl, rfl⟩ := hk_
   refine wpOp_of ho rfl (op_run (n := .value (.pointer (some ⟨wr.heap.size, 0, none⟩))) (w' := wr.alloc (.cells #[.int .i64 0, .int .i64 0, .int .i64 0, .int .i64 0] 87)) ?_ ?_)
   ·generalize a.eval = ev at *
    unfold execOp
    simp [go_sem]
   ·have hst : D 8 = false := by
     cases h : D 8 with
     | false => rfl
     | true => exact absurd hD (by simp [hI.t h])
    refine ⟨hI.fr.put (by omega) (by omega) (by omega) _, hI.sl.put 6 11 _ (by omega) (by simp [neET]), ?_, fun h => ?_, fun _ => ?_⟩
    ·have hm := hI.m
     rw [hst] at hm
     rw [upd_same, upd_ne D (show 5 ≠ 6 by decide), upd_ne D (show 7 ≠ 6 by decide), upd_ne D (show 8 ≠ 6 by decide), hst]
     exact hm.newB (by omega) (by decide)
    ·rw [upd_ne D (by decide)] at h
     rw [upd_ne D (by decide)]
     exact hI.s h
    ·exact upd_same _ _
  ·
   obtain ⟨odst, oop, oty, opos, oaft, ogd⟩ := o
   simp only [key, neEK, List.getElem?_cons_zero, List.getElem?_cons_succ, Option.some.injEq, Prod.mk.injEq] at hk_
   obtain ⟨rfl, rfl, rfl⟩ := hk_
   have p2_ : D 2 = true := hdp _ rfl 2 (by decide)
   have s55 : a.eval (.tmp 55) = .agg (nmC x.k) := hI.sl (2, 55, .agg (nmC x.k)) (by simp [neET]) p2_
   have pa_ : D 5 = true := hdp _ rfl 5 (by decide)
   obtain ⟨g, z1, z2, z3, _⟩ := hI.m.p pa_
   have hx := z3 hD
   have c0 : wr.cell? ⟨g, 0, none⟩ = some (.bool false) := by simp [World.cell?, hx]
   have c1 : wr.cell? ⟨g, 1, none⟩ = some (.bool false) := by simp [World.cell?, hx]
   have c2 : wr.cell? ⟨g, 2, none⟩ = some (.bool false) := by simp [World.cell?, hx]
   have c3 : wr.cell? ⟨g, 3, none⟩ = some (.bool false) := by simp [World.cell?, hx]
   have c4 : wr.cell? ⟨g, 4, none⟩ = some (.bool false) := by simp [World.cell?, hx]
   have hf : ∀ i, wr.frozen? ⟨g, i, none⟩ = false := fun i => by simp [World.frozen?, hx]
   refine wpOp_of ho rfl (op_run (n := .skip) (w' := (((((wr.setCell ⟨g, 0, none⟩ (.bool (decide (0 ∈ rowE x.k)))).setCell ⟨g, 1, none⟩ (.bool (decide (1 ∈ rowE x.k)))).setCell ⟨g, 2, none⟩ (.bool (decide (2 ∈ rowE x.k)))).setCell ⟨g, 3, none⟩ (.bool (decide (3 ∈ rowE x.k)))).setCell ⟨g, 4, none⟩ (.bool (decide (4 ∈ rowE x.k))))) ?_ ?_)
   ·unfold nmC at s55
    generalize a.eval = ev at *
    unfold execOp
    simp [go_sem, z1, s55, c0, c1, c2, c3, c4, hf]
   ·have hb : Below w0.heap.size wr (((((wr.setCell ⟨g, 0, none⟩ (.bool (decide (0 ∈ rowE x.k)))).setCell ⟨g, 1, none⟩ (.bool (decide (1 ∈ rowE x.k)))).setCell ⟨g, 2, none⟩ (.bool (decide (2 ∈ rowE x.k)))).setCell ⟨g, 3, none⟩ (.bool (decide (3 ∈ rowE x.k)))).setCell ⟨g, 4, none⟩ (.bool (decide (4 ∈ rowE x.k)))) := (((((Below.refl _ _).setCell (p := ⟨g, 0, none⟩) z2 _).setCell (p := ⟨g, 1, none⟩) z2 _).setCell (p := ⟨g, 2, none⟩) z2 _).setCell (p := ⟨g, 3, none⟩) z2 _).setCell (p := ⟨g, 4, none⟩) z2 _
    have hkp : ∀ j, j ≠ g → (((((wr.setCell ⟨g, 0, none⟩ (.bool (decide (0 ∈ rowE x.k)))).setCell ⟨g, 1, none⟩ (.bool (decide (1 ∈ rowE x.k)))).setCell ⟨g, 2, none⟩ (.bool (decide (2 ∈ rowE x.k)))).setCell ⟨g, 3, none⟩ (.bool (decide (3 ∈ rowE x.k)))).setCell ⟨g, 4, none⟩ (.bool (decide (4 ∈ rowE x.k)))).heap[j]? = wr.heap[j]? := fun j hj => (((((set_far hj).trans (set_far hj)).trans (set_far hj)).trans (set_far hj)).trans (set_far hj))
    refine ⟨hI.fr, hI.sl.done 7 (by simp [neET]), ?_, fun h => ?_, fun h => ?_⟩
    ·have hm := hI.m
     rw [hD] at hm
     rw [upd_same, upd_ne D (show 5 ≠ 7 by decide), upd_ne D (show 6 ≠ 7 by decide), upd_ne D (show 8 ≠ 7 by decide)]
     exact hm.writeA z1 z2 (nm_set x.k hx) hx hb hkp
    ·rw [upd_ne D (by decide)]
     exact pa_
    ·rw [upd_ne D (by decide)] at h
     rw [upd_ne D (by decide)]
     exact hI.t h
  ·
   obtain ⟨odst, oop, oty, opos, oaft, ogd⟩ := o
   simp only [key, neEK, List.getElem?_cons_zero, List.getElem?_cons_succ, Option.some.injEq, Prod.mk.injEq] at hk_
   obtain ⟨rfl, rfl, rfl⟩ := hk_
   have p4_ : D 4 = true := hdp _ rfl 4 (by decide)
   have s57 : a.eval (.tmp 57) = .agg #[.int .i64 x.sy, .int .i64 x.br, .int .i64 x.pa, .int .i64 x.n] := hI.sl (4, 57, .agg #[.int .i64 x.sy, .int .i64 x.br, .int .i64 x.pa, .int .i64 x.n]) (by simp [neET]) p4_
   have pa_ : D 6 = true := hdp _ rfl 6 (by decide)
   obtain ⟨g, z1, z2, z3, _⟩ := hI.m.q pa_
   have hx := z3 hD
   have c0 : wr.cell? ⟨g, 0, none⟩ = some (.int .i64 0) := by simp [World.cell?, hx]
   have c1 : wr.cell? ⟨g, 1, none⟩ = some (.int .i64 0) := by simp [World.cell?, hx]
   have c2 : wr.cell? ⟨g, 2, none⟩ = some (.int .i64 0) := by simp [World.cell?, hx]
   have c3 : wr.cell? ⟨g, 3, none⟩ = some (.int .i64 0) := by simp [World.cell?, hx]
   have hf : ∀ i, wr.frozen? ⟨g, i, none⟩ = false := fun i => by simp [World.frozen?, hx]
   refine wpOp_of ho rfl (op_run (n := .skip) (w' := ((((wr.setCell ⟨g, 0, none⟩ (.int .i64 x.sy)).setCell ⟨g, 1, none⟩ (.int .i64 x.br)).setCell ⟨g, 2, none⟩ (.int .i64 x.pa)).setCell ⟨g, 3, none⟩ (.int .i64 x.n))) ?_ ?_)
   ·generalize a.eval = ev at *
    unfold execOp
    simp [go_sem, z1, s57, c0, c1, c2, c3, hf]
   ·have hb : Below w0.heap.size wr ((((wr.setCell ⟨g, 0, none⟩ (.int .i64 x.sy)).setCell ⟨g, 1, none⟩ (.int .i64 x.br)).setCell ⟨g, 2, none⟩ (.int .i64 x.pa)).setCell ⟨g, 3, none⟩ (.int .i64 x.n)) := ((((Below.refl _ _).setCell (p := ⟨g, 0, none⟩) z2 _).setCell (p := ⟨g, 1, none⟩) z2 _).setCell (p := ⟨g, 2, none⟩) z2 _).setCell (p := ⟨g, 3, none⟩) z2 _
    have hkp : ∀ j, j ≠ g → ((((wr.setCell ⟨g, 0, none⟩ (.int .i64 x.sy)).setCell ⟨g, 1, none⟩ (.int .i64 x.br)).setCell ⟨g, 2, none⟩ (.int .i64 x.pa)).setCell ⟨g, 3, none⟩ (.int .i64 x.n)).heap[j]? = wr.heap[j]? := fun j hj => ((((set_far hj).trans (set_far hj)).trans (set_far hj)).trans (set_far hj))
    refine ⟨hI.fr, hI.sl.done 8 (by simp [neET]), ?_, fun h => ?_, fun h => ?_⟩
    ·have hm := hI.m
     rw [hD] at hm
     rw [upd_same, upd_ne D (show 5 ≠ 8 by decide), upd_ne D (show 6 ≠ 8 by decide), upd_ne D (show 7 ≠ 8 by decide)]
     exact hm.writeB z1 z2 (nu_set x.sy x.br x.pa x.n hx) hx hb hkp
    ·rw [upd_ne D (by decide)] at h
     rw [upd_ne D (by decide)]
     exact hI.s h
    ·rw [upd_ne D (by decide)]
     exact pa_
 ·intro D a W hI hall
  obtain ⟨g4, y1, y2, _, y4⟩ := hI.m.p (hall 5 (by rw [hsh.size]; decide))
  obtain ⟨g5, z1, z2, _, z4⟩ := hI.m.q (hall 6 (by rw [hsh.size]; decide))
  exact hQ a W g4 g5 hI.fr y1 z1 y2 z2 (y4 (hall 7 (by rw [hsh.size]; decide))) (z4 (hall 8 (by rw [hsh.size]; decide))) hI.m.b
end Go.Proofs.YtjldbbcdhdfliaaGreatDoor
