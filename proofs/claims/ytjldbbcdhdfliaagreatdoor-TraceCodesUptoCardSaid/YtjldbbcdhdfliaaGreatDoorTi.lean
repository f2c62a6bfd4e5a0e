/-
 The statement of trace's parse that reads a text's first three words, in whatever order: by an invariant. Printed by gen_ti.py.
-/
import Derived.Test.YtjldbbcdhdfliaaGreatDoorTgTh
import Derived.Test.YtjldbbcdhdfliaaGreatDoorAppM
namespace Go.Proofs.YtjldbbcdhdfliaaGreatDoor
open Go.RowKit Go.Sort

def P4K : List Key := [(some 21, .move (.tmp 5), none),
  (some 22, .indexAddr 75 (.tmp 21) (.const (.int .i64 0)), none),
  (some 23, .load 9 (.tmp 22), none),
  (some 24, .call { callee := .value (.func 75), args := #[.tmp 23], argTypes := #[9] }, none),
  (some 25, .move (.tmp 5), none),
  (some 26, .indexAddr 75 (.tmp 25) (.const (.int .i64 1)), none),
  (some 27, .load 9 (.tmp 26), none),
  (some 28, .call { callee := .value (.func 75), args := #[.tmp 27], argTypes := #[9] }, none),
  (some 29, .move (.tmp 0), none),
  (some 30, .move (.tmp 5), none),
  (some 31, .indexAddr 75 (.tmp 30) (.const (.int .i64 2)), none),
  (some 32, .load 9 (.tmp 31), none),
  (some 33, .call { callee := .value (.func 76), args := #[.tmp 29, .tmp 32], argTypes := #[78, 9] }, none),
  (some 34, .build 29 #[(1, .tmp 24), (2, .tmp 28), (0, .tmp 33)], none),
  (some 6, .alloc 29, none),
  (none, .store 29 (.tmp 6) (.tmp 34), none)]
def P4E : List (List Nat) := [[], [0], [1], [2], [], [4], [5], [6, 3], [], [], [9], [10], [8, 11, 7], [3, 7, 12], [], [14, 13, 12, 0, 1, 2, 3, 4, 5, 6, 7, 8, 9, 10, 11, 12, 13, 14]]
def P4T (b pb np : Nat) (p0 p1 p2 : ByteArray) (n0 n1 k : Nat) : List (Nat × Nat × Value) := [(0, 21, .slice (some ⟨pb, 0, none⟩) np np), (1, 22, .pointer (some ⟨pb, 0, none⟩)), (2, 23, .string p0), (3, 24, .int .i64 (n0 : Nat)), (4, 25, .slice (some ⟨pb, 0, none⟩) np np), (5, 26, .pointer (some ⟨pb, 1, none⟩)), (6, 27, .string p1), (7, 28, .int .i64 (n1 : Nat)), (8, 29, .pointer (some ⟨b, 0, none⟩)), (9, 30, .slice (some ⟨pb, 0, none⟩) np np), (10, 31, .pointer (some ⟨pb, 2, none⟩)), (11, 32, .string p2), (12, 33, .int .i64 (k : Nat)), (13, 34, .agg #[.int .i64 (k : Nat), .int .i64 (n0 : Nat), .int .i64 (n1 : Nat), .int .i64 0, .int .i64 0, .int .i64 0, .int .i64 0, .int .i64 0, .int .i64 0, .slice none 0 0])]
/-- What stands after some of the operations. -/
structure P4I (a0 : Act) (b mb pb np : Nat) (p0 p1 p2 : ByteArray) (n0 n1 k : Nat) (rest : List ByteArray) (w : World) (D : Nat → Bool) (a : Act) (W : World) : Prop where
 fr : Upd a0 a 6 29
 sl : Slots (P4T b pb np p0 p1 p2 n0 n1 k) D a
 ps : PS b mb pb (p0 :: p1 :: p2 :: rest) w W
 d3 : D 3 = true → numL p0.data.toList = some n0
 d7 : D 7 = true → numL p1.data.toList = some n1
 d12 : D 12 = true → kindE p2 = some k
 e15 : D 15 = true → D 14 = true
 al : D 14 = true → ∃ xb, a.eval (.tmp 6) = .pointer (some ⟨xb, 0, none⟩) ∧ pb < xb ∧ (D 15 = false → W.heap[xb]? = some (.cells #[.int .i64 0, .int .i64 0, .int .i64 0, .int .i64 0, .int .i64 0, .int .i64 0, .int .i64 0, .int .i64 0, .int .i64 0, .slice none 0 0] 29 (0, 0))) ∧ (D 15 = true → W.heap[xb]? = some (.cells #[.int .i64 (k : Nat), .int .i64 (n0 : Nat), .int .i64 (n1 : Nat), .int .i64 0, .int .i64 0, .int .i64 0, .int .i64 0, .int .i64 0, .int .i64 0, .slice none 0 0] 29 (0, 0)))
section
variable {a0 a : Act} {b mb pb np : Nat} {p0 p1 p2 : ByteArray} {n0 n1 k : Nat} {rest : List ByteArray} {w W W' : World} {D : Nat → Bool}
/-- An operation other than the last two. -/
theorem P4I.step (h : P4I a0 b mb pb np p0 p1 p2 n0 n1 k rest w D a W) (i t : Nat) (v : Value) (hi : i < 14) (h1 : 21 ≤ t) (h2 : t < 35) (hs : t < a.tmps.size) (hT : ∀ x ∈ P4T b pb np p0 p1 p2 n0 n1 k, (x.1 = i → x.2.1 = t ∧ x.2.2 = v) ∧ (x.1 ≠ i → x.2.1 ≠ t)) (hb : Below W.heap.size W W')
  (g3 : i = 3 → numL p0.data.toList = some n0) (g7 : i = 7 → numL p1.data.toList = some n1) (g12 : i = 12 → kindE p2 = some k) : P4I a0 b mb pb np p0 p1 p2 n0 n1 k rest w (upd D i) (a.put (some t) v) W' := by
 refine ⟨h.fr.put (by omega) (by omega) v, h.sl.put i t v hs hT, h.ps.below hb, ?_, ?_, ?_, (by rw [upd_ne D (by omega : 15 ≠ i), upd_ne D (by omega : 14 ≠ i)]; exact h.e15), ?_⟩
 ·intro hd
  by_cases e : 3 = i
  ·exact g3 e.symm
  ·exact h.d3 (by rwa [upd_ne D e] at hd)
 ·intro hd
  by_cases e : 7 = i
  ·exact g7 e.symm
  ·exact h.d7 (by rwa [upd_ne D e] at hd)
 ·intro hd
  by_cases e : 12 = i
  ·exact g12 e.symm
  ·exact h.d12 (by rwa [upd_ne D e] at hd)
 ·intro hd
  rw [upd_ne D (by omega : 14 ≠ i)] at hd
  rw [upd_ne D (by omega : 15 ≠ i)]
  obtain ⟨xb, z1, z2, z3, z4⟩ := h.al hd
  refine ⟨xb, by rw [eval_put_ne (by omega)]; exact z1, z2, fun e => (hb.block _ (lt_of_heap (z3 e))).trans (z3 e), fun e => (hb.block _ (lt_of_heap (z4 e))).trans (z4 e)⟩
end
theorem bel_refl4 (w : World) : Below w.heap.size w w := Below.refl _ _
theorem set10 {w : World} {g : Nat} {t : TypeId} {c0 c1 c2 c3 c4 c5 c6 c7 c8 c9 : Value} (h : w.heap[g]? = some (.cells #[c0, c1, c2, c3, c4, c5, c6, c7, c8, c9] t (0, 0))) (v0 v1 v2 v3 v4 v5 v6 v7 v8 v9 : Value) :
  ((((((((((w.setCell ⟨g, 0, none⟩ v0).setCell ⟨g, 1, none⟩ v1).setCell ⟨g, 2, none⟩ v2).setCell ⟨g, 3, none⟩ v3).setCell ⟨g, 4, none⟩ v4).setCell ⟨g, 5, none⟩ v5).setCell ⟨g, 6, none⟩ v6).setCell ⟨g, 7, none⟩ v7).setCell ⟨g, 8, none⟩ v8).setCell ⟨g, 9, none⟩ v9).heap[g]? = some (.cells #[v0, v1, v2, v3, v4, v5, v6, v7, v8, v9] t (0, 0)) := by
 simp [World.setCell, Array.getElem?_modify, h]
set_option maxRecDepth 100000 in
set_option maxHeartbeats 4000000 in
theorem p4_region {ops : Array Oper} {Q : Exit → Act → World → Prop} {a0 : Act} {b mb pb np id : Nat} {p0 p1 p2 : ByteArray} {n0 n1 k : Nat} {rest : List ByteArray} {w w0 : World} (hsh : Shape ops P4K P4E) (hsz : 35 ≤ a0.tmps.size) (h5 : a0.eval (.tmp 5) = .slice (some ⟨pb, 0, none⟩) np np) (h0 : a0.eval (.tmp 0) = .pointer (some ⟨b, 0, none⟩)) (hnp : 3 ≤ np) (hz0 : p0.size ≤ 10000000) (hz1 : p1.size ≤ 10000000)
  (e0 : ∀ n, numL p0.data.toList = some n → n = n0) (e1 : ∀ n, numL p1.data.toList = some n → n = n1) (e2 : ∀ n, kindE p2 = some n → n = k) (hps : PS b mb pb (p0 :: p1 :: p2 :: rest) w w0)
  (hQ : ∀ a W xb, Upd a0 a 6 29 → a.eval (.tmp 6) = .pointer (some ⟨xb, 0, none⟩) → pb < xb → numL p0.data.toList = some n0 → numL p1.data.toList = some n1 → kindE p2 = some k → PS b mb pb (p0 :: p1 :: p2 :: rest) w W → W.heap[xb]? = some (.cells #[.int .i64 (k : Nat), .int .i64 (n0 : Nat), .int .i64 (n1 : Nat), .int .i64 0, .int .i64 0, .int .i64 0, .int .i64 0, .int .i64 0, .int .i64 0, .slice none 0 0] 29 (0, 0)) → Q .normal a W)
  (hF : ∀ a W, a.defers = a0.defers → (numL p0.data.toList = none ∨ numL p1.data.toList = none ∨ kindE p2 = none) → PS b mb pb (p0 :: p1 :: p2 :: rest) w W → Q (.panic [{ v := .iface 119 (.agg #[.int .i64 230]), recovered := false }]) a W) : (Code.region id ops true).wp Tryz.prog Q a0 w0 := by
 refine wp_region_inv (by kernel_rfl) (hsh.edged (by decide)) (P4I a0 b mb pb np p0 p1 p2 n0 n1 k rest w) ?_ ?_ ?_
 ·exact ⟨Upd.refl _ _ _, fun x _ h => by simp at h, hps.drew, fun h => by simp at h, fun h => by simp at h, fun h => by simp at h, fun h => by simp at h, fun h => by simp at h⟩
 ·rintro D a wr j o hI ho hD hdep
  have hk := hsh.key_at ho
  have hasz : a.tmps.size = a0.tmps.size := hI.fr.size
  have hj : j < 16 := by
   rcases Nat.lt_or_ge j 16 with hlt | hge
   ·exact hlt
   ·rw [List.getElem?_eq_none (by simpa [P4K] using hge)] at hk; cases hk
  have hdp := fun es => hsh.dep_at ho hdep (es := es)
  clear hdep
  have hcases : j = 0 ∨ j = 1 ∨ j = 2 ∨ j = 3 ∨ j = 4 ∨ j = 5 ∨ j = 6 ∨ j = 7 ∨ j = 8 ∨ j = 9 ∨ j = 10 ∨ j = 11 ∨ j = 12 ∨ j = 13 ∨ j = 14 ∨ j = 15 := by omega
  rcases hcases with rfl | rfl | rfl | rfl | rfl | rfl | rfl | rfl | rfl | rfl | rfl | rfl | rfl | rfl | rfl | rfl
  ·
   obtain ⟨odst, oop, oty, opos, oaft, ogd⟩ := o
   simp only [key, P4K, List.getElem?_cons_zero, Option.some.injEq, Prod.mk.injEq] at hk
   obtain ⟨rfl, rfl, rfl⟩ := hk
   exact wpOp_of ho rfl (op_move rfl ((hI.fr.eval (by omega)).trans h5) (hI.step 0 21 (.slice (some ⟨pb, 0, none⟩) np np) (by omega) (by omega) (by omega) (by omega) (by simp [P4T]) (bel_refl4 _) (by omega) (by omega) (by omega)))
  ·
   obtain ⟨odst, oop, oty, opos, oaft, ogd⟩ := o
   simp only [key, P4K, List.getElem?_cons_zero, List.getElem?_cons_succ, Option.some.injEq, Prod.mk.injEq] at hk
   obtain ⟨rfl, rfl, rfl⟩ := hk
   have p0_ : D 0 = true := hdp _ rfl 0 (by decide)
   have s21 : a.eval (.tmp 21) = .slice (some ⟨pb, 0, none⟩) np np := hI.sl (0, 21, .slice (some ⟨pb, 0, none⟩) np np) (by simp [P4T]) p0_
   refine wpOp_of ho rfl (op_run (n := .value (.pointer (some ⟨pb, 0, none⟩))) (w' := wr) ?_ (hI.step 1 22 (.pointer (some ⟨pb, 0, none⟩)) (by omega) (by omega) (by omega) (by omega) (by simp [P4T]) (bel_refl4 _) (by omega) (by omega) (by omega)))
   have ec : ∀ v, a.eval (.const v) = v := fun _ => rfl
   generalize a.eval = ev at *
   unfold execOp
   have q1 : (0 : Int) < (np : Int) := by omega
   have q2 : 0 < np := by omega
   simp [go_sem, s21, ec, q2]
  ·
   obtain ⟨odst, oop, oty, opos, oaft, ogd⟩ := o
   simp only [key, P4K, List.getElem?_cons_zero, List.getElem?_cons_succ, Option.some.injEq, Prod.mk.injEq] at hk
   obtain ⟨rfl, rfl, rfl⟩ := hk
   have p1_ : D 1 = true := hdp _ rfl 1 (by decide)
   have s22 : a.eval (.tmp 22) = .pointer (some ⟨pb, 0, none⟩) := hI.sl (1, 22, .pointer (some ⟨pb, 0, none⟩)) (by simp [P4T]) p1_
   have hc := hI.ps.three
   refine wpOp_of ho rfl (op_load1 rfl s22 (by kernel_rfl) hc.2.1 (hI.step 2 23 (.string p0) (by omega) (by omega) (by omega) (by omega) (by simp [P4T]) (bel_refl4 _) (by omega) (by omega) (by omega)))
  ·
   obtain ⟨odst, oop, oty, opos, oaft, ogd⟩ := o
   simp only [key, P4K, List.getElem?_cons_zero, List.getElem?_cons_succ, Option.some.injEq, Prod.mk.injEq] at hk
   obtain ⟨rfl, rfl, rfl⟩ := hk
   have p2_ : D 2 = true := hdp _ rfl 2 (by decide)
   have s23 : a.eval (.tmp 23) = .string p0 := hI.sl (2, 23, .string p0) (by simp [P4T]) p2_
   refine wpOp_of ho rfl (op_run (n := .enter 75 #[.string p0]) (w' := wr) ?_ ?_)
   ·have e1 : a.eval (.func 75) = .func (.func 75) #[] #[] := rfl
    generalize a.eval = ev at *
    unfold execOp
    simp [go_sem, s23, e1]
   ·rcases hn : numL p0.data.toList with _ | m
    ·refine (tnumber_any p0 hz0 wr hI.ps.env).mono ?_
     rw [hn]
     rintro e w1 ⟨rfl, hb⟩
     exact hF a w1 hI.fr.defers (.inl hn) (hI.ps.below hb)
    ·obtain rfl := e0 m hn
     refine (tnumber_any p0 hz0 wr hI.ps.env).mono ?_
     rw [hn]
     rintro e w1 ⟨rfl, hb⟩
     exact hI.step 3 24 (.int .i64 (m : Nat)) (by omega) (by omega) (by omega) (by omega) (by simp [P4T]) hb (fun _ => hn) (by omega) (by omega)
  ·
   obtain ⟨odst, oop, oty, opos, oaft, ogd⟩ := o
   simp only [key, P4K, List.getElem?_cons_zero, List.getElem?_cons_succ, Option.some.injEq, Prod.mk.injEq] at hk
   obtain ⟨rfl, rfl, rfl⟩ := hk
   exact wpOp_of ho rfl (op_move rfl ((hI.fr.eval (by omega)).trans h5) (hI.step 4 25 (.slice (some ⟨pb, 0, none⟩) np np) (by omega) (by omega) (by omega) (by omega) (by simp [P4T]) (bel_refl4 _) (by omega) (by omega) (by omega)))
  ·
   obtain ⟨odst, oop, oty, opos, oaft, ogd⟩ := o
   simp only [key, P4K, List.getElem?_cons_zero, List.getElem?_cons_succ, Option.some.injEq, Prod.mk.injEq] at hk
   obtain ⟨rfl, rfl, rfl⟩ := hk
   have p4_ : D 4 = true := hdp _ rfl 4 (by decide)
   have s25 : a.eval (.tmp 25) = .slice (some ⟨pb, 0, none⟩) np np := hI.sl (4, 25, .slice (some ⟨pb, 0, none⟩) np np) (by simp [P4T]) p4_
   refine wpOp_of ho rfl (op_run (n := .value (.pointer (some ⟨pb, 1, none⟩))) (w' := wr) ?_ (hI.step 5 26 (.pointer (some ⟨pb, 1, none⟩)) (by omega) (by omega) (by omega) (by omega) (by simp [P4T]) (bel_refl4 _) (by omega) (by omega) (by omega)))
   have ec : ∀ v, a.eval (.const v) = v := fun _ => rfl
   generalize a.eval = ev at *
   unfold execOp
   have q1 : (1 : Int) < (np : Int) := by omega
   have q2 : 1 < np := by omega
   simp [go_sem, s25, ec, q1]
  ·
   obtain ⟨odst, oop, oty, opos, oaft, ogd⟩ := o
   simp only [key, P4K, List.getElem?_cons_zero, List.getElem?_cons_succ, Option.some.injEq, Prod.mk.injEq] at hk
   obtain ⟨rfl, rfl, rfl⟩ := hk
   have p5_ : D 5 = true := hdp _ rfl 5 (by decide)
   have s26 : a.eval (.tmp 26) = .pointer (some ⟨pb, 1, none⟩) := hI.sl (5, 26, .pointer (some ⟨pb, 1, none⟩)) (by simp [P4T]) p5_
   have hc := hI.ps.three
   refine wpOp_of ho rfl (op_load1 rfl s26 (by kernel_rfl) hc.2.2.1 (hI.step 6 27 (.string p1) (by omega) (by omega) (by omega) (by omega) (by simp [P4T]) (bel_refl4 _) (by omega) (by omega) (by omega)))
  ·
   obtain ⟨odst, oop, oty, opos, oaft, ogd⟩ := o
   simp only [key, P4K, List.getElem?_cons_zero, List.getElem?_cons_succ, Option.some.injEq, Prod.mk.injEq] at hk
   obtain ⟨rfl, rfl, rfl⟩ := hk
   have p3_ : D 3 = true := hdp _ rfl 3 (by decide)
   have s24 : a.eval (.tmp 24) = .int .i64 (n0 : Nat) := hI.sl (3, 24, .int .i64 (n0 : Nat)) (by simp [P4T]) p3_
   have p6_ : D 6 = true := hdp _ rfl 6 (by decide)
   have s27 : a.eval (.tmp 27) = .string p1 := hI.sl (6, 27, .string p1) (by simp [P4T]) p6_
   refine wpOp_of ho rfl (op_run (n := .enter 75 #[.string p1]) (w' := wr) ?_ ?_)
   ·have e1 : a.eval (.func 75) = .func (.func 75) #[] #[] := rfl
    generalize a.eval = ev at *
    unfold execOp
    simp [go_sem, s27, e1]
   ·rcases hn : numL p1.data.toList with _ | m
    ·refine (tnumber_any p1 hz1 wr hI.ps.env).mono ?_
     rw [hn]
     rintro e w1 ⟨rfl, hb⟩
     exact hF a w1 hI.fr.defers (.inr (.inl hn)) (hI.ps.below hb)
    ·obtain rfl := e1 m hn
     refine (tnumber_any p1 hz1 wr hI.ps.env).mono ?_
     rw [hn]
     rintro e w1 ⟨rfl, hb⟩
     exact hI.step 7 28 (.int .i64 (m : Nat)) (by omega) (by omega) (by omega) (by omega) (by simp [P4T]) hb (by omega) (fun _ => hn) (by omega)
  ·
   obtain ⟨odst, oop, oty, opos, oaft, ogd⟩ := o
   simp only [key, P4K, List.getElem?_cons_zero, List.getElem?_cons_succ, Option.some.injEq, Prod.mk.injEq] at hk
   obtain ⟨rfl, rfl, rfl⟩ := hk
   exact wpOp_of ho rfl (op_move rfl ((hI.fr.eval (by omega)).trans h0) (hI.step 8 29 (.pointer (some ⟨b, 0, none⟩)) (by omega) (by omega) (by omega) (by omega) (by simp [P4T]) (bel_refl4 _) (by omega) (by omega) (by omega)))
  ·
   obtain ⟨odst, oop, oty, opos, oaft, ogd⟩ := o
   simp only [key, P4K, List.getElem?_cons_zero, List.getElem?_cons_succ, Option.some.injEq, Prod.mk.injEq] at hk
   obtain ⟨rfl, rfl, rfl⟩ := hk
   exact wpOp_of ho rfl (op_move rfl ((hI.fr.eval (by omega)).trans h5) (hI.step 9 30 (.slice (some ⟨pb, 0, none⟩) np np) (by omega) (by omega) (by omega) (by omega) (by simp [P4T]) (bel_refl4 _) (by omega) (by omega) (by omega)))
  ·
   obtain ⟨odst, oop, oty, opos, oaft, ogd⟩ := o
   simp only [key, P4K, List.getElem?_cons_zero, List.getElem?_cons_succ, Option.some.injEq, Prod.mk.injEq] at hk
   obtain ⟨rfl, rfl, rfl⟩ := hk
   have p9_ : D 9 = true := hdp _ rfl 9 (by decide)
   have s30 : a.eval (.tmp 30) = .slice (some ⟨pb, 0, none⟩) np np := hI.sl (9, 30, .slice (some ⟨pb, 0, none⟩) np np) (by simp [P4T]) p9_
   refine wpOp_of ho rfl (op_run (n := .value (.pointer (some ⟨pb, 2, none⟩))) (w' := wr) ?_ (hI.step 10 31 (.pointer (some ⟨pb, 2, none⟩)) (by omega) (by omega) (by omega) (by omega) (by simp [P4T]) (bel_refl4 _) (by omega) (by omega) (by omega)))
   have ec : ∀ v, a.eval (.const v) = v := fun _ => rfl
   generalize a.eval = ev at *
   unfold execOp
   have q1 : (2 : Int) < (np : Int) := by omega
   have q2 : 2 < np := by omega
   simp [go_sem, s30, ec, q1]
  ·
   obtain ⟨odst, oop, oty, opos, oaft, ogd⟩ := o
   simp only [key, P4K, List.getElem?_cons_zero, List.getElem?_cons_succ, Option.some.injEq, Prod.mk.injEq] at hk
   obtain ⟨rfl, rfl, rfl⟩ := hk
   have p10_ : D 10 = true := hdp _ rfl 10 (by decide)
   have s31 : a.eval (.tmp 31) = .pointer (some ⟨pb, 2, none⟩) := hI.sl (10, 31, .pointer (some ⟨pb, 2, none⟩)) (by simp [P4T]) p10_
   have hc := hI.ps.three
   refine wpOp_of ho rfl (op_load1 rfl s31 (by kernel_rfl) hc.2.2.2 (hI.step 11 32 (.string p2) (by omega) (by omega) (by omega) (by omega) (by simp [P4T]) (bel_refl4 _) (by omega) (by omega) (by omega)))
  ·
   obtain ⟨odst, oop, oty, opos, oaft, ogd⟩ := o
   simp only [key, P4K, List.getElem?_cons_zero, List.getElem?_cons_succ, Option.some.injEq, Prod.mk.injEq] at hk
   obtain ⟨rfl, rfl, rfl⟩ := hk
   have p7_ : D 7 = true := hdp _ rfl 7 (by decide)
   have s28 : a.eval (.tmp 28) = .int .i64 (n1 : Nat) := hI.sl (7, 28, .int .i64 (n1 : Nat)) (by simp [P4T]) p7_
   have p8_ : D 8 = true := hdp _ rfl 8 (by decide)
   have s29 : a.eval (.tmp 29) = .pointer (some ⟨b, 0, none⟩) := hI.sl (8, 29, .pointer (some ⟨b, 0, none⟩)) (by simp [P4T]) p8_
   have p11_ : D 11 = true := hdp _ rfl 11 (by decide)
   have s32 : a.eval (.tmp 32) = .string p2 := hI.sl (11, 32, .string p2) (by simp [P4T]) p11_
   refine wpOp_of ho rfl (op_run (n := .enter 76 #[.pointer (some ⟨b, 0, none⟩), .string p2]) (w' := wr) ?_ ?_)
   ·have e1 : a.eval (.func 76) = .func (.func 76) #[] #[] := rfl
    generalize a.eval = ev at *
    unfold execOp
    simp [go_sem, s29, s32, e1]
   ·rcases hn : kindE p2 with _ | m
    ·refine (kind_any b mb p2 wr hI.ps.tt).mono ?_
     rw [hn]
     rintro e w1 ⟨rfl, hb⟩
     exact hF a w1 hI.fr.defers (.inr (.inr hn)) (hI.ps.below hb)
    ·obtain rfl := e2 m hn
     refine (kind_any b mb p2 wr hI.ps.tt).mono ?_
     rw [hn]
     rintro e w1 ⟨rfl, hb⟩
     exact hI.step 12 33 (.int .i64 (m : Nat)) (by omega) (by omega) (by omega) (by omega) (by simp [P4T]) hb (by omega) (by omega) (fun _ => hn)
  ·
   obtain ⟨odst, oop, oty, opos, oaft, ogd⟩ := o
   simp only [key, P4K, List.getElem?_cons_zero, List.getElem?_cons_succ, Option.some.injEq, Prod.mk.injEq] at hk
   obtain ⟨rfl, rfl, rfl⟩ := hk
   have p3_ : D 3 = true := hdp _ rfl 3 (by decide)
   have s24 : a.eval (.tmp 24) = .int .i64 (n0 : Nat) := hI.sl (3, 24, .int .i64 (n0 : Nat)) (by simp [P4T]) p3_
   have p7_ : D 7 = true := hdp _ rfl 7 (by decide)
   have s28 : a.eval (.tmp 28) = .int .i64 (n1 : Nat) := hI.sl (7, 28, .int .i64 (n1 : Nat)) (by simp [P4T]) p7_
   have p12_ : D 12 = true := hdp _ rfl 12 (by decide)
   have s33 : a.eval (.tmp 33) = .int .i64 (k : Nat) := hI.sl (12, 33, .int .i64 (k : Nat)) (by simp [P4T]) p12_
   refine wpOp_of ho rfl (op_run (n := .value (.agg #[.int .i64 (k : Nat), .int .i64 (n0 : Nat), .int .i64 (n1 : Nat), .int .i64 0, .int .i64 0, .int .i64 0, .int .i64 0, .int .i64 0, .int .i64 0, .slice none 0 0])) (w' := wr) ?_ (hI.step 13 34 (.agg #[.int .i64 (k : Nat), .int .i64 (n0 : Nat), .int .i64 (n1 : Nat), .int .i64 0, .int .i64 0, .int .i64 0, .int .i64 0, .int .i64 0, .int .i64 0, .slice none 0 0]) (by omega) (by omega) (by omega) (by omega) (by simp [P4T]) (bel_refl4 _) (by omega) (by omega) (by omega)))
   generalize a.eval = ev at *
   unfold execOp
   simp [go_sem, s24, s28, s33]
  ·
   obtain ⟨odst, oop, oty, opos, oaft, ogd⟩ := o
   simp only [key, P4K, List.getElem?_cons_zero, List.getElem?_cons_succ, Option.some.injEq, Prod.mk.injEq] at hk
   obtain ⟨rfl, rfl, rfl⟩ := hk
   refine wpOp_of ho rfl (op_run (n := .value (.pointer (some ⟨wr.heap.size, 0, none⟩))) (w' := wr.alloc (.cells #[.int .i64 0, .int .i64 0, .int .i64 0, .int .i64 0, .int .i64 0, .int .i64 0, .int .i64 0, .int .i64 0, .int .i64 0, .slice none 0 0] 29)) ?_ ?_)
   ·generalize a.eval = ev at *
    unfold execOp
    simp [go_sem]
   ·have hb := below_alloc wr (.cells #[.int .i64 0, .int .i64 0, .int .i64 0, .int .i64 0, .int .i64 0, .int .i64 0, .int .i64 0, .int .i64 0, .int .i64 0, .slice none 0 0] 29)
    refine ⟨hI.fr.put (by omega) (by omega) _, ?_, hI.ps.below hb, fun h => hI.d3 (by rwa [upd_ne D (by decide)] at h), fun h => hI.d7 (by rwa [upd_ne D (by decide)] at h), fun h => hI.d12 (by rwa [upd_ne D (by decide)] at h), fun _ => by simp [upd], fun _ => ?_⟩
    ·exact hI.sl.put 14 6 _ (by omega) (by simp [P4T])
    ·have h15 : D 15 = false := by
      cases h : D 15 with
      | false => rfl
      | true => exact absurd hD (by simp [hI.e15 h])
     refine ⟨wr.heap.size, eval_put_same (by omega) _, lt_of_heap hI.ps.pp, fun _ => heap_alloc_new _ _, fun h => ?_⟩
     rw [upd_ne D (by decide), h15] at h
     cases h
  ·
   obtain ⟨odst, oop, oty, opos, oaft, ogd⟩ := o
   simp only [key, P4K, List.getElem?_cons_zero, List.getElem?_cons_succ, Option.some.injEq, Prod.mk.injEq] at hk
   obtain ⟨rfl, rfl, rfl⟩ := hk
   have p13_ : D 13 = true := hdp _ rfl 13 (by decide)
   have s34 : a.eval (.tmp 34) = .agg #[.int .i64 (k : Nat), .int .i64 (n0 : Nat), .int .i64 (n1 : Nat), .int .i64 0, .int .i64 0, .int .i64 0, .int .i64 0, .int .i64 0, .int .i64 0, .slice none 0 0] := hI.sl (13, 34, .agg #[.int .i64 (k : Nat), .int .i64 (n0 : Nat), .int .i64 (n1 : Nat), .int .i64 0, .int .i64 0, .int .i64 0, .int .i64 0, .int .i64 0, .int .i64 0, .slice none 0 0]) (by simp [P4T]) p13_
   have p14_ : D 14 = true := hdp _ rfl 14 (by decide)
   obtain ⟨xb, z1, z2, z3, _⟩ := hI.al p14_
   have hx := z3 hD
   have c0 : wr.cell? ⟨xb, 0, none⟩ = some (.int .i64 0) := by simp [World.cell?, hx]
   have c1 : wr.cell? ⟨xb, 1, none⟩ = some (.int .i64 0) := by simp [World.cell?, hx]
   have c2 : wr.cell? ⟨xb, 2, none⟩ = some (.int .i64 0) := by simp [World.cell?, hx]
   have c3 : wr.cell? ⟨xb, 3, none⟩ = some (.int .i64 0) := by simp [World.cell?, hx]
   have c4 : wr.cell? ⟨xb, 4, none⟩ = some (.int .i64 0) := by simp [World.cell?, hx]
   have c5 : wr.cell? ⟨xb, 5, none⟩ = some (.int .i64 0) := by simp [World.cell?, hx]
   have c6 : wr.cell? ⟨xb, 6, none⟩ = some (.int .i64 0) := by simp [World.cell?, hx]
   have c7 : wr.cell? ⟨xb, 7, none⟩ = some (.int .i64 0) := by simp [World.cell?, hx]
   have c8 : wr.cell? ⟨xb, 8, none⟩ = some (.int .i64 0) := by simp [World.cell?, hx]
   have c9 : wr.cell? ⟨xb, 9, none⟩ = some (.slice none 0 0) := by simp [World.cell?, hx]
   have hf : ∀ i, wr.frozen? ⟨xb, i, none⟩ = false := fun i => by simp [World.frozen?, hx]
   refine wpOp_of ho rfl (op_run (n := .skip) (w' := ((((((((((wr.setCell ⟨xb, 0, none⟩ (.int .i64 (k : Nat))).setCell ⟨xb, 1, none⟩ (.int .i64 (n0 : Nat))).setCell ⟨xb, 2, none⟩ (.int .i64 (n1 : Nat))).setCell ⟨xb, 3, none⟩ (.int .i64 0)).setCell ⟨xb, 4, none⟩ (.int .i64 0)).setCell ⟨xb, 5, none⟩ (.int .i64 0)).setCell ⟨xb, 6, none⟩ (.int .i64 0)).setCell ⟨xb, 7, none⟩ (.int .i64 0)).setCell ⟨xb, 8, none⟩ (.int .i64 0)).setCell ⟨xb, 9, none⟩ (.slice none 0 0))) ?_ ?_)
   ·generalize a.eval = ev at *
    unfold execOp
    simp [go_sem, z1, s34, c0, c1, c2, c3, c4, c5, c6, c7, c8, c9, hf]
   ·have hb : Below xb wr ((((((((((wr.setCell ⟨xb, 0, none⟩ (.int .i64 (k : Nat))).setCell ⟨xb, 1, none⟩ (.int .i64 (n0 : Nat))).setCell ⟨xb, 2, none⟩ (.int .i64 (n1 : Nat))).setCell ⟨xb, 3, none⟩ (.int .i64 0)).setCell ⟨xb, 4, none⟩ (.int .i64 0)).setCell ⟨xb, 5, none⟩ (.int .i64 0)).setCell ⟨xb, 6, none⟩ (.int .i64 0)).setCell ⟨xb, 7, none⟩ (.int .i64 0)).setCell ⟨xb, 8, none⟩ (.int .i64 0)).setCell ⟨xb, 9, none⟩ (.slice none 0 0)) := ((((((((((Below.refl _ _).setCell (p := ⟨xb, 0, none⟩) (Nat.le_refl _) _).setCell (p := ⟨xb, 1, none⟩) (Nat.le_refl _) _).setCell (p := ⟨xb, 2, none⟩) (Nat.le_refl _) _).setCell (p := ⟨xb, 3, none⟩) (Nat.le_refl _) _).setCell (p := ⟨xb, 4, none⟩) (Nat.le_refl _) _).setCell (p := ⟨xb, 5, none⟩) (Nat.le_refl _) _).setCell (p := ⟨xb, 6, none⟩) (Nat.le_refl _) _).setCell (p := ⟨xb, 7, none⟩) (Nat.le_refl _) _).setCell (p := ⟨xb, 8, none⟩) (Nat.le_refl _) _).setCell (p := ⟨xb, 9, none⟩) (Nat.le_refl _) _
    refine ⟨hI.fr, hI.sl.done 15 (by simp [P4T]), hI.ps.belowB hb z2, fun h => hI.d3 (by rwa [upd_ne D (by decide)] at h), fun h => hI.d7 (by rwa [upd_ne D (by decide)] at h), fun h => hI.d12 (by rwa [upd_ne D (by decide)] at h), fun _ => by rw [upd_ne D (by decide)]; exact p14_, fun _ => ?_⟩
    refine ⟨xb, z1, z2, fun h => ?_, fun _ => set10 hx _ _ _ _ _ _ _ _ _ _⟩
    simp [upd] at h
 ·intro D a W hI hall
  obtain ⟨xb, z1, z2, _, z4⟩ := hI.al (hall 14 (by rw [hsh.size]; decide))
  exact hQ a W xb hI.fr z1 z2 (hI.d3 (hall 3 (by rw [hsh.size]; decide))) (hI.d7 (hall 7 (by rw [hsh.size]; decide))) (hI.d12 (hall 12 (by rw [hsh.size]; decide))) hI.ps (z4 (hall 15 (by rw [hsh.size]; decide)))
end Go.Proofs.YtjldbbcdhdfliaaGreatDoor
