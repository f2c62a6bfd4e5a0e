/-
  The statement of works that compares everything, in whatever order: by an invariant. Printed by gen_wk6.py.
-/
import Derived.Test.YtkahboomahhdoaaDoorWk3
namespace Go.Proofs.YtkahboomahhdoaaDoor
open Go.RowKit Go.Shelf Go.Sort

def R6K : List Key := [(some 50, Op.move (Operand.tmp 3), none),
    (some 51, Op.call { callee := Callee.value (Operand.func 13), args := #[Operand.tmp 50], argTypes := #[27] }, none),
    (some 52, Op.move (Operand.tmp 5), none),
    (some 53, Op.call { callee := Callee.value (Operand.func 13), args := #[Operand.tmp 52], argTypes := #[27] }, none),
    (some 54, Op.binOp BinOp.add 3 (Operand.tmp 51) (Operand.tmp 53) 3, none),
    (some 55, Op.move (Operand.tmp 7), none),
    (some 56, Op.call { callee := Callee.value (Operand.func 13), args := #[Operand.tmp 55], argTypes := #[27] }, none),
    (some 57, Op.binOp BinOp.add 3 (Operand.tmp 54) (Operand.tmp 56) 3, none),
    (some 58, Op.move (Operand.tmp 10), none),
    (some 59, Op.call { callee := Callee.value (Operand.func 13), args := #[Operand.tmp 58], argTypes := #[27] }, none),
    (some 60, Op.binOp BinOp.add 3 (Operand.tmp 57) (Operand.tmp 59) 3, none),
    (some 61, Op.binOp BinOp.neq 3 (Operand.tmp 60) (Operand.const (Value.int IntKind.i64 0)) 3, none),
    (some 62, Op.move (Operand.tmp 61), none),
    (some 63, Op.move (Operand.tmp 2), some (12, false)),
    (some 64, Op.binOp BinOp.neq 9 (Operand.tmp 63) (Operand.const (Value.string { data := #[112, 97, 105, 114, 40, 45, 53, 44, 117, 110, 105, 116, 41] })) 9, some (12, false)),
    (some 65, Op.pick (Operand.tmp 62) (Operand.const (Value.bool true)) (Operand.tmp 64), none),
    (some 66, Op.move (Operand.tmp 65), none),
    (some 67, Op.move (Operand.tmp 4), some (16, false)),
    (some 68, Op.binOp BinOp.neq 9 (Operand.tmp 67) (Operand.const (Value.string { data := #[119, 114, 97, 112, 40, 55, 44, 114, 101, 99, 118, 40, 99, 104, 97, 110, 40, 51, 41, 41, 44, 49, 41] })) 9, some (16, false)),
    (some 69, Op.pick (Operand.tmp 66) (Operand.const (Value.bool true)) (Operand.tmp 68), none),
    (some 70, Op.move (Operand.tmp 69), none),
    (some 71, Op.move (Operand.tmp 6), some (20, false)),
    (some 72, Op.binOp BinOp.neq 9 (Operand.tmp 71) (Operand.const (Value.string { data := #[99, 104, 111, 111, 115, 101, 40, 41] })) 9, some (20, false)),
    (some 73, Op.pick (Operand.tmp 70) (Operand.const (Value.bool true)) (Operand.tmp 72), none),
    (some 74, Op.move (Operand.tmp 73), none),
    (some 75, Op.move (Operand.tmp 9), some (24, false)),
    (some 76, Op.binOp BinOp.neq 3 (Operand.tmp 75) (Operand.const (Value.int IntKind.i64 0)) 3, some (24, false)),
    (some 77, Op.pick (Operand.tmp 74) (Operand.const (Value.bool true)) (Operand.tmp 76), none),
    (some 78, Op.move (Operand.tmp 77), none),
    (some 79, Op.load 26 (Operand.tmp 8), some (28, false)),
    (some 80, Op.load 26 (Operand.tmp 1), some (28, false)),
    (some 81, Op.call { callee := Callee.value (Operand.func 27), args := #[Operand.const (Value.int IntKind.i64 5)], argTypes := #[2] }, some (28, false)),
    (some 82, Op.buildSlice 24 2 #[(0, Operand.tmp 80), (1, Operand.tmp 81)], some (28, false)),
    (some 83, Op.build 26 #[(0, Operand.const (Value.int IntKind.i64 5)), (2, Operand.tmp 82)], some (28, false)),
    (some 84, Op.call { callee := Callee.value (Operand.func 12), args := #[Operand.tmp 79, Operand.tmp 83], argTypes := #[26, 26] }, some (28, false)),
    (some 85, Op.unOp UnOp.not 4 (Operand.tmp 84), some (28, false)),
    (some 86, Op.pick (Operand.tmp 78) (Operand.const (Value.bool true)) (Operand.tmp 85), none)]
def R6E : List (List Nat) := [[], [0], [], [2, 1], [1, 3], [], [5, 3], [4, 6], [], [8, 6], [7, 9], [10], [11, 9], [12], [13, 12], [12, 14], [15, 12], [16], [17, 16], [16, 18], [19, 16], [20], [21, 20], [20, 22], [23, 20], [24], [25, 24], [24, 26], [27, 24], [28], [28], [28, 28], [30, 31, 28], [32, 28], [29, 33, 31, 28], [34, 28], [28, 35]]
def R6T (kk nn : Int) (aa : Option Addr) (len cap : Nat) : List (Nat × Nat × Value) := [(0, 50, .int .i64 0), (1, 51, .int .i64 0), (2, 52, .int .i64 0), (3, 53, .int .i64 0), (4, 54, .int .i64 0), (5, 55, .int .i64 0), (6, 56, .int .i64 0), (7, 57, .int .i64 0), (8, 58, .int .i64 0), (9, 59, .int .i64 0), (10, 60, .int .i64 0), (11, 61, .bool false), (12, 62, .bool false), (13, 63, .string ⟨#[112, 97, 105, 114, 40, 45, 53, 44, 117, 110, 105, 116, 41]⟩), (14, 64, .bool false), (15, 65, .bool false), (16, 66, .bool false), (17, 67, .string ⟨#[119, 114, 97, 112, 40, 55, 44, 114, 101, 99, 118, 40, 99, 104, 97, 110, 40, 51, 41, 41, 44, 49, 41]⟩), (18, 68, .bool false), (19, 69, .bool false), (20, 70, .bool false), (21, 71, .string ⟨#[99, 104, 111, 111, 115, 101, 40, 41]⟩), (22, 72, .bool false), (23, 73, .bool false), (24, 74, .bool false), (25, 75, .int .i64 0), (26, 76, .bool false), (27, 77, .bool false), (28, 78, .bool false), (29, 79, .agg #[.int .i64 kk, .int .i64 nn, .slice aa len cap]), (30, 80, .agg #[.int .i64 4, .int .i64 3, .slice none 0 0]), (31, 81, .agg #[.int .i64 2, .int .i64 5, .slice none 0 0]), (34, 84, .bool true), (35, 85, .bool false), (36, 86, .bool false)]

structure R6I (a0 : Act) (kk nn : Int) (aa : Option Addr) (len cap : Nat) (w0 : World) (D : Nat → Bool) (a : Act) (w : World) : Prop where
  fr : Upd a0 a 50 37
  slots : Slots (R6T kk nn aa len cap) D a
  b : Below w0.heap.size w0 w
  ch : D 33 = true → D 32 = true
  sl : D 32 = true → ∃ z, a.eval (.tmp 82) = .slice (some ⟨z, 0, none⟩) 2 2 ∧ w.heap[z]? = some (.cells #[.int .i64 4, .int .i64 3, .slice none 0 0, .int .i64 2, .int .i64 5, .slice none 0 0] 26 (0, 0)) ∧ (D 33 = true → a.eval (.tmp 83) = .agg #[.int .i64 5, .int .i64 0, .slice (some ⟨z, 0, none⟩) 2 2])
section
variable {a0 a : Act} {kk nn : Int} {aa : Option Addr} {len cap : Nat} {w0 w w' : World} {D : Nat → Bool}
theorem R6I.step (h : R6I a0 kk nn aa len cap w0 D a w) (i t : Nat) (v : Value) (h1 : 50 ≤ t) (h2 : t < 87) (hs : t < a.tmps.size) (hi : i ≠ 32 ∧ i ≠ 33) (ht : t ≠ 82 ∧ t ≠ 83) (hT : ∀ x ∈ R6T kk nn aa len cap, (x.1 = i → x.2.1 = t ∧ x.2.2 = v) ∧ (x.1 ≠ i → x.2.1 ≠ t)) (hb : Below w.heap.size w w') :
    R6I a0 kk nn aa len cap w0 (upd D i) (a.put (some t) v) w' := by
  refine ⟨h.fr.put h1 (by omega) v, h.slots.put i t v hs hT, h.b.trans (hb.mono h.b.size), (by rw [upd_ne D (Ne.symm hi.1), upd_ne D (Ne.symm hi.2)]; exact h.ch), fun hd => ?_⟩
  rw [upd_ne D (Ne.symm hi.1)] at hd
  obtain ⟨z, z1, z2, z3⟩ := h.sl hd
  refine ⟨z, by rw [eval_put_ne (Ne.symm ht.1)]; exact z1, (hb.block z (lt_of_heap z2)).trans z2, fun hd3 => ?_⟩
  rw [upd_ne D (Ne.symm hi.2)] at hd3
  rw [eval_put_ne (Ne.symm ht.2)]
  exact z3 hd3
theorem wrap0 : IntKind.i64.wrap 0 = 0 := by decide
theorem bel_refl (w : World) : Below w.heap.size w w := Below.refl _ _
end
theorem wpOp_gd {P : Program} {ops : Array Oper} {Q : Exit → Act → World → Prop} {K : Act → World → Prop} {a : Act} {w : World} {o : Oper} {i g t : Nat} (ho : ops[i]? = some o) (hg : o.guard = some (g, false)) {og : Oper} (hog : ops[g]? = some og) (hd : og.dst = some t) (ht : t < a.tmps.size) (hv : a.eval (.tmp t) = .bool false) (h : o.wp P a w K Q) : wpOp P ops Q i K a w := by
  have hw : Region.wanted o (yielded ops a.tmps) = true := by
    have e : a.tmps[t]? = some (.bool false) := by
      simp only [Act.eval] at hv
      rw [Array.getD_eq_getD_getElem?, Array.getElem?_eq_getElem ht] at hv
      rw [Array.getElem?_eq_getElem ht]
      simpa using hv
    simp [Region.wanted, hg, yielded, hog, hd, e]
  unfold wpOp
  rw [ho]
  simp only [hw, if_true]
  exact .inl h
theorem op_num {Q : Exit → Act → World → Prop} {K : Act → World → Prop} {a : Act} {w : World} {o : Oper} {x : Operand} (h : o.op = .call { callee := .value (.func 13), args := #[x], argTypes := #[27] }) (hx : a.eval x = .int .i64 0) (hk : K (a.put o.dst (.int .i64 0)) w) : o.wp Tryd.prog a w K Q := by
  refine op_run (n := .enter 13 #[.int .i64 0]) (w' := w) ?_ ((num_any 0 w).mono ?_)
  · have e1 : a.eval (.func 13) = .func (.func 13) #[] #[] := rfl
    generalize a.eval = ev at *
    unfold execOp
    simp only [h]
    simp [go_sem, hx, e1]
  · rintro e w' ⟨rfl, rfl⟩
    exact hk
theorem op_int5 {Q : Exit → Act → World → Prop} {K : Act → World → Prop} {a : Act} {w : World} {o : Oper} (h : o.op = .call { callee := .value (.func 27), args := #[.const (.int .i64 5)], argTypes := #[2] }) (hk : ∀ w', Below w.heap.size w w' → K (a.put o.dst (.agg #[.int .i64 2, .int .i64 5, .slice none 0 0])) w') : o.wp Tryd.prog a w K Q := by
  refine op_run (n := .enter 27 #[.int .i64 5]) (w' := w) ?_ ((rInt_any 5 w).mono ?_)
  · have e1 : a.eval (.func 27) = .func (.func 27) #[] #[] := rfl
    have e2 : a.eval (.const (.int .i64 5)) = .int .i64 5 := rfl
    generalize a.eval = ev at *
    unfold execOp
    simp only [h]
    simp [go_sem, e1, e2]
  · rintro e w' ⟨rfl, hb⟩
    exact hk w' hb
theorem op_same {Q : Exit → Act → World → Prop} {K : Act → World → Prop} {a : Act} {w : World} {o : Oper} {x y : Operand} {v : Value} {z : Nat} {ty : TypeId} {fr : Nat × Nat} (h : o.op = .call { callee := .value (.func 12), args := #[x, y], argTypes := #[26, 26] }) (hx : a.eval x = v) (hy : a.eval y = .agg #[.int .i64 5, .int .i64 0, .slice (some ⟨z, 0, none⟩) 2 2])
    (hv : IsV (· < w.heap.size) w tSend v) (hz : w.heap[z]? = some (.cells #[.int .i64 4, .int .i64 3, .slice none 0 0, .int .i64 2, .int .i64 5, .slice none 0 0] ty fr)) (hk : ∀ w', Below w.heap.size w w' → K (a.put o.dst (.bool true)) w') : o.wp Tryd.prog a w K Q := by
  refine op_run (n := .enter 12 #[v, .agg #[.int .i64 5, .int .i64 0, .slice (some ⟨z, 0, none⟩) 2 2]]) (w' := w) ?_ ((same_send_call hv hz).mono ?_)
  · have e1 : a.eval (.func 12) = .func (.func 12) #[] #[] := rfl
    generalize a.eval = ev at *
    unfold execOp
    simp only [h]
    simp [go_sem, hx, hy, e1]
  · rintro e w' ⟨rfl, hb⟩
    exact hk w' hb
theorem op_loadV {Q : Exit → Act → World → Prop} {K : Act → World → Prop} {a : Act} {w : World} {o : Oper} {x : Operand} {g : Nat} {ty : TypeId} {k n : Int} {p : Option Addr} {l c : Nat} (h : o.op = .load 26 x) (hx : a.eval x = .pointer (some ⟨g, 0, none⟩)) (hb : Bx w g ty (.int .i64 k) (.int .i64 n) (.slice p l c)) (hk : K (a.put o.dst (.agg #[.int .i64 k, .int .i64 n, .slice p l c])) w) : o.wp Tryd.prog a w K Q := by
  refine op_run (n := .value (.agg #[.int .i64 k, .int .i64 n, .slice p l c])) (w' := w) ?_ hk
  have c0 := hb.c0
  have c1 := hb.c1
  have c2 := hb.c2
  generalize a.eval = ev at *
  unfold execOp
  simp only [h]
  simp [go_sem, hx, c0, c1, c2]

set_option maxRecDepth 100000 in
set_option maxHeartbeats 4000000 in
theorem r6_region {ops : Array Oper} {Q : Exit → Act → World → Prop} {a0 : Act} {w w0 : World} {id cb b8 : Nat} {kk nn : Int} {aa : Option Addr} {len cap : Nat} (hsh : Shape ops R6K R6E) (hsz : 87 ≤ a0.tmps.size) (h1 : a0.eval (.tmp 1) = .pointer (some ⟨cb, 0, none⟩)) (h2 : a0.eval (.tmp 2) = .string ⟨#[112, 97, 105, 114, 40, 45, 53, 44, 117, 110, 105, 116, 41]⟩) (h3 : a0.eval (.tmp 3) = .int .i64 0) (h4 : a0.eval (.tmp 4) = .string ⟨#[119, 114, 97, 112, 40, 55, 44, 114, 101, 99, 118, 40, 99, 104, 97, 110, 40, 51, 41, 41, 44, 49, 41]⟩) (h5 : a0.eval (.tmp 5) = .int .i64 0) (h6 : a0.eval (.tmp 6) = .string ⟨#[99, 104, 111, 111, 115, 101, 40, 41]⟩) (h7 : a0.eval (.tmp 7) = .int .i64 0) (h8 : a0.eval (.tmp 8) = .pointer (some ⟨b8, 0, none⟩)) (h9 : a0.eval (.tmp 9) = .int .i64 0) (h10 : a0.eval (.tmp 10) = .int .i64 0)
    (hst : WkSt w w0) (hcb : cb = w.heap.size + 1) (hbx : Bx w0 b8 26 (.int .i64 kk) (.int .i64 nn) (.slice aa len cap)) (hv : IsV (· < w0.heap.size) w0 tSend (.agg #[.int .i64 kk, .int .i64 nn, .slice aa len cap]))
    (hQ : ∀ a w', Upd a0 a 50 37 → a.eval (.tmp 86) = .bool false → WkSt w w' → Q .normal a w') : (Code.region id ops true).wp Tryd.prog Q a0 w0 := by
  refine wp_region_inv (by kernel_rfl) (hsh.edged (by decide)) (R6I a0 kk nn aa len cap w0) ?_ ?_ ?_
  · exact ⟨Upd.refl _ _ _, fun x _ h => by simp at h, (Below.refl _ w0).drew, fun h => by simp at h, fun h => by simp at h⟩
  · rintro D a wr j o hI ho hD hdep
    have hk := hsh.key_at ho
    have hasz : a.tmps.size = a0.tmps.size := hI.fr.size
    have hj : j < 37 := by
      rcases Nat.lt_or_ge j 37 with hlt | hge
      · exact hlt
      · rw [List.getElem?_eq_none (by simpa [R6K] using hge)] at hk; cases hk
    have hdp := fun es => hsh.dep_at ho hdep (es := es)
    clear hdep
    have hog : ∀ g, g < 37 → ∃ og, ops[g]? = some og ∧ R6K[g]? = some (key og) := by
      intro g hg
      have hs : ops.size = 37 := hsh.size
      have h1 : ops[g]? = some ops[g] := Array.getElem?_eq_getElem (by omega)
      exact ⟨_, h1, hsh.key_at h1⟩
    have hcases : j = 0 ∨ j = 1 ∨ j = 2 ∨ j = 3 ∨ j = 4 ∨ j = 5 ∨ j = 6 ∨ j = 7 ∨ j = 8 ∨ j = 9 ∨ j = 10 ∨ j = 11 ∨ j = 12 ∨ j = 13 ∨ j = 14 ∨ j = 15 ∨ j = 16 ∨ j = 17 ∨ j = 18 ∨ j = 19 ∨ j = 20 ∨ j = 21 ∨ j = 22 ∨ j = 23 ∨ j = 24 ∨ j = 25 ∨ j = 26 ∨ j = 27 ∨ j = 28 ∨ j = 29 ∨ j = 30 ∨ j = 31 ∨ j = 32 ∨ j = 33 ∨ j = 34 ∨ j = 35 ∨ j = 36 := by omega
    rcases hcases with rfl | rfl | rfl | rfl | rfl | rfl | rfl | rfl | rfl | rfl | rfl | rfl | rfl | rfl | rfl | rfl | rfl | rfl | rfl | rfl | rfl | rfl | rfl | rfl | rfl | rfl | rfl | rfl | rfl | rfl | rfl | rfl | rfl | rfl | rfl | rfl | rfl
    · -- 0
      obtain ⟨odst, oop, oty, opos, oaft, ogd⟩ := o
      simp only [key, R6K, List.getElem?_cons_zero, Option.some.injEq, Prod.mk.injEq] at hk
      obtain ⟨rfl, rfl, rfl⟩ := hk
      have s3 : a.eval (.tmp 3) = .int .i64 0 := (hI.fr.eval (by omega)).trans h3
      refine wpOp_of ho rfl (op_run (n := .value (.int .i64 0)) (w' := wr) ?_ (hI.step 0 50 (.int .i64 0) (by omega) (by omega) (by omega) (by decide) (by decide) (by simp [R6T]) (bel_refl _)))
      have ec : ∀ v, a.eval (.const v) = v := fun _ => rfl
      generalize a.eval = ev at *
      unfold execOp
      simp [go_sem, s3]
    · -- 1
      obtain ⟨odst, oop, oty, opos, oaft, ogd⟩ := o
      simp only [key, R6K, List.getElem?_cons_zero, List.getElem?_cons_succ, Option.some.injEq, Prod.mk.injEq] at hk
      obtain ⟨rfl, rfl, rfl⟩ := hk
      have p0 : D 0 = true := hdp _ rfl 0 (by decide)
      have s50 : a.eval (.tmp 50) = .int .i64 0 := hI.slots (0, 50, .int .i64 0) (by simp [R6T]) p0
      exact wpOp_of ho rfl (op_num rfl s50 (hI.step 1 51 (.int .i64 0) (by omega) (by omega) (by omega) (by decide) (by decide) (by simp [R6T]) (bel_refl _)))
    · -- 2
      obtain ⟨odst, oop, oty, opos, oaft, ogd⟩ := o
      simp only [key, R6K, List.getElem?_cons_zero, List.getElem?_cons_succ, Option.some.injEq, Prod.mk.injEq] at hk
      obtain ⟨rfl, rfl, rfl⟩ := hk
      have s5 : a.eval (.tmp 5) = .int .i64 0 := (hI.fr.eval (by omega)).trans h5
      refine wpOp_of ho rfl (op_run (n := .value (.int .i64 0)) (w' := wr) ?_ (hI.step 2 52 (.int .i64 0) (by omega) (by omega) (by omega) (by decide) (by decide) (by simp [R6T]) (bel_refl _)))
      have ec : ∀ v, a.eval (.const v) = v := fun _ => rfl
      generalize a.eval = ev at *
      unfold execOp
      simp [go_sem, s5]
    · -- 3
      obtain ⟨odst, oop, oty, opos, oaft, ogd⟩ := o
      simp only [key, R6K, List.getElem?_cons_zero, List.getElem?_cons_succ, Option.some.injEq, Prod.mk.injEq] at hk
      obtain ⟨rfl, rfl, rfl⟩ := hk
      have p2 : D 2 = true := hdp _ rfl 2 (by decide)
      have s52 : a.eval (.tmp 52) = .int .i64 0 := hI.slots (2, 52, .int .i64 0) (by simp [R6T]) p2
      exact wpOp_of ho rfl (op_num rfl s52 (hI.step 3 53 (.int .i64 0) (by omega) (by omega) (by omega) (by decide) (by decide) (by simp [R6T]) (bel_refl _)))
    · -- 4
      obtain ⟨odst, oop, oty, opos, oaft, ogd⟩ := o
      simp only [key, R6K, List.getElem?_cons_zero, List.getElem?_cons_succ, Option.some.injEq, Prod.mk.injEq] at hk
      obtain ⟨rfl, rfl, rfl⟩ := hk
      have p1 : D 1 = true := hdp _ rfl 1 (by decide)
      have s51 : a.eval (.tmp 51) = .int .i64 0 := hI.slots (1, 51, .int .i64 0) (by simp [R6T]) p1
      have p3 : D 3 = true := hdp _ rfl 3 (by decide)
      have s53 : a.eval (.tmp 53) = .int .i64 0 := hI.slots (3, 53, .int .i64 0) (by simp [R6T]) p3
      refine wpOp_of ho rfl (op_run (n := .value (.int .i64 0)) (w' := wr) ?_ (hI.step 4 54 (.int .i64 0) (by omega) (by omega) (by omega) (by decide) (by decide) (by simp [R6T]) (bel_refl _)))
      have ec : ∀ v, a.eval (.const v) = v := fun _ => rfl
      generalize a.eval = ev at *
      unfold execOp
      simp [go_sem, wrap0, s51, s53]
    · -- 5
      obtain ⟨odst, oop, oty, opos, oaft, ogd⟩ := o
      simp only [key, R6K, List.getElem?_cons_zero, List.getElem?_cons_succ, Option.some.injEq, Prod.mk.injEq] at hk
      obtain ⟨rfl, rfl, rfl⟩ := hk
      have s7 : a.eval (.tmp 7) = .int .i64 0 := (hI.fr.eval (by omega)).trans h7
      refine wpOp_of ho rfl (op_run (n := .value (.int .i64 0)) (w' := wr) ?_ (hI.step 5 55 (.int .i64 0) (by omega) (by omega) (by omega) (by decide) (by decide) (by simp [R6T]) (bel_refl _)))
      have ec : ∀ v, a.eval (.const v) = v := fun _ => rfl
      generalize a.eval = ev at *
      unfold execOp
      simp [go_sem, s7]
    · -- 6
      obtain ⟨odst, oop, oty, opos, oaft, ogd⟩ := o
      simp only [key, R6K, List.getElem?_cons_zero, List.getElem?_cons_succ, Option.some.injEq, Prod.mk.injEq] at hk
      obtain ⟨rfl, rfl, rfl⟩ := hk
      have p5 : D 5 = true := hdp _ rfl 5 (by decide)
      have s55 : a.eval (.tmp 55) = .int .i64 0 := hI.slots (5, 55, .int .i64 0) (by simp [R6T]) p5
      exact wpOp_of ho rfl (op_num rfl s55 (hI.step 6 56 (.int .i64 0) (by omega) (by omega) (by omega) (by decide) (by decide) (by simp [R6T]) (bel_refl _)))
    · -- 7
      obtain ⟨odst, oop, oty, opos, oaft, ogd⟩ := o
      simp only [key, R6K, List.getElem?_cons_zero, List.getElem?_cons_succ, Option.some.injEq, Prod.mk.injEq] at hk
      obtain ⟨rfl, rfl, rfl⟩ := hk
      have p4 : D 4 = true := hdp _ rfl 4 (by decide)
      have s54 : a.eval (.tmp 54) = .int .i64 0 := hI.slots (4, 54, .int .i64 0) (by simp [R6T]) p4
      have p6 : D 6 = true := hdp _ rfl 6 (by decide)
      have s56 : a.eval (.tmp 56) = .int .i64 0 := hI.slots (6, 56, .int .i64 0) (by simp [R6T]) p6
      refine wpOp_of ho rfl (op_run (n := .value (.int .i64 0)) (w' := wr) ?_ (hI.step 7 57 (.int .i64 0) (by omega) (by omega) (by omega) (by decide) (by decide) (by simp [R6T]) (bel_refl _)))
      have ec : ∀ v, a.eval (.const v) = v := fun _ => rfl
      generalize a.eval = ev at *
      unfold execOp
      simp [go_sem, wrap0, s54, s56]
    · -- 8
      obtain ⟨odst, oop, oty, opos, oaft, ogd⟩ := o
      simp only [key, R6K, List.getElem?_cons_zero, List.getElem?_cons_succ, Option.some.injEq, Prod.mk.injEq] at hk
      obtain ⟨rfl, rfl, rfl⟩ := hk
      have s10 : a.eval (.tmp 10) = .int .i64 0 := (hI.fr.eval (by omega)).trans h10
      refine wpOp_of ho rfl (op_run (n := .value (.int .i64 0)) (w' := wr) ?_ (hI.step 8 58 (.int .i64 0) (by omega) (by omega) (by omega) (by decide) (by decide) (by simp [R6T]) (bel_refl _)))
      have ec : ∀ v, a.eval (.const v) = v := fun _ => rfl
      generalize a.eval = ev at *
      unfold execOp
      simp [go_sem, s10]
    · -- 9
      obtain ⟨odst, oop, oty, opos, oaft, ogd⟩ := o
      simp only [key, R6K, List.getElem?_cons_zero, List.getElem?_cons_succ, Option.some.injEq, Prod.mk.injEq] at hk
      obtain ⟨rfl, rfl, rfl⟩ := hk
      have p8 : D 8 = true := hdp _ rfl 8 (by decide)
      have s58 : a.eval (.tmp 58) = .int .i64 0 := hI.slots (8, 58, .int .i64 0) (by simp [R6T]) p8
      exact wpOp_of ho rfl (op_num rfl s58 (hI.step 9 59 (.int .i64 0) (by omega) (by omega) (by omega) (by decide) (by decide) (by simp [R6T]) (bel_refl _)))
    · -- 10
      obtain ⟨odst, oop, oty, opos, oaft, ogd⟩ := o
      simp only [key, R6K, List.getElem?_cons_zero, List.getElem?_cons_succ, Option.some.injEq, Prod.mk.injEq] at hk
      obtain ⟨rfl, rfl, rfl⟩ := hk
      have p7 : D 7 = true := hdp _ rfl 7 (by decide)
      have s57 : a.eval (.tmp 57) = .int .i64 0 := hI.slots (7, 57, .int .i64 0) (by simp [R6T]) p7
      have p9 : D 9 = true := hdp _ rfl 9 (by decide)
      have s59 : a.eval (.tmp 59) = .int .i64 0 := hI.slots (9, 59, .int .i64 0) (by simp [R6T]) p9
      refine wpOp_of ho rfl (op_run (n := .value (.int .i64 0)) (w' := wr) ?_ (hI.step 10 60 (.int .i64 0) (by omega) (by omega) (by omega) (by decide) (by decide) (by simp [R6T]) (bel_refl _)))
      have ec : ∀ v, a.eval (.const v) = v := fun _ => rfl
      generalize a.eval = ev at *
      unfold execOp
      simp [go_sem, wrap0, s57, s59]
    · -- 11
      obtain ⟨odst, oop, oty, opos, oaft, ogd⟩ := o
      simp only [key, R6K, List.getElem?_cons_zero, List.getElem?_cons_succ, Option.some.injEq, Prod.mk.injEq] at hk
      obtain ⟨rfl, rfl, rfl⟩ := hk
      have p10 : D 10 = true := hdp _ rfl 10 (by decide)
      have s60 : a.eval (.tmp 60) = .int .i64 0 := hI.slots (10, 60, .int .i64 0) (by simp [R6T]) p10
      refine wpOp_of ho rfl (op_run (n := .value (.bool false)) (w' := wr) ?_ (hI.step 11 61 (.bool false) (by omega) (by omega) (by omega) (by decide) (by decide) (by simp [R6T]) (bel_refl _)))
      have ec : ∀ v, a.eval (.const v) = v := fun _ => rfl
      generalize a.eval = ev at *
      unfold execOp
      simp [go_sem, ec, s60]
    · -- 12
      obtain ⟨odst, oop, oty, opos, oaft, ogd⟩ := o
      simp only [key, R6K, List.getElem?_cons_zero, List.getElem?_cons_succ, Option.some.injEq, Prod.mk.injEq] at hk
      obtain ⟨rfl, rfl, rfl⟩ := hk
      have p11 : D 11 = true := hdp _ rfl 11 (by decide)
      have s61 : a.eval (.tmp 61) = .bool false := hI.slots (11, 61, .bool false) (by simp [R6T]) p11
      refine wpOp_of ho rfl (op_run (n := .value (.bool false)) (w' := wr) ?_ (hI.step 12 62 (.bool false) (by omega) (by omega) (by omega) (by decide) (by decide) (by simp [R6T]) (bel_refl _)))
      have ec : ∀ v, a.eval (.const v) = v := fun _ => rfl
      generalize a.eval = ev at *
      unfold execOp
      simp [go_sem, s61]
    · -- 13
      obtain ⟨odst, oop, oty, opos, oaft, ogd⟩ := o
      simp only [key, R6K, List.getElem?_cons_zero, List.getElem?_cons_succ, Option.some.injEq, Prod.mk.injEq] at hk
      obtain ⟨rfl, rfl, rfl⟩ := hk
      have s2 : a.eval (.tmp 2) = .string ⟨#[112, 97, 105, 114, 40, 45, 53, 44, 117, 110, 105, 116, 41]⟩ := (hI.fr.eval (by omega)).trans h2
      have p12 : D 12 = true := hdp _ rfl 12 (by decide)
      have s62 : a.eval (.tmp 62) = .bool false := hI.slots (12, 62, .bool false) (by simp [R6T]) p12
      obtain ⟨og, hog1, hog2⟩ := hog 12 (by decide)
      have hgd : og.dst = some 62 := by simp only [key, R6K, List.getElem?_cons_zero, List.getElem?_cons_succ, Option.some.injEq, Prod.mk.injEq] at hog2; exact hog2.1.symm
      refine wpOp_gd ho rfl hog1 hgd (by omega) s62 (op_run (n := .value (.string ⟨#[112, 97, 105, 114, 40, 45, 53, 44, 117, 110, 105, 116, 41]⟩)) (w' := wr) ?_ (hI.step 13 63 (.string ⟨#[112, 97, 105, 114, 40, 45, 53, 44, 117, 110, 105, 116, 41]⟩) (by omega) (by omega) (by omega) (by decide) (by decide) (by simp [R6T]) (bel_refl _)))
      have ec : ∀ v, a.eval (.const v) = v := fun _ => rfl
      generalize a.eval = ev at *
      unfold execOp
      simp [go_sem, s2]
    · -- 14
      obtain ⟨odst, oop, oty, opos, oaft, ogd⟩ := o
      simp only [key, R6K, List.getElem?_cons_zero, List.getElem?_cons_succ, Option.some.injEq, Prod.mk.injEq] at hk
      obtain ⟨rfl, rfl, rfl⟩ := hk
      have p13 : D 13 = true := hdp _ rfl 13 (by decide)
      have s63 : a.eval (.tmp 63) = .string ⟨#[112, 97, 105, 114, 40, 45, 53, 44, 117, 110, 105, 116, 41]⟩ := hI.slots (13, 63, .string ⟨#[112, 97, 105, 114, 40, 45, 53, 44, 117, 110, 105, 116, 41]⟩) (by simp [R6T]) p13
      have p12 : D 12 = true := hdp _ rfl 12 (by decide)
      have s62 : a.eval (.tmp 62) = .bool false := hI.slots (12, 62, .bool false) (by simp [R6T]) p12
      obtain ⟨og, hog1, hog2⟩ := hog 12 (by decide)
      have hgd : og.dst = some 62 := by simp only [key, R6K, List.getElem?_cons_zero, List.getElem?_cons_succ, Option.some.injEq, Prod.mk.injEq] at hog2; exact hog2.1.symm
      refine wpOp_gd ho rfl hog1 hgd (by omega) s62 (op_run (n := .value (.bool false)) (w' := wr) ?_ (hI.step 14 64 (.bool false) (by omega) (by omega) (by omega) (by decide) (by decide) (by simp [R6T]) (bel_refl _)))
      have ec : ∀ v, a.eval (.const v) = v := fun _ => rfl
      generalize a.eval = ev at *
      unfold execOp
      simp [go_sem, ec, s63]
    · -- 15
      obtain ⟨odst, oop, oty, opos, oaft, ogd⟩ := o
      simp only [key, R6K, List.getElem?_cons_zero, List.getElem?_cons_succ, Option.some.injEq, Prod.mk.injEq] at hk
      obtain ⟨rfl, rfl, rfl⟩ := hk
      have p12 : D 12 = true := hdp _ rfl 12 (by decide)
      have s62 : a.eval (.tmp 62) = .bool false := hI.slots (12, 62, .bool false) (by simp [R6T]) p12
      have p14 : D 14 = true := hdp _ rfl 14 (by decide)
      have s64 : a.eval (.tmp 64) = .bool false := hI.slots (14, 64, .bool false) (by simp [R6T]) p14
      refine wpOp_of ho rfl (op_run (n := .value (.bool false)) (w' := wr) ?_ (hI.step 15 65 (.bool false) (by omega) (by omega) (by omega) (by decide) (by decide) (by simp [R6T]) (bel_refl _)))
      have ec : ∀ v, a.eval (.const v) = v := fun _ => rfl
      generalize a.eval = ev at *
      unfold execOp
      simp [go_sem, ec, s62, s64]
    · -- 16
      obtain ⟨odst, oop, oty, opos, oaft, ogd⟩ := o
      simp only [key, R6K, List.getElem?_cons_zero, List.getElem?_cons_succ, Option.some.injEq, Prod.mk.injEq] at hk
      obtain ⟨rfl, rfl, rfl⟩ := hk
      have p15 : D 15 = true := hdp _ rfl 15 (by decide)
      have s65 : a.eval (.tmp 65) = .bool false := hI.slots (15, 65, .bool false) (by simp [R6T]) p15
      refine wpOp_of ho rfl (op_run (n := .value (.bool false)) (w' := wr) ?_ (hI.step 16 66 (.bool false) (by omega) (by omega) (by omega) (by decide) (by decide) (by simp [R6T]) (bel_refl _)))
      have ec : ∀ v, a.eval (.const v) = v := fun _ => rfl
      generalize a.eval = ev at *
      unfold execOp
      simp [go_sem, s65]
    · -- 17
      obtain ⟨odst, oop, oty, opos, oaft, ogd⟩ := o
      simp only [key, R6K, List.getElem?_cons_zero, List.getElem?_cons_succ, Option.some.injEq, Prod.mk.injEq] at hk
      obtain ⟨rfl, rfl, rfl⟩ := hk
      have s4 : a.eval (.tmp 4) = .string ⟨#[119, 114, 97, 112, 40, 55, 44, 114, 101, 99, 118, 40, 99, 104, 97, 110, 40, 51, 41, 41, 44, 49, 41]⟩ := (hI.fr.eval (by omega)).trans h4
      have p16 : D 16 = true := hdp _ rfl 16 (by decide)
      have s66 : a.eval (.tmp 66) = .bool false := hI.slots (16, 66, .bool false) (by simp [R6T]) p16
      obtain ⟨og, hog1, hog2⟩ := hog 16 (by decide)
      have hgd : og.dst = some 66 := by simp only [key, R6K, List.getElem?_cons_zero, List.getElem?_cons_succ, Option.some.injEq, Prod.mk.injEq] at hog2; exact hog2.1.symm
      refine wpOp_gd ho rfl hog1 hgd (by omega) s66 (op_run (n := .value (.string ⟨#[119, 114, 97, 112, 40, 55, 44, 114, 101, 99, 118, 40, 99, 104, 97, 110, 40, 51, 41, 41, 44, 49, 41]⟩)) (w' := wr) ?_ (hI.step 17 67 (.string ⟨#[119, 114, 97, 112, 40, 55, 44, 114, 101, 99, 118, 40, 99, 104, 97, 110, 40, 51, 41, 41, 44, 49, 41]⟩) (by omega) (by omega) (by omega) (by decide) (by decide) (by simp [R6T]) (bel_refl _)))
      have ec : ∀ v, a.eval (.const v) = v := fun _ => rfl
      generalize a.eval = ev at *
      unfold execOp
      simp [go_sem, s4]
    · -- 18
      obtain ⟨odst, oop, oty, opos, oaft, ogd⟩ := o
      simp only [key, R6K, List.getElem?_cons_zero, List.getElem?_cons_succ, Option.some.injEq, Prod.mk.injEq] at hk
      obtain ⟨rfl, rfl, rfl⟩ := hk
      have p17 : D 17 = true := hdp _ rfl 17 (by decide)
      have s67 : a.eval (.tmp 67) = .string ⟨#[119, 114, 97, 112, 40, 55, 44, 114, 101, 99, 118, 40, 99, 104, 97, 110, 40, 51, 41, 41, 44, 49, 41]⟩ := hI.slots (17, 67, .string ⟨#[119, 114, 97, 112, 40, 55, 44, 114, 101, 99, 118, 40, 99, 104, 97, 110, 40, 51, 41, 41, 44, 49, 41]⟩) (by simp [R6T]) p17
      have p16 : D 16 = true := hdp _ rfl 16 (by decide)
      have s66 : a.eval (.tmp 66) = .bool false := hI.slots (16, 66, .bool false) (by simp [R6T]) p16
      obtain ⟨og, hog1, hog2⟩ := hog 16 (by decide)
      have hgd : og.dst = some 66 := by simp only [key, R6K, List.getElem?_cons_zero, List.getElem?_cons_succ, Option.some.injEq, Prod.mk.injEq] at hog2; exact hog2.1.symm
      refine wpOp_gd ho rfl hog1 hgd (by omega) s66 (op_run (n := .value (.bool false)) (w' := wr) ?_ (hI.step 18 68 (.bool false) (by omega) (by omega) (by omega) (by decide) (by decide) (by simp [R6T]) (bel_refl _)))
      have ec : ∀ v, a.eval (.const v) = v := fun _ => rfl
      generalize a.eval = ev at *
      unfold execOp
      simp [go_sem, ec, s67]
    · -- 19
      obtain ⟨odst, oop, oty, opos, oaft, ogd⟩ := o
      simp only [key, R6K, List.getElem?_cons_zero, List.getElem?_cons_succ, Option.some.injEq, Prod.mk.injEq] at hk
      obtain ⟨rfl, rfl, rfl⟩ := hk
      have p16 : D 16 = true := hdp _ rfl 16 (by decide)
      have s66 : a.eval (.tmp 66) = .bool false := hI.slots (16, 66, .bool false) (by simp [R6T]) p16
      have p18 : D 18 = true := hdp _ rfl 18 (by decide)
      have s68 : a.eval (.tmp 68) = .bool false := hI.slots (18, 68, .bool false) (by simp [R6T]) p18
      refine wpOp_of ho rfl (op_run (n := .value (.bool false)) (w' := wr) ?_ (hI.step 19 69 (.bool false) (by omega) (by omega) (by omega) (by decide) (by decide) (by simp [R6T]) (bel_refl _)))
      have ec : ∀ v, a.eval (.const v) = v := fun _ => rfl
      generalize a.eval = ev at *
      unfold execOp
      simp [go_sem, ec, s66, s68]
    · -- 20
      obtain ⟨odst, oop, oty, opos, oaft, ogd⟩ := o
      simp only [key, R6K, List.getElem?_cons_zero, List.getElem?_cons_succ, Option.some.injEq, Prod.mk.injEq] at hk
      obtain ⟨rfl, rfl, rfl⟩ := hk
      have p19 : D 19 = true := hdp _ rfl 19 (by decide)
      have s69 : a.eval (.tmp 69) = .bool false := hI.slots (19, 69, .bool false) (by simp [R6T]) p19
      refine wpOp_of ho rfl (op_run (n := .value (.bool false)) (w' := wr) ?_ (hI.step 20 70 (.bool false) (by omega) (by omega) (by omega) (by decide) (by decide) (by simp [R6T]) (bel_refl _)))
      have ec : ∀ v, a.eval (.const v) = v := fun _ => rfl
      generalize a.eval = ev at *
      unfold execOp
      simp [go_sem, s69]
    · -- 21
      obtain ⟨odst, oop, oty, opos, oaft, ogd⟩ := o
      simp only [key, R6K, List.getElem?_cons_zero, List.getElem?_cons_succ, Option.some.injEq, Prod.mk.injEq] at hk
      obtain ⟨rfl, rfl, rfl⟩ := hk
      have s6 : a.eval (.tmp 6) = .string ⟨#[99, 104, 111, 111, 115, 101, 40, 41]⟩ := (hI.fr.eval (by omega)).trans h6
      have p20 : D 20 = true := hdp _ rfl 20 (by decide)
      have s70 : a.eval (.tmp 70) = .bool false := hI.slots (20, 70, .bool false) (by simp [R6T]) p20
      obtain ⟨og, hog1, hog2⟩ := hog 20 (by decide)
      have hgd : og.dst = some 70 := by simp only [key, R6K, List.getElem?_cons_zero, List.getElem?_cons_succ, Option.some.injEq, Prod.mk.injEq] at hog2; exact hog2.1.symm
      refine wpOp_gd ho rfl hog1 hgd (by omega) s70 (op_run (n := .value (.string ⟨#[99, 104, 111, 111, 115, 101, 40, 41]⟩)) (w' := wr) ?_ (hI.step 21 71 (.string ⟨#[99, 104, 111, 111, 115, 101, 40, 41]⟩) (by omega) (by omega) (by omega) (by decide) (by decide) (by simp [R6T]) (bel_refl _)))
      have ec : ∀ v, a.eval (.const v) = v := fun _ => rfl
      generalize a.eval = ev at *
      unfold execOp
      simp [go_sem, s6]
    · -- 22
      obtain ⟨odst, oop, oty, opos, oaft, ogd⟩ := o
      simp only [key, R6K, List.getElem?_cons_zero, List.getElem?_cons_succ, Option.some.injEq, Prod.mk.injEq] at hk
      obtain ⟨rfl, rfl, rfl⟩ := hk
      have p21 : D 21 = true := hdp _ rfl 21 (by decide)
      have s71 : a.eval (.tmp 71) = .string ⟨#[99, 104, 111, 111, 115, 101, 40, 41]⟩ := hI.slots (21, 71, .string ⟨#[99, 104, 111, 111, 115, 101, 40, 41]⟩) (by simp [R6T]) p21
      have p20 : D 20 = true := hdp _ rfl 20 (by decide)
      have s70 : a.eval (.tmp 70) = .bool false := hI.slots (20, 70, .bool false) (by simp [R6T]) p20
      obtain ⟨og, hog1, hog2⟩ := hog 20 (by decide)
      have hgd : og.dst = some 70 := by simp only [key, R6K, List.getElem?_cons_zero, List.getElem?_cons_succ, Option.some.injEq, Prod.mk.injEq] at hog2; exact hog2.1.symm
      refine wpOp_gd ho rfl hog1 hgd (by omega) s70 (op_run (n := .value (.bool false)) (w' := wr) ?_ (hI.step 22 72 (.bool false) (by omega) (by omega) (by omega) (by decide) (by decide) (by simp [R6T]) (bel_refl _)))
      have ec : ∀ v, a.eval (.const v) = v := fun _ => rfl
      generalize a.eval = ev at *
      unfold execOp
      simp [go_sem, ec, s71]
    · -- 23
      obtain ⟨odst, oop, oty, opos, oaft, ogd⟩ := o
      simp only [key, R6K, List.getElem?_cons_zero, List.getElem?_cons_succ, Option.some.injEq, Prod.mk.injEq] at hk
      obtain ⟨rfl, rfl, rfl⟩ := hk
      have p20 : D 20 = true := hdp _ rfl 20 (by decide)
      have s70 : a.eval (.tmp 70) = .bool false := hI.slots (20, 70, .bool false) (by simp [R6T]) p20
      have p22 : D 22 = true := hdp _ rfl 22 (by decide)
      have s72 : a.eval (.tmp 72) = .bool false := hI.slots (22, 72, .bool false) (by simp [R6T]) p22
      refine wpOp_of ho rfl (op_run (n := .value (.bool false)) (w' := wr) ?_ (hI.step 23 73 (.bool false) (by omega) (by omega) (by omega) (by decide) (by decide) (by simp [R6T]) (bel_refl _)))
      have ec : ∀ v, a.eval (.const v) = v := fun _ => rfl
      generalize a.eval = ev at *
      unfold execOp
      simp [go_sem, ec, s70, s72]
    · -- 24
      obtain ⟨odst, oop, oty, opos, oaft, ogd⟩ := o
      simp only [key, R6K, List.getElem?_cons_zero, List.getElem?_cons_succ, Option.some.injEq, Prod.mk.injEq] at hk
      obtain ⟨rfl, rfl, rfl⟩ := hk
      have p23 : D 23 = true := hdp _ rfl 23 (by decide)
      have s73 : a.eval (.tmp 73) = .bool false := hI.slots (23, 73, .bool false) (by simp [R6T]) p23
      refine wpOp_of ho rfl (op_run (n := .value (.bool false)) (w' := wr) ?_ (hI.step 24 74 (.bool false) (by omega) (by omega) (by omega) (by decide) (by decide) (by simp [R6T]) (bel_refl _)))
      have ec : ∀ v, a.eval (.const v) = v := fun _ => rfl
      generalize a.eval = ev at *
      unfold execOp
      simp [go_sem, s73]
    · -- 25
      obtain ⟨odst, oop, oty, opos, oaft, ogd⟩ := o
      simp only [key, R6K, List.getElem?_cons_zero, List.getElem?_cons_succ, Option.some.injEq, Prod.mk.injEq] at hk
      obtain ⟨rfl, rfl, rfl⟩ := hk
      have s9 : a.eval (.tmp 9) = .int .i64 0 := (hI.fr.eval (by omega)).trans h9
      have p24 : D 24 = true := hdp _ rfl 24 (by decide)
      have s74 : a.eval (.tmp 74) = .bool false := hI.slots (24, 74, .bool false) (by simp [R6T]) p24
      obtain ⟨og, hog1, hog2⟩ := hog 24 (by decide)
      have hgd : og.dst = some 74 := by simp only [key, R6K, List.getElem?_cons_zero, List.getElem?_cons_succ, Option.some.injEq, Prod.mk.injEq] at hog2; exact hog2.1.symm
      refine wpOp_gd ho rfl hog1 hgd (by omega) s74 (op_run (n := .value (.int .i64 0)) (w' := wr) ?_ (hI.step 25 75 (.int .i64 0) (by omega) (by omega) (by omega) (by decide) (by decide) (by simp [R6T]) (bel_refl _)))
      have ec : ∀ v, a.eval (.const v) = v := fun _ => rfl
      generalize a.eval = ev at *
      unfold execOp
      simp [go_sem, s9]
    · -- 26
      obtain ⟨odst, oop, oty, opos, oaft, ogd⟩ := o
      simp only [key, R6K, List.getElem?_cons_zero, List.getElem?_cons_succ, Option.some.injEq, Prod.mk.injEq] at hk
      obtain ⟨rfl, rfl, rfl⟩ := hk
      have p25 : D 25 = true := hdp _ rfl 25 (by decide)
      have s75 : a.eval (.tmp 75) = .int .i64 0 := hI.slots (25, 75, .int .i64 0) (by simp [R6T]) p25
      have p24 : D 24 = true := hdp _ rfl 24 (by decide)
      have s74 : a.eval (.tmp 74) = .bool false := hI.slots (24, 74, .bool false) (by simp [R6T]) p24
      obtain ⟨og, hog1, hog2⟩ := hog 24 (by decide)
      have hgd : og.dst = some 74 := by simp only [key, R6K, List.getElem?_cons_zero, List.getElem?_cons_succ, Option.some.injEq, Prod.mk.injEq] at hog2; exact hog2.1.symm
      refine wpOp_gd ho rfl hog1 hgd (by omega) s74 (op_run (n := .value (.bool false)) (w' := wr) ?_ (hI.step 26 76 (.bool false) (by omega) (by omega) (by omega) (by decide) (by decide) (by simp [R6T]) (bel_refl _)))
      have ec : ∀ v, a.eval (.const v) = v := fun _ => rfl
      generalize a.eval = ev at *
      unfold execOp
      simp [go_sem, ec, s75]
    · -- 27
      obtain ⟨odst, oop, oty, opos, oaft, ogd⟩ := o
      simp only [key, R6K, List.getElem?_cons_zero, List.getElem?_cons_succ, Option.some.injEq, Prod.mk.injEq] at hk
      obtain ⟨rfl, rfl, rfl⟩ := hk
      have p24 : D 24 = true := hdp _ rfl 24 (by decide)
      have s74 : a.eval (.tmp 74) = .bool false := hI.slots (24, 74, .bool false) (by simp [R6T]) p24
      have p26 : D 26 = true := hdp _ rfl 26 (by decide)
      have s76 : a.eval (.tmp 76) = .bool false := hI.slots (26, 76, .bool false) (by simp [R6T]) p26
      refine wpOp_of ho rfl (op_run (n := .value (.bool false)) (w' := wr) ?_ (hI.step 27 77 (.bool false) (by omega) (by omega) (by omega) (by decide) (by decide) (by simp [R6T]) (bel_refl _)))
      have ec : ∀ v, a.eval (.const v) = v := fun _ => rfl
      generalize a.eval = ev at *
      unfold execOp
      simp [go_sem, ec, s74, s76]
    · -- 28
      obtain ⟨odst, oop, oty, opos, oaft, ogd⟩ := o
      simp only [key, R6K, List.getElem?_cons_zero, List.getElem?_cons_succ, Option.some.injEq, Prod.mk.injEq] at hk
      obtain ⟨rfl, rfl, rfl⟩ := hk
      have p27 : D 27 = true := hdp _ rfl 27 (by decide)
      have s77 : a.eval (.tmp 77) = .bool false := hI.slots (27, 77, .bool false) (by simp [R6T]) p27
      refine wpOp_of ho rfl (op_run (n := .value (.bool false)) (w' := wr) ?_ (hI.step 28 78 (.bool false) (by omega) (by omega) (by omega) (by decide) (by decide) (by simp [R6T]) (bel_refl _)))
      have ec : ∀ v, a.eval (.const v) = v := fun _ => rfl
      generalize a.eval = ev at *
      unfold execOp
      simp [go_sem, s77]
    · -- 29
      obtain ⟨odst, oop, oty, opos, oaft, ogd⟩ := o
      simp only [key, R6K, List.getElem?_cons_zero, List.getElem?_cons_succ, Option.some.injEq, Prod.mk.injEq] at hk
      obtain ⟨rfl, rfl, rfl⟩ := hk
      have s8 : a.eval (.tmp 8) = .pointer (some ⟨b8, 0, none⟩) := (hI.fr.eval (by omega)).trans h8
      have p28 : D 28 = true := hdp _ rfl 28 (by decide)
      have s78 : a.eval (.tmp 78) = .bool false := hI.slots (28, 78, .bool false) (by simp [R6T]) p28
      obtain ⟨og, hog1, hog2⟩ := hog 28 (by decide)
      have hgd : og.dst = some 78 := by simp only [key, R6K, List.getElem?_cons_zero, List.getElem?_cons_succ, Option.some.injEq, Prod.mk.injEq] at hog2; exact hog2.1.symm
      exact wpOp_gd ho rfl hog1 hgd (by omega) s78 (op_loadV rfl s8 (hbx.belowAll hI.b) (hI.step 29 79 (.agg #[.int .i64 kk, .int .i64 nn, .slice aa len cap]) (by omega) (by omega) (by omega) (by decide) (by decide) (by simp [R6T]) (bel_refl _)))
    · -- 30
      obtain ⟨odst, oop, oty, opos, oaft, ogd⟩ := o
      simp only [key, R6K, List.getElem?_cons_zero, List.getElem?_cons_succ, Option.some.injEq, Prod.mk.injEq] at hk
      obtain ⟨rfl, rfl, rfl⟩ := hk
      have s1 : a.eval (.tmp 1) = .pointer (some ⟨cb, 0, none⟩) := (hI.fr.eval (by omega)).trans h1
      have p28 : D 28 = true := hdp _ rfl 28 (by decide)
      have s78 : a.eval (.tmp 78) = .bool false := hI.slots (28, 78, .bool false) (by simp [R6T]) p28
      obtain ⟨og, hog1, hog2⟩ := hog 28 (by decide)
      have hgd : og.dst = some 78 := by simp only [key, R6K, List.getElem?_cons_zero, List.getElem?_cons_succ, Option.some.injEq, Prod.mk.injEq] at hog2; exact hog2.1.symm
      exact wpOp_gd ho rfl hog1 hgd (by omega) s78 (op_loadV rfl s1 (hcb ▸ hst.chan.belowAll hI.b) (hI.step 30 80 (.agg #[.int .i64 4, .int .i64 3, .slice none 0 0]) (by omega) (by omega) (by omega) (by decide) (by decide) (by simp [R6T]) (bel_refl _)))
    · -- 31
      obtain ⟨odst, oop, oty, opos, oaft, ogd⟩ := o
      simp only [key, R6K, List.getElem?_cons_zero, List.getElem?_cons_succ, Option.some.injEq, Prod.mk.injEq] at hk
      obtain ⟨rfl, rfl, rfl⟩ := hk
      have p28 : D 28 = true := hdp _ rfl 28 (by decide)
      have s78 : a.eval (.tmp 78) = .bool false := hI.slots (28, 78, .bool false) (by simp [R6T]) p28
      obtain ⟨og, hog1, hog2⟩ := hog 28 (by decide)
      have hgd : og.dst = some 78 := by simp only [key, R6K, List.getElem?_cons_zero, List.getElem?_cons_succ, Option.some.injEq, Prod.mk.injEq] at hog2; exact hog2.1.symm
      exact wpOp_gd ho rfl hog1 hgd (by omega) s78 (op_int5 rfl fun w1 hb1 => hI.step 31 81 (.agg #[.int .i64 2, .int .i64 5, .slice none 0 0]) (by omega) (by omega) (by omega) (by decide) (by decide) (by simp [R6T]) hb1)
    · -- 32
      obtain ⟨odst, oop, oty, opos, oaft, ogd⟩ := o
      simp only [key, R6K, List.getElem?_cons_zero, List.getElem?_cons_succ, Option.some.injEq, Prod.mk.injEq] at hk
      obtain ⟨rfl, rfl, rfl⟩ := hk
      have p30 : D 30 = true := hdp _ rfl 30 (by decide)
      have s80 : a.eval (.tmp 80) = .agg #[.int .i64 4, .int .i64 3, .slice none 0 0] := hI.slots (30, 80, .agg #[.int .i64 4, .int .i64 3, .slice none 0 0]) (by simp [R6T]) p30
      have p31 : D 31 = true := hdp _ rfl 31 (by decide)
      have s81 : a.eval (.tmp 81) = .agg #[.int .i64 2, .int .i64 5, .slice none 0 0] := hI.slots (31, 81, .agg #[.int .i64 2, .int .i64 5, .slice none 0 0]) (by simp [R6T]) p31
      have p28 : D 28 = true := hdp _ rfl 28 (by decide)
      have s78 : a.eval (.tmp 78) = .bool false := hI.slots (28, 78, .bool false) (by simp [R6T]) p28
      obtain ⟨og, hog1, hog2⟩ := hog 28 (by decide)
      have hgd : og.dst = some 78 := by simp only [key, R6K, List.getElem?_cons_zero, List.getElem?_cons_succ, Option.some.injEq, Prod.mk.injEq] at hog2; exact hog2.1.symm
      refine wpOp_gd ho rfl hog1 hgd (by omega) s78 (op_run (n := .value (.slice (some ⟨wr.heap.size, 0, none⟩) 2 2)) (w' := wr.alloc (.cells #[.int .i64 4, .int .i64 3, .slice none 0 0, .int .i64 2, .int .i64 5, .slice none 0 0] 26)) ?_ ?_)
      · generalize a.eval = ev at *
        unfold execOp
        simp [go_sem, s80, s81]
      · refine ⟨hI.fr.put (by omega) (by omega) _, hI.slots.put 32 82 _ (by omega) (by simp [R6T]), hI.b.trans ((below_alloc _ _).mono hI.b.size), fun _ => upd_same _ _, fun _ => ⟨wr.heap.size, eval_put_same (by omega) _, heap_alloc_new _ _, fun h33 => ?_⟩⟩
        rw [upd_ne _ (by decide)] at h33
        exact absurd (hI.ch h33) (by rw [hD]; simp)
    · -- 33
      obtain ⟨odst, oop, oty, opos, oaft, ogd⟩ := o
      simp only [key, R6K, List.getElem?_cons_zero, List.getElem?_cons_succ, Option.some.injEq, Prod.mk.injEq] at hk
      obtain ⟨rfl, rfl, rfl⟩ := hk
      have p28 : D 28 = true := hdp _ rfl 28 (by decide)
      have s78 : a.eval (.tmp 78) = .bool false := hI.slots (28, 78, .bool false) (by simp [R6T]) p28
      obtain ⟨og, hog1, hog2⟩ := hog 28 (by decide)
      have hgd : og.dst = some 78 := by simp only [key, R6K, List.getElem?_cons_zero, List.getElem?_cons_succ, Option.some.injEq, Prod.mk.injEq] at hog2; exact hog2.1.symm
      have p32 : D 32 = true := hdp _ rfl 32 (by decide)
      obtain ⟨z, z1, z2, z3⟩ := hI.sl p32
      refine wpOp_gd ho rfl hog1 hgd (by omega) s78 (op_run (n := .value (.agg #[.int .i64 5, .int .i64 0, .slice (some ⟨z, 0, none⟩) 2 2])) (w' := wr) ?_ ?_)
      · have ec : ∀ v, a.eval (.const v) = v := fun _ => rfl
        generalize a.eval = ev at *
        unfold execOp
        simp [go_sem, ec, z1]
      · refine ⟨hI.fr.put (by omega) (by omega) _, hI.slots.put 33 83 _ (by omega) (by simp [R6T]), hI.b, fun _ => upd_mono p32, fun _ => ⟨z, by rw [eval_put_ne (by decide)]; exact z1, z2, fun _ => eval_put_same (by omega) _⟩⟩
    · -- 34
      obtain ⟨odst, oop, oty, opos, oaft, ogd⟩ := o
      simp only [key, R6K, List.getElem?_cons_zero, List.getElem?_cons_succ, Option.some.injEq, Prod.mk.injEq] at hk
      obtain ⟨rfl, rfl, rfl⟩ := hk
      have p29 : D 29 = true := hdp _ rfl 29 (by decide)
      have s79 : a.eval (.tmp 79) = .agg #[.int .i64 kk, .int .i64 nn, .slice aa len cap] := hI.slots (29, 79, .agg #[.int .i64 kk, .int .i64 nn, .slice aa len cap]) (by simp [R6T]) p29
      have p28 : D 28 = true := hdp _ rfl 28 (by decide)
      have s78 : a.eval (.tmp 78) = .bool false := hI.slots (28, 78, .bool false) (by simp [R6T]) p28
      obtain ⟨og, hog1, hog2⟩ := hog 28 (by decide)
      have hgd : og.dst = some 78 := by simp only [key, R6K, List.getElem?_cons_zero, List.getElem?_cons_succ, Option.some.injEq, Prod.mk.injEq] at hog2; exact hog2.1.symm
      have p33 : D 33 = true := hdp _ rfl 33 (by decide)
      have p28b : D 32 = true := by
        exact hI.ch p33
      obtain ⟨z, z1, z2, z3⟩ := hI.sl p28b
      have hv2 := IsV.later hv hI.b
      exact wpOp_gd ho rfl hog1 hgd (by omega) s78 (op_same rfl s79 (z3 p33) hv2 z2 fun w1 hb1 => hI.step 34 84 (.bool true) (by omega) (by omega) (by omega) (by decide) (by decide) (by simp [R6T]) hb1)
    · -- 35
      obtain ⟨odst, oop, oty, opos, oaft, ogd⟩ := o
      simp only [key, R6K, List.getElem?_cons_zero, List.getElem?_cons_succ, Option.some.injEq, Prod.mk.injEq] at hk
      obtain ⟨rfl, rfl, rfl⟩ := hk
      have p34 : D 34 = true := hdp _ rfl 34 (by decide)
      have s84 : a.eval (.tmp 84) = .bool true := hI.slots (34, 84, .bool true) (by simp [R6T]) p34
      have p28 : D 28 = true := hdp _ rfl 28 (by decide)
      have s78 : a.eval (.tmp 78) = .bool false := hI.slots (28, 78, .bool false) (by simp [R6T]) p28
      obtain ⟨og, hog1, hog2⟩ := hog 28 (by decide)
      have hgd : og.dst = some 78 := by simp only [key, R6K, List.getElem?_cons_zero, List.getElem?_cons_succ, Option.some.injEq, Prod.mk.injEq] at hog2; exact hog2.1.symm
      refine wpOp_gd ho rfl hog1 hgd (by omega) s78 (op_run (n := .value (.bool false)) (w' := wr) ?_ (hI.step 35 85 (.bool false) (by omega) (by omega) (by omega) (by decide) (by decide) (by simp [R6T]) (bel_refl _)))
      have ec : ∀ v, a.eval (.const v) = v := fun _ => rfl
      generalize a.eval = ev at *
      unfold execOp
      simp [go_sem, s84]
    · -- 36
      obtain ⟨odst, oop, oty, opos, oaft, ogd⟩ := o
      simp only [key, R6K, List.getElem?_cons_zero, List.getElem?_cons_succ, Option.some.injEq, Prod.mk.injEq] at hk
      obtain ⟨rfl, rfl, rfl⟩ := hk
      have p28 : D 28 = true := hdp _ rfl 28 (by decide)
      have s78 : a.eval (.tmp 78) = .bool false := hI.slots (28, 78, .bool false) (by simp [R6T]) p28
      have p35 : D 35 = true := hdp _ rfl 35 (by decide)
      have s85 : a.eval (.tmp 85) = .bool false := hI.slots (35, 85, .bool false) (by simp [R6T]) p35
      refine wpOp_of ho rfl (op_run (n := .value (.bool false)) (w' := wr) ?_ (hI.step 36 86 (.bool false) (by omega) (by omega) (by omega) (by decide) (by decide) (by simp [R6T]) (bel_refl _)))
      have ec : ∀ v, a.eval (.const v) = v := fun _ => rfl
      generalize a.eval = ev at *
      unfold execOp
      simp [go_sem, ec, s78, s85]
  · intro D a wr hI hall
    have hs : ops.size = 37 := hsh.size
    exact hQ a wr hI.fr (hI.slots (36, 86, .bool false) (by simp [R6T]) (hall 36 (by omega))) (hst.below hI.b)
end Go.Proofs.YtkahboomahhdoaaDoor
