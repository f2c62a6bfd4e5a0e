/-
  One operation at a time, over a frame that is a variable.
-/
import Derived.Test.YtkahboomahhdoaaDoorRInv
import Derived.WalkSpells
import Derived.WalkLawsBesides
import Derived.Deep.AppendLies
namespace Go.Proofs.YtkahboomahhdoaaDoor
open Go.RowKit
section
variable {P : Program} {ops : Array Oper} {Q : Exit → Act → World → Prop} {K : Act → World → Prop} {a : Act} {w : World} {o : Oper}

theorem wpOp_of {i : Nat} (ho : ops[i]? = some o) (hg : o.guard = none) (h : o.wp P a w K Q) : wpOp P ops Q i K a w := by
  unfold wpOp
  rw [ho]
  simp only [Region.wanted, hg, if_true]
  exact .inl h

theorem op_move {x : Operand} {v : Value} (h : o.op = .move x) (hx : a.eval x = v) (hk : K (a.put o.dst v) w) : o.wp P a w K Q := by
  subst hx
  unfold Oper.wp execOp
  simp only [h]
  exact hk
theorem op_run {n : Next} {w' : World} (h : (execOp a.eval o).run P w = .ok n w') (hk : o.upon P a K Q (.ok n w')) : o.wp P a w K Q := by
  unfold Oper.wp
  rw [h]
  exact hk
theorem op_nilCheck {x : Operand} {p : Addr} (h : o.op = .nilCheck x) (hx : a.eval x = .pointer (some p)) (hk : K (a.put o.dst (.pointer (some p))) w) : o.wp P a w K Q := by
  refine op_run (n := .value (.pointer (some p))) (w' := w) ?_ hk
  generalize a.eval = ev at *
  unfold execOp
  simp only [h]
  simp [go_sem, hx]
theorem op_load1 {x : Operand} {p : Addr} {t : TypeId} {v : Value} (h : o.op = .load t x) (hx : a.eval x = .pointer (some p)) (hu : (isAgg t).run P w = .ok false w)
    (hc : w.cell? p = some v) (hk : K (a.put o.dst v) w) : o.wp P a w K Q := by
  refine op_run (n := .value v) (w' := w) ?_ hk
  generalize a.eval = ev at *
  unfold execOp
  simp only [h]
  simp [go_sem, hx, hu, hc]
end
section
variable {ops : Array Oper} {Q : Exit → Act → World → Prop} {K : Act → World → Prop} {a : Act} {w : World} {o : Oper}
theorem op_valL {x : Operand} {vb : Nat} (h : o.op = .fieldAddr 26 x 2) (hx : a.eval x = .pointer (some ⟨vb, 0, none⟩)) (hk : K (a.put o.dst (.pointer (some ⟨vb, 2, none⟩))) w) : o.wp Tryd.prog a w K Q := by
  refine op_run (n := .value (.pointer (some ⟨vb, 2, none⟩))) (w' := w) ?_ hk
  generalize a.eval = ev at *
  unfold execOp
  simp only [h]
  simp [go_sem, hx]
theorem notAgg_slice (w : World) : (isAgg 24).run Tryd.prog w = .ok false w := by kernel_rfl
theorem op_len {x : Operand} {p : Option Addr} {n c : Nat} (h : o.op = .call { callee := .builtin .len, args := #[x], argTypes := #[24] }) (hx : a.eval x = .slice p n c) (hk : K (a.put o.dst (.int .i64 n)) w) : o.wp Tryd.prog a w K Q := by
  refine op_run (n := .value (.int .i64 n)) (w' := w) ?_ hk
  generalize a.eval = ev at *
  unfold execOp
  simp only [h]
  simp [go_sem, hx]
theorem op_buildZero (h : o.op = .buildSlice 24 1 #[(0, .const (.agg #[.int .i64 0, .int .i64 0, .slice none 0 0]))])
    (hk : K (a.put o.dst (.slice (some ⟨w.heap.size, 0, none⟩) 1 1)) (w.alloc (.cells #[.int .i64 0, .int .i64 0, .slice none 0 0] 26))) : o.wp Tryd.prog a w K Q := by
  refine op_run (n := .value (.slice (some ⟨w.heap.size, 0, none⟩) 1 1)) (w' := w.alloc (.cells #[.int .i64 0, .int .i64 0, .slice none 0 0] 26)) ?_ hk
  unfold execOp
  simp only [h]
  simp [go_sem]
theorem op_elemAddr {x y : Operand} {g n c : Nat} (h : o.op = .indexAddr 24 x y) (hx : a.eval x = .slice (some ⟨g, 0, none⟩) (n + 1) c) (hy : a.eval y = .int .i64 n)
    (hk : K (a.put o.dst (.pointer (some ⟨g, n * 3, none⟩))) w) : o.wp Tryd.prog a w K Q := by
  refine op_run (n := .value (.pointer (some ⟨g, n * 3, none⟩))) (w' := w) ?_ hk
  generalize a.eval = ev at *
  unfold execOp
  simp only [h]
  have h1 : (n : Int) < (n : Int) + 1 := by omega
  simp [go_sem, hx, hy, h1]
theorem op_storeVal {x y : Operand} {g m : Nat} {k n : Int} {p : Option Addr} {len cap : Nat} {c0 c1 c2 : Value} (h : o.op = .store 26 x y) (hx : a.eval x = .pointer (some ⟨g, m, none⟩)) (hy : a.eval y = .agg #[.int .i64 k, .int .i64 n, .slice p len cap])
    (e0 : w.cell? ⟨g, m, none⟩ = some c0) (e1 : w.cell? ⟨g, m + 1, none⟩ = some c1) (e2 : w.cell? ⟨g, m + 2, none⟩ = some c2) (hf : ∀ o, w.frozen? ⟨g, o, none⟩ = false)
    (hk : K (a.put o.dst undef) (((w.setCell ⟨g, m, none⟩ (.int .i64 k)).setCell ⟨g, m + 1, none⟩ (.int .i64 n)).setCell ⟨g, m + 2, none⟩ (.slice p len cap))) : o.wp Tryd.prog a w K Q := by
  refine op_run (n := .skip) (w' := ((w.setCell ⟨g, m, none⟩ (.int .i64 k)).setCell ⟨g, m + 1, none⟩ (.int .i64 n)).setCell ⟨g, m + 2, none⟩ (.slice p len cap)) ?_ hk
  generalize a.eval = ev at *
  unfold execOp
  simp only [h]
  simp [go_sem, hx, hy, e0, e1, e2, hf]
theorem op_storeL {x y : Operand} {q : Addr} {p : Option Addr} {len cap : Nat} {c0 : Value} (h : o.op = .store 24 x y) (hx : a.eval x = .pointer (some q)) (hy : a.eval y = .slice p len cap)
    (e0 : w.cell? q = some c0) (hf : w.frozen? q = false)
    (hk : K (a.put o.dst undef) (w.setCell q (.slice p len cap))) : o.wp Tryd.prog a w K Q := by
  refine op_run (n := .skip) (w' := w.setCell q (.slice p len cap)) ?_ hk
  generalize a.eval = ev at *
  unfold execOp
  simp only [h]
  simp [go_sem, hx, hy, e0, hf]
theorem op_callValue {r m : Operand} {vr : Value} {mf : Nat} (h : o.op = .call { callee := .value (.func 30), args := #[r, m], argTypes := #[62, 66] }) (hr : a.eval r = vr) (hm : a.eval m = .func (.func mf) #[] #[])
    (hk : Calls Tryd.prog 30 #[vr, .func (.func mf) #[] #[]] w fun
      | .returned v, w'' => K (a.put o.dst v) w''
      | .panicked chain, w'' => Q (.panic chain) a w''
      | .outgrown, _ => LetsOut Q) : o.wp Tryd.prog a w K Q := by
  refine op_run (n := .enter 30 #[vr, .func (.func mf) #[] #[]]) (w' := w) ?_ hk
  have e1 : a.eval (.func 30) = .func (.func 30) #[] #[] := rfl
  generalize a.eval = ev at *
  unfold execOp
  simp only [h]
  simp [go_sem, hr, hm, e1]
end
end Go.Proofs.YtkahboomahhdoaaDoor
