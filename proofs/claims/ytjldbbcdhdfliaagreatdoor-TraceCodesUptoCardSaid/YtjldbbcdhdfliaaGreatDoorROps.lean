/-
 A region that draws its order, by an invariant: what holds of the done operations, the frame and the world is shown to be kept by each operation once, whatever the order.
-/
import Derived.Test.YtjldbbcdhdfliaaGreatDoorRows
import Derived.WalkKit
import Derived.WalkSpells
import Derived.WalkLawsBesides
import Derived.Deep.AppendLies
namespace Go.Proofs.YtjldbbcdhdfliaaGreatDoor
open Go.RowKit

def upd (D : Nat → Bool) (i : Nat) : Nat → Bool := fun j => if j = i then true else D j
theorem upd_same (D : Nat → Bool) (i : Nat) : upd D i i = true := by simp [upd]
theorem upd_ne (D : Nat → Bool) {i j : Nat} (h : j ≠ i) : upd D i j = D j := by simp [upd, h]

def falses (l : List Bool) : Nat := l.countP (· == false)

theorem falses_set : ∀ (l : List Bool) (i : Nat), l[i]? = some false → falses (l.set i true) + 1 = falses l
 | [], i, h => by simp at h
 | b :: r, 0, h => by
  simp at h
  subst h
  simp [falses]
 | b :: r, i + 1, h => by
  have := falses_set r i (by simpa using h)
  simp only [falses, List.set_cons_succ, List.countP_cons] at this ⊢
  omega
theorem falses_zero : ∀ (l : List Bool), falses l = 0 → ∀ i, i < l.length → l[i]? = some true
 | [], _, i, h => by simp at h
 | b :: r, h, 0, _ => by
  simp only [falses, List.countP_cons] at h
  cases b
  ·simp at h
  ·rfl
 | b :: r, h, i + 1, hi => by
  have h2 : falses r = 0 := by simp only [falses, List.countP_cons] at h ⊢; omega
  simpa using falses_zero r h2 i (by simpa using hi)

section
variable {P : Program} {ops : Array Oper} {Q : Exit → Act → World → Prop}
/-- The edges go back in the text. -/
def Edged (ops : Array Oper) : Prop := ∀ i o, ops[i]? = some o → ∀ e ∈ o.after, Region.binds .any e = true → e.on < i

theorem all_listed (he : Edged ops) (listed : Array Bool) (hs : listed.size = ops.size) (hr : Region.ready .any ops listed = []) : ∀ i, i < ops.size → listed.getD i false = true := by
 intro i
 induction i using Nat.strongRecOn with
 | _ i ih =>
  intro hi
  have ho : ops[i]? = some ops[i] := Array.getElem?_eq_getElem hi
  have hl : i < listed.size := by omega
  cases hb : listed[i] with
  | true => simp [Array.getD, hl, hb]
  | false =>
   exfalso
   have : i ∈ Region.ready .any ops listed := by
    unfold Region.ready
    rw [List.mem_filter]
    refine ⟨by simpa using hi, ?_⟩
    rw [ho]
    simp only [Array.getD, hl, dif_pos, Option.map_some, Option.getD_some]
    simp only [Array.getInternal_eq_getElem, hb, Bool.not_false, Bool.true_and, Array.all_eq_true_iff_forall_mem]
    intro e hm
    cases hbd : Region.binds .any e with
    | false => rfl
    | true =>
     have h1 := he i _ ho e hm hbd
     have h2 := ih e.on h1 (by omega)
     simpa [Array.getD] using h2
   rw [hr] at this
   cases this

theorem wpAny_inv (he : Edged ops) (I : (Nat → Bool) → Act → World → Prop)
  (hstep : ∀ (D : Nat → Bool) (a : Act) (w : World) (i : Nat) (o : Oper), I D a w → ops[i]? = some o → D i = false → (∀ e ∈ o.after, Region.binds .any e = true → D e.on = true) →
   wpOp P ops Q i (fun a' w' => I (upd D i) a' w') a w)
  (hend : ∀ (D : Nat → Bool) (a : Act) (w : World), I D a w → (∀ i, i < ops.size → D i = true) → Q .normal a w) :
  ∀ (fuel : Nat) (listed : Array Bool) (a : Act) (w : World), listed.size = ops.size → falses listed.toList ≤ fuel → I (fun j => listed.getD j false) a w → wpAny P .any ops Q fuel listed a w := by
 intro fuel
 induction fuel with
 | zero =>
  intro listed a w hs hf hI
  have hall : ∀ i, i < ops.size → listed.getD i false = true := by
   intro i hi
   have := falses_zero listed.toList (by omega) i (by simpa [hs] using hi)
   simp only [Array.getElem?_toList] at this
   simp [this]
  refine ⟨?_, hend _ a w hI hall⟩
  unfold Region.ready
  rw [List.filter_eq_nil_iff]
  intro i hi
  have hi' : i < ops.size := by simpa using hi
  have h1 := hall i hi'
  have hl : i < listed.size := by omega
  have h2 : listed.getD i true = true := by
   simp only [Array.getD, hl, dif_pos] at h1 ⊢
   exact h1
  rw [h2]
  simp
 | succ fuel ih =>
  intro listed a w hs hf hI
  refine ⟨fun hr => hend _ a w hI (all_listed he listed hs hr), fun i hi => ?_⟩
  unfold Region.ready at hi
  rw [List.mem_filter] at hi
  have hi' : i < ops.size := by simpa using hi.1
  have ho : ops[i]? = some ops[i] := Array.getElem?_eq_getElem hi'
  have hl : i < listed.size := by omega
  have hc := hi.2
  rw [ho] at hc
  simp only [Array.getD, hl, dif_pos, Option.map_some, Option.getD_some, Bool.and_eq_true, Bool.not_eq_true', Array.getInternal_eq_getElem, Array.all_eq_true_iff_forall_mem] at hc
  have hfi : listed[i] = false := hc.1
  refine wpOp_mono ?_ (hstep _ a w i _ hI ho (by simp [Array.getD, hl, hfi]) ?_)
  ·intro a' w' hI'
   refine ih _ a' w' (by simpa using hs) ?_ ?_
   ·have := falses_set listed.toList i (by simp [hl, hfi])
    simp only [Array.toList_setIfInBounds]
    omega
   ·have e : (fun j => (listed.setIfInBounds i true).getD j false) = upd (fun j => listed.getD j false) i := by
     funext j
     unfold upd
     by_cases hj : j = i
     ·subst hj
      simp [hl]
     ·simp [hj, Ne.symm hj]
    rw [e]
    exact hI'
  ·intro e hm hb
   have := hc.2 e hm
   rw [hb] at this
   simpa [Array.getD] using this

/-- A region that draws its order, by an invariant. -/
theorem wp_region_inv {id : Nat} {a : Act} {w : World} (hm : P.follows .mixedOrders = true) (he : Edged ops) (I : (Nat → Bool) → Act → World → Prop)
  (h0 : I (fun _ => false) a w.drew)
  (hstep : ∀ (D : Nat → Bool) (a : Act) (w : World) (i : Nat) (o : Oper), I D a w → ops[i]? = some o → D i = false → (∀ e ∈ o.after, Region.binds .any e = true → D e.on = true) →
   wpOp P ops Q i (fun a' w' => I (upd D i) a' w') a w)
  (hend : ∀ (D : Nat → Bool) (a : Act) (w : World), I D a w → (∀ i, i < ops.size → D i = true) → Q .normal a w) : (Code.region id ops true).wp P Q a w := by
 refine wp_region_any hm (wpAny_inv he I hstep hend ops.size _ a _ (by simp) ?_ ?_)
 ·unfold falses
  have := List.countP_le_length (p := (· == false)) (l := (Array.replicate ops.size false).toList)
  simpa using this
 ·have e : (fun j => (Array.replicate ops.size false).getD j false) = fun _ => false := by
   funext j
   by_cases hj : j < ops.size <;> simp [hj]
  rw [e]
  exact h0
end
end Go.Proofs.YtjldbbcdhdfliaaGreatDoor
/-
 One operation at a time, over a frame that is a variable.
-/
namespace Go.Proofs.YtjldbbcdhdfliaaGreatDoor
open Go.RowKit
section
variable {P : Program} {ops : Array Oper} {Q : Exit → Act → World → Prop} {K : Act → World → Prop} {a : Act} {w : World} {o : Oper}

theorem wpOp_of {i : Nat} (ho : ops[i]? = some o) (hg : o.guard = none) (h : o.wp P a w K Q) : wpOp P ops Q i K a w := by
 unfold wpOp
 rw [ho]
 simp only [Region.wanted, hg, if_true]
 exact .inl h

theorem op_move {x : Operand} {v : Value} (h : o.op = .move x) (hx : a.eval x = v) (hk : K (a.put o.dst v) w) : o.wp P a w K Q := by
 subst hx
 unfold Oper.wp execOp
 simp only [h]
 exact hk
theorem op_run {n : Next} {w' : World} (h : (execOp a.eval o).run P w = .ok n w') (hk : o.upon P a K Q (.ok n w')) : o.wp P a w K Q := by
 unfold Oper.wp
 rw [h]
 exact hk
theorem op_nilCheck {x : Operand} {p : Addr} (h : o.op = .nilCheck x) (hx : a.eval x = .pointer (some p)) (hk : K (a.put o.dst (.pointer (some p))) w) : o.wp P a w K Q := by
 refine op_run (n := .value (.pointer (some p))) (w' := w) ?_ hk
 generalize a.eval = ev at *
 unfold execOp
 simp only [h]
 simp [go_sem, hx]
theorem op_load1 {x : Operand} {p : Addr} {t : TypeId} {v : Value} (h : o.op = .load t x) (hx : a.eval x = .pointer (some p)) (hu : (isAgg t).run P w = .ok false w)
  (hc : w.cell? p = some v) (hk : K (a.put o.dst v) w) : o.wp P a w K Q := by
 refine op_run (n := .value v) (w' := w) ?_ hk
 generalize a.eval = ev at *
 unfold execOp
 simp only [h]
 simp [go_sem, hx, hu, hc]
end
section
variable {ops : Array Oper} {Q : Exit → Act → World → Prop} {K : Act → World → Prop} {a : Act} {w : World} {o : Oper}
theorem op_valL {x : Operand} {vb : Nat} (h : o.op = .fieldAddr 27 x 2) (hx : a.eval x = .pointer (some ⟨vb, 0, none⟩)) (hk : K (a.put o.dst (.pointer (some ⟨vb, 2, none⟩))) w) : o.wp Tryz.prog a w K Q := by
 refine op_run (n := .value (.pointer (some ⟨vb, 2, none⟩))) (w' := w) ?_ hk
 generalize a.eval = ev at *
 unfold execOp
 simp only [h]
 simp [go_sem, hx]
theorem notAgg_slice (w : World) : (isAgg 25).run Tryz.prog w = .ok false w := by kernel_rfl
theorem op_len {x : Operand} {p : Option Addr} {n c : Nat} (h : o.op = .call { callee := .builtin .len, args := #[x], argTypes := #[25] }) (hx : a.eval x = .slice p n c) (hk : K (a.put o.dst (.int .i64 n)) w) : o.wp Tryz.prog a w K Q := by
 refine op_run (n := .value (.int .i64 n)) (w' := w) ?_ hk
 generalize a.eval = ev at *
 unfold execOp
 simp only [h]
 simp [go_sem, hx]
theorem op_buildZero (h : o.op = .buildSlice 25 1 #[(0, .const (.agg #[.int .i64 0, .int .i64 0, .slice none 0 0]))])
  (hk : K (a.put o.dst (.slice (some ⟨w.heap.size, 0, none⟩) 1 1)) (w.alloc (.cells #[.int .i64 0, .int .i64 0, .slice none 0 0] 27))) : o.wp Tryz.prog a w K Q := by
 refine op_run (n := .value (.slice (some ⟨w.heap.size, 0, none⟩) 1 1)) (w' := w.alloc (.cells #[.int .i64 0, .int .i64 0, .slice none 0 0] 27)) ?_ hk
 unfold execOp
 simp only [h]
 simp [go_sem]
theorem op_elemAddr {x y : Operand} {g n c : Nat} (h : o.op = .indexAddr 25 x y) (hx : a.eval x = .slice (some ⟨g, 0, none⟩) (n + 1) c) (hy : a.eval y = .int .i64 n)
  (hk : K (a.put o.dst (.pointer (some ⟨g, n * 3, none⟩))) w) : o.wp Tryz.prog a w K Q := by
 refine op_run (n := .value (.pointer (some ⟨g, n * 3, none⟩))) (w' := w) ?_ hk
 generalize a.eval = ev at *
 unfold execOp
 simp only [h]
 have h1 : (n : Int) < (n : Int) + 1 := by omega
 simp [go_sem, hx, hy, h1]
theorem op_storeVal {x y : Operand} {g m : Nat} {k n : Int} {p : Option Addr} {len cap : Nat} {c0 c1 c2 : Value} (h : o.op = .store 27 x y) (hx : a.eval x = .pointer (some ⟨g, m, none⟩)) (hy : a.eval y = .agg #[.int .i64 k, .int .i64 n, .slice p len cap])
  (e0 : w.cell? ⟨g, m, none⟩ = some c0) (e1 : w.cell? ⟨g, m + 1, none⟩ = some c1) (e2 : w.cell? ⟨g, m + 2, none⟩ = some c2) (hf : ∀ o, w.frozen? ⟨g, o, none⟩ = false)
  (hk : K (a.put o.dst undef) (((w.setCell ⟨g, m, none⟩ (.int .i64 k)).setCell ⟨g, m + 1, none⟩ (.int .i64 n)).setCell ⟨g, m + 2, none⟩ (.slice p len cap))) : o.wp Tryz.prog a w K Q := by
 refine op_run (n := .skip) (w' := ((w.setCell ⟨g, m, none⟩ (.int .i64 k)).setCell ⟨g, m + 1, none⟩ (.int .i64 n)).setCell ⟨g, m + 2, none⟩ (.slice p len cap)) ?_ hk
 generalize a.eval = ev at *
 unfold execOp
 simp only [h]
 simp [go_sem, hx, hy, e0, e1, e2, hf]
theorem op_storeL {x y : Operand} {q : Addr} {p : Option Addr} {len cap : Nat} {c0 : Value} (h : o.op = .store 25 x y) (hx : a.eval x = .pointer (some q)) (hy : a.eval y = .slice p len cap)
  (e0 : w.cell? q = some c0) (hf : w.frozen? q = false)
  (hk : K (a.put o.dst undef) (w.setCell q (.slice p len cap))) : o.wp Tryz.prog a w K Q := by
 refine op_run (n := .skip) (w' := w.setCell q (.slice p len cap)) ?_ hk
 generalize a.eval = ev at *
 unfold execOp
 simp only [h]
 simp [go_sem, hx, hy, e0, hf]
theorem op_callValue {r m : Operand} {vr : Value} {mf : Nat} (h : o.op = .call { callee := .value (.func 102), args := #[r, m], argTypes := #[166, 170] }) (hr : a.eval r = vr) (hm : a.eval m = .func (.func mf) #[] #[])
  (hk : Calls Tryz.prog 102 #[vr, .func (.func mf) #[] #[]] w fun
   | .returned v, w'' => K (a.put o.dst v) w''
   | .panicked chain, w'' => Q (.panic chain) a w''
   | .outgrown, _ => LetsOut Q) : o.wp Tryz.prog a w K Q := by
 refine op_run (n := .enter 102 #[vr, .func (.func mf) #[] #[]]) (w' := w) ?_ hk
 have e1 : a.eval (.func 102) = .func (.func 102) #[] #[] := rfl
 generalize a.eval = ev at *
 unfold execOp
 simp only [h]
 simp [go_sem, hr, hm, e1]
end
end Go.Proofs.YtjldbbcdhdfliaaGreatDoor
