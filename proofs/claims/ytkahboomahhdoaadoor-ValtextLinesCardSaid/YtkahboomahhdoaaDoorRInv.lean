/-
  A region that draws its order, by an invariant: what holds of the done operations, the frame and the world is shown to be kept by each operation once, whatever the order.
-/
import Derived.Test.YtkahboomahhdoaaDoorRows
import Derived.WalkKit
namespace Go.Proofs.YtkahboomahhdoaaDoor
open Go.RowKit

def upd (D : Nat → Bool) (i : Nat) : Nat → Bool := fun j => if j = i then true else D j
theorem upd_same (D : Nat → Bool) (i : Nat) : upd D i i = true := by simp [upd]
theorem upd_ne (D : Nat → Bool) {i j : Nat} (h : j ≠ i) : upd D i j = D j := by simp [upd, h]

def falses (l : List Bool) : Nat := l.countP (· == false)

theorem falses_set : ∀ (l : List Bool) (i : Nat), l[i]? = some false → falses (l.set i true) + 1 = falses l
  | [], i, h => by simp at h
  | b :: r, 0, h => by
    simp at h
    subst h
    simp [falses]
  | b :: r, i + 1, h => by
    have := falses_set r i (by simpa using h)
    simp only [falses, List.set_cons_succ, List.countP_cons] at this ⊢
    omega
theorem falses_zero : ∀ (l : List Bool), falses l = 0 → ∀ i, i < l.length → l[i]? = some true
  | [], _, i, h => by simp at h
  | b :: r, h, 0, _ => by
    simp only [falses, List.countP_cons] at h
    cases b
    · simp at h
    · rfl
  | b :: r, h, i + 1, hi => by
    have h2 : falses r = 0 := by simp only [falses, List.countP_cons] at h ⊢; omega
    simpa using falses_zero r h2 i (by simpa using hi)

section
variable {P : Program} {ops : Array Oper} {Q : Exit → Act → World → Prop}
/-- The edges go back in the text. -/
def Edged (ops : Array Oper) : Prop := ∀ i o, ops[i]? = some o → ∀ e ∈ o.after, Region.binds .any e = true → e.on < i

theorem all_listed (he : Edged ops) (listed : Array Bool) (hs : listed.size = ops.size) (hr : Region.ready .any ops listed = []) : ∀ i, i < ops.size → listed.getD i false = true := by
  intro i
  induction i using Nat.strongRecOn with
  | _ i ih =>
    intro hi
    have ho : ops[i]? = some ops[i] := Array.getElem?_eq_getElem hi
    have hl : i < listed.size := by omega
    cases hb : listed[i] with
    | true => simp [Array.getD, hl, hb]
    | false =>
      exfalso
      have : i ∈ Region.ready .any ops listed := by
        unfold Region.ready
        rw [List.mem_filter]
        refine ⟨by simpa using hi, ?_⟩
        rw [ho]
        simp only [Array.getD, hl, dif_pos, Option.map_some, Option.getD_some]
        simp only [Array.getInternal_eq_getElem, hb, Bool.not_false, Bool.true_and, Array.all_eq_true_iff_forall_mem]
        intro e hm
        cases hbd : Region.binds .any e with
        | false => rfl
        | true =>
          have h1 := he i _ ho e hm hbd
          have h2 := ih e.on h1 (by omega)
          simpa [Array.getD] using h2
      rw [hr] at this
      cases this

theorem wpAny_inv (he : Edged ops) (I : (Nat → Bool) → Act → World → Prop)
    (hstep : ∀ (D : Nat → Bool) (a : Act) (w : World) (i : Nat) (o : Oper), I D a w → ops[i]? = some o → D i = false → (∀ e ∈ o.after, Region.binds .any e = true → D e.on = true) →
      wpOp P ops Q i (fun a' w' => I (upd D i) a' w') a w)
    (hend : ∀ (D : Nat → Bool) (a : Act) (w : World), I D a w → (∀ i, i < ops.size → D i = true) → Q .normal a w) :
    ∀ (fuel : Nat) (listed : Array Bool) (a : Act) (w : World), listed.size = ops.size → falses listed.toList ≤ fuel → I (fun j => listed.getD j false) a w → wpAny P .any ops Q fuel listed a w := by
  intro fuel
  induction fuel with
  | zero =>
    intro listed a w hs hf hI
    have hall : ∀ i, i < ops.size → listed.getD i false = true := by
      intro i hi
      have := falses_zero listed.toList (by omega) i (by simpa [hs] using hi)
      simp only [Array.getElem?_toList] at this
      simp [this]
    refine ⟨?_, hend _ a w hI hall⟩
    unfold Region.ready
    rw [List.filter_eq_nil_iff]
    intro i hi
    have hi' : i < ops.size := by simpa using hi
    have h1 := hall i hi'
    have hl : i < listed.size := by omega
    have h2 : listed.getD i true = true := by
      simp only [Array.getD, hl, dif_pos] at h1 ⊢
      exact h1
    rw [h2]
    simp
  | succ fuel ih =>
    intro listed a w hs hf hI
    refine ⟨fun hr => hend _ a w hI (all_listed he listed hs hr), fun i hi => ?_⟩
    unfold Region.ready at hi
    rw [List.mem_filter] at hi
    have hi' : i < ops.size := by simpa using hi.1
    have ho : ops[i]? = some ops[i] := Array.getElem?_eq_getElem hi'
    have hl : i < listed.size := by omega
    have hc := hi.2
    rw [ho] at hc
    simp only [Array.getD, hl, dif_pos, Option.map_some, Option.getD_some, Bool.and_eq_true, Bool.not_eq_true', Array.getInternal_eq_getElem, Array.all_eq_true_iff_forall_mem] at hc
    have hfi : listed[i] = false := hc.1
    refine wpOp_mono ?_ (hstep _ a w i _ hI ho (by simp [Array.getD, hl, hfi]) ?_)
    · intro a' w' hI'
      refine ih _ a' w' (by simpa using hs) ?_ ?_
      · have := falses_set listed.toList i (by simp [hl, hfi])
        simp only [Array.toList_setIfInBounds]
        omega
      · have e : (fun j => (listed.setIfInBounds i true).getD j false) = upd (fun j => listed.getD j false) i := by
          funext j
          unfold upd
          by_cases hj : j = i
          · subst hj
            simp [hl]
          · simp [hj, Ne.symm hj]
        rw [e]
        exact hI'
    · intro e hm hb
      have := hc.2 e hm
      rw [hb] at this
      simpa [Array.getD] using this

/-- A region that draws its order, by an invariant. -/
theorem wp_region_inv {id : Nat} {a : Act} {w : World} (hm : P.follows .mixedOrders = true) (he : Edged ops) (I : (Nat → Bool) → Act → World → Prop)
    (h0 : I (fun _ => false) a w.drew)
    (hstep : ∀ (D : Nat → Bool) (a : Act) (w : World) (i : Nat) (o : Oper), I D a w → ops[i]? = some o → D i = false → (∀ e ∈ o.after, Region.binds .any e = true → D e.on = true) →
      wpOp P ops Q i (fun a' w' => I (upd D i) a' w') a w)
    (hend : ∀ (D : Nat → Bool) (a : Act) (w : World), I D a w → (∀ i, i < ops.size → D i = true) → Q .normal a w) : (Code.region id ops true).wp P Q a w := by
  refine wp_region_any hm (wpAny_inv he I hstep hend ops.size _ a _ (by simp) ?_ ?_)
  · unfold falses
    have := List.countP_le_length (p := (· == false)) (l := (Array.replicate ops.size false).toList)
    simpa using this
  · have e : (fun j => (Array.replicate ops.size false).getD j false) = fun _ => false := by
      funext j
      by_cases hj : j < ops.size <;> simp [hj]
    rw [e]
    exact h0
end
end Go.Proofs.YtkahboomahhdoaaDoor
