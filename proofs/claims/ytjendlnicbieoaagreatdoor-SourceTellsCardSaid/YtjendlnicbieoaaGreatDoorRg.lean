/-
  A region that draws its order, within a round of a range over a function: what goes through elsewhere goes through there (no operation of it is a defer statement).
-/
import Derived.Test.YtjendlnicbieoaaGreatDoorRf
import Derived.OrdersIn
import Derived.Deep.QuietTactic
import Derived.Lib.QuietBelow
namespace Go.Proofs.YtjendlnicbieoaaGreatDoor
open Go.RowKit

section
variable {P : Program} {n l : Nat} {Q : Exit → Act → World → Prop}
theorem round_op {o : Oper} {a : Act} {w : World} {K : Act → World → Prop} (hd : ∀ c, o.op ≠ .defer c) (h : o.wp P a w K Q) : o.wpIn (Fence.wide.inRound l) n P a w K Q := by
  refine ⟨fun _ _ => trivial, ?_⟩
  have hdp : (Fence.wide.inRound l).depth.isSome = true → 1 ≤ n := fun h => by simp [Fence.inRound, Fence.wide] at h
  unfold Oper.wp at h
  rw [Oper.semAt_eq _ _ _ hd]
  generalize (execOp a.eval o).run P w = r at *
  cases r with
  | ok x w' =>
    cases x with
    | enter f args => exact ⟨hdp, CallsIn.inRound l (callsIn_wide.2 h)⟩
    | row row args => exact ⟨hdp, fun c cs _ => let ⟨v, w', r, s⟩ := h c cs; ⟨v, w', r, stepsIn_wide.2 s⟩⟩
    | value v => exact h
    | skip => exact h
    | defer d => exact h
    | _ => exact h.elim
  | halt x w' => cases x <;> first | exact h | exact h.elim
theorem round_any {ops : Array Oper} (hnd : ∀ o ∈ ops, ∀ c, o.op ≠ .defer c) (hout : ¬ LetsOut Q) : ∀ (fuel : Nat) (listed : Array Bool) (a : Act) (w : World), wpAny P .any ops Q fuel listed a w → wpAnyIn (Fence.wide.inRound l) n P .any ops Q fuel listed a w
  | 0, _, _, _, h => h
  | fuel + 1, listed, a, w, h => ⟨h.1, fun i hi => by
    have h1 := wpOp_mono (fun a' w' hh => round_any hnd hout fuel _ a' w' hh) (h.2 i hi)
    unfold wpOp at h1
    unfold wpOpIn
    cases ho : ops[i]? with
    | none => rw [ho] at h1; exact h1
    | some o =>
      rw [ho] at h1
      dsimp only at h1 ⊢
      split
      · rename_i hw
        rw [if_pos hw] at h1
        rcases h1 with h1 | ⟨_, h1⟩
        · exact round_op (hnd o (Array.mem_of_getElem? ho)) h1
        · exact absurd h1 hout
      · rename_i hw
        rw [if_neg hw] at h1
        exact ⟨fun _ _ => trivial, h1⟩⟩
/-- A region in a round. -/
theorem round_region {id : Nat} {ops : Array Oper} {a : Act} {w : World} (hm : P.follows .mixedOrders = true) (hnd : ∀ o ∈ ops, ∀ c, o.op ≠ .defer c) (hout : ¬ LetsOut Q)
    (h : wpAny P .any ops Q ops.size (Array.replicate ops.size false) a w.drew) : (Code.region id ops true).wpIn (Fence.wide.inRound l) n P Q a w :=
  wpIn_region_any hm (round_any hnd hout _ _ _ _ h)
def noDefer (o : Oper) : Bool := match o.op with
  | .defer _ => false
  | _ => true
/-- A region in a round whose operations only read, and whose calls only lay new blocks. -/
theorem round_quiet {id : Nat} {l' : List Oper} {a : Act} {w : World} (C : World → Prop) (hm : P.follows .mixedOrders = true) (hB : Region.lexB .any l'.toArray = true) (hnd : l'.all noDefer = true) (hout : ¬ LetsOut Q) (hC : C w.drew)
    (h : wpQuiet P l'.toArray C (fun a' => ∀ w', C w' → Q .normal a' w') l' a) : (Code.region id l'.toArray true).wpIn (Fence.wide.inRound l) n P Q a w := by
  simp only [Region.lexB, Bool.and_eq_true] at hB
  refine round_region hm (fun o ho c e => by have := List.all_eq_true.1 hnd o (by simpa using ho); simp [noDefer, e] at this) hout (wpAny_of_quiet (C := C) (Q := fun a' => ∀ w', C w' → Q .normal a' w') (fun _ w' hw' h => h w' hw') _ _ _ _ hC ?_)
  have := wpAnyQ_lex (C := C) (md := .any) hB.1 l' 0 (Array.replicate l'.toArray.size false) a (by simp) (by simpa using hB.2) h
  simpa using this
end
end Go.Proofs.YtjendlnicbieoaaGreatDoor
