/-
  MachineNone: the row as the chapter says it, for every pick, number and truth value. The condition: the three variables that it lists hold what their text lays.
-/
import Derived.Test.YtmchabopafimeaaGreatDoorTopB
namespace Go.Proofs.YtmchabopafimeaaGreatDoor
open Go.ChangeShapes Go.WideShapes Go.ChangeAt Go.RowKit _root_.Go.Proofs.Tryz
namespace machineNone
theorem noGo:prog.funcs.any Func.goes=false:=by kernel_rfl
theorem goes_no {P:Program} (h:P.funcs.any Func.goes=false) (f:FuncId):P.goes f=false:=by
 have k:∀ g:Nat,(P.funcs[g]?).any Func.goes=false:=fun g=>by
  cases hg:P.funcs[g]? with
  | none=>rfl
  | some fn=>
   obtain ⟨hi,rfl⟩:=Array.getElem?_eq_some_iff.1 hg
   simpa using Array.any_eq_false.1 h g hi
 unfold Program.goes
 simp [k,h]
theorem goesBy_no {P:Program} {c:OpenClaim} (hs:c.start=.entering) (h:P.funcs.any Func.goes=false):false=c.goesBy P:=by
 unfold OpenClaim.goesBy Program.goesAt Program.goesFrom
 rw [hs]
 cases P.funcNamed c.func <;> simp [goes_no h]
theorem card:Rows.MachineNoneCardSaid :=
 Claim7.holds_tied_plain_at .later [] _ _ _ _ said (fun _ h=>by cases h) (by kernel_rfl) (fun _ h=>by cases h) machineNone_row_tie rfl ⟨rfl,rfl⟩ (by kernel_rfl) rfl plain (goesBy_no rfl noGo)
end machineNone
theorem machineNone_holds:Rows.MachineNoneCardSaid:=machineNone.card
end Go.Proofs.YtmchabopafimeaaGreatDoor
#print axioms Go.Proofs.YtmchabopafimeaaGreatDoor.machineNone_holds
