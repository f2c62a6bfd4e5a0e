/-
  MachineNone: the row's statement. The condition: what the row lists is laid.
-/
import Derived.Test.YtmchabopafimeaaGreatDoorTopA
namespace Go.Proofs.YtmchabopafimeaaGreatDoor
open Go.ChangeShapes Go.WideShapes Go.ChangeAt Go.RowKit _root_.Go.Proofs.Tryz
namespace machineNone
theorem ka:(Rows.machineNoneRow.inPlace == prog.inPlace 3)=true:=by kernel_rfl
theorem kb:(Rows.machineNoneRow.unfollowed == prog.unfollowed 3)=true:=by kernel_rfl
theorem kc:(Rows.machineNoneRow.recurses == prog.recurses 3)=true:=by kernel_rfl
theorem kd:(Rows.machineNoneRow.named == prog.varsNamed 3)=true:=by kernel_rfl
theorem ke:laidOutB prog=true:=by kernel_rfl
theorem kf:mapsRowed prog=true:=by kernel_rfl
theorem kg:(Rows.machineNoneRow.plainKeys == prog.plainKeys)=true:=by kernel_rfl
theorem kh:prog.stopsHeard=true:=by kernel_rfl
theorem ki:prog.mayEnter=true:=by kernel_rfl
theorem band {a b:Bool} (h:a=true) (k:b=true):(a && b)=true:=by rw [h,k];rfl
theorem closed:joinedFacts prog 3 Tryz.f3 (OpenSpec.ofChange Rows.machineNoneSpec).bare Rows.machineNoneRow=true:=by
 unfold joinedFacts
 repeat' with_reducible refine band ?_ ?_
 all_goals with_reducible first|exact ka|exact kb|exact kc|exact kd|exact ke|exact kf|exact kg|exact kh|exact ki|kernel_rfl
theorem said:Rows.MachineNoneSaid :=
 OpenClaim.holds_of_cond 3 Tryz.f3 rfl rfl rfl rfl rfl rfl rfl ⟨rfl,rfl,rfl,rfl,rfl⟩ rfl rfl rfl rfl rfl (by kernel_rfl) func3 closed
  (of_decide_eq_true (by kernel_rfl)) (by unfold Func.isWrapper;first| (rw [if_pos (by decide +kernel)];kernel_rfl)|(rw [if_neg (by decide +kernel)];exact ⟨rfl,rfl⟩))
  (fun os started H enc _ F=>by rw [OpenClaim.pre_eq_preRow];exact lifted os started H enc F)
end machineNone
end Go.Proofs.YtmchabopafimeaaGreatDoor
