/-
  What the statements' own functions call with closed arguments; num, wrong.
-/
import Derived.Test.YtkahboomahhdoaaDoorRr10
namespace Go.Proofs.YtkahboomahhdoaaDoor
open Go.RowKit

def sSend : ByteArray := ⟨#[115, 101, 110, 100, 40, 99, 104, 97, 110, 40, 51, 41, 44, 53, 41]⟩
def tChan : VT := .mk 4 3 []
def tSend : VT := .mk 5 0 [tChan, .mk 2 5 []]
def tPair : VT := .mk 3 0 [.mk 2 (-5) [], .mk 1 0 []]
def tRecv : VT := .mk 6 0 [tChan]
def tWrap : VT := .mk 10 7 [tRecv, .mk 2 1 []]
def tChoose : VT := .mk 9 0 []
theorem parse_send : parse sSend = .ok tSend := by kernel_rfl
theorem parse_w1 : parse ⟨#[115, 101, 110, 100, 40, 53, 41]⟩ = .error 5 := by kernel_rfl
theorem parse_w2 : parse ⟨#[48, 49]⟩ = .error 1 := by kernel_rfl
theorem parse_w3 : parse ⟨#[45, 48]⟩ = .error 1 := by kernel_rfl
theorem parse_w4 : parse ⟨#[99, 104, 97, 110, 40]⟩ = .error 5 := by kernel_rfl
theorem parse_w5 : parse ⟨#[103, 117, 97, 114, 100, 40, 54, 52, 41]⟩ = .error 7 := by kernel_rfl
theorem parse_w6 : parse ⟨#[117, 110, 105, 116, 32]⟩ = .error 4 := by kernel_rfl
theorem parse_w7 : parse ⟨#[]⟩ = .error 0 := by kernel_rfl
theorem parse_1 : parse ⟨#[49]⟩ = .ok (.mk 2 1 []) := by kernel_rfl
theorem parse_unit : parse ⟨#[117, 110, 105, 116]⟩ = .ok (.mk 1 0 []) := by kernel_rfl
theorem parse_x : parse ⟨#[120]⟩ = .error 0 := by kernel_rfl
theorem text_pair : textV tPair = .tuple #[.string ⟨#[112, 97, 105, 114, 40, 45, 53, 44, 117, 110, 105, 116, 41]⟩, .int .i64 0] := by kernel_rfl
theorem text_wrap : textV tWrap = .tuple #[.string ⟨#[119, 114, 97, 112, 40, 55, 44, 114, 101, 99, 118, 40, 99, 104, 97, 110, 40, 51, 41, 41, 44, 49, 41]⟩, .int .i64 0] := by kernel_rfl
theorem text_choose : textV tChoose = .tuple #[.string ⟨#[99, 104, 111, 111, 115, 101, 40, 41]⟩, .int .i64 0] := by kernel_rfl
def zeroT : VT := .mk 0 0 []
theorem same_zero : (small zeroT && small zeroT && eqT zeroT zeroT) = true := by kernel_rfl
theorem same_send : (small tSend && small tSend && eqT tSend tSend) = true := by kernel_rfl
theorem IsV_zero (ok : Nat → Prop) (w : World) : IsV ok w zeroT (.agg #[.int .i64 0, .int .i64 0, .slice none 0 0]) := by
  rw [zeroT, IsV]
  exact ⟨none, 0, rfl, by unfold Rng; omega, by unfold Rng; omega, Nat.le_refl _, Nat.zero_le _, by rw [IsR]; trivial⟩

set_option maxHeartbeats 400000 in
theorem num_any (n : Int) (w : World) : Calls Tryd.prog 13 #[.int .i64 n] w fun e w' => e = .returned (.int .i64 n) ∧ w = w' := by
  go_enter Tryd.func13, Tryd.ntmps13
  go_wp2_with fail
  go_ret
  exact ⟨rfl, rfl⟩

set_option maxRecDepth 100000 in
set_option maxHeartbeats 1000000 in
theorem wrong_any (s : ByteArray) (j : Nat) (hp : parse s = .error j) (hs : s.size ≤ maxLen) (w : World) (hW : HasWords w) : Calls Tryd.prog 28 #[.string s, .int .i64 (j : Int)] w fun e w' => e = .returned (.bool true) ∧ Below w.heap.size w w' := by
  have HP := Lib.hid hp
  clear hp
  go_enter Tryd.func28, Tryd.ntmps28
  go_wp2_with fail
  refine (Parse_any s hs _ hW).mono ?_
  rw [HP.out]
  rintro e w1 ⟨rfl, hb1⟩
  have hbx := Bx.new w1 26 (.int .i64 0) (.int .i64 0) (.slice none 0 0)
  have hb2 := hb1.trans ((below_alloc w1 (.cells #[.int .i64 0, .int .i64 0, .slice none 0 0] 26)).mono hb1.size)
  go_upto_region 2 with fail
  generalize w1.alloc (.cells #[.int .i64 0, .int .i64 0, .slice none 0 0] 26) = w2 at *
  generalize w1.heap.size = g at *
  have q0 := hbx.c0
  have q1 := hbx.c1
  have q2 := hbx.c2
  go_wp2_with fail
  refine (num_any 50 _).mono ?_
  rintro e w3 ⟨rfl, rfl⟩
  go_wp2_with fail
  refine (rSame_any zeroT zeroT _ _ _ (IsV_zero _ _) (IsV_zero _ _) (by decide) (by decide)).mono ?_
  rw [same_zero]
  rintro e w4 ⟨rfl, hb4⟩
  go_wp2_with fail
  go_ret
  exact ⟨rfl, hb2.trans (hb4.mono hb2.size)⟩
end Go.Proofs.YtkahboomahhdoaaDoor
