
/-
  valtext.Each: the iterator's contract.
-/
import Derived.Test.YtjldbbcdhdfliaaGreatDoorWNd
import Derived.Test.YtjldbbcdhdfliaaGreatDoorRFun
import Derived.Test.YtjldbbcdhdfliaaGreatDoorShelf
import Derived.Shelf.Abstract
import Derived.Shelf.RegionOpen
import Derived.OwnWalkIn
import Derived.TacticsInMore
import Derived.LoopNIn
import Derived.LoopIn
namespace Go.Proofs.YtjldbbcdhdfliaaGreatDoor
open Go.RowKit Go.Shelf
attribute [local go_sem] Oper.semAt_some

def cutA (s : ByteArray) : ByteArray := ⟨(Lib.cut s.data.toList [10]).1.toArray⟩
def cutB (s : ByteArray) : ByteArray := ⟨(Lib.cut s.data.toList [10]).2.1.toArray⟩
/-- The values of a text's lines, as far as the first one that is none's. -/
def eachF : Nat → ByteArray → List VT
  | 0, _ => []
  | f + 1, s => if s.size = 0 then [] else match parse (cutA s) with
    | .error _ => []
    | .ok t => t :: eachF f (cutB s)
def eachV (s : ByteArray) : List VT := eachF (s.size + 1) s
abbrev EV := Nat × VT × Value
def encE (x : EV) : Array Value := #[.int .i64 (x.1 : Int), x.2.2]
def GE (s : ByteArray) (pre : List EV) (x : EV) (W : World) : Prop := x.1 = pre.length ∧ (pre ++ [x]).map (fun y => y.2.1) <+: eachV s ∧ IsV (· < W.heap.size) W x.2.1 x.2.2
def SE (s : ByteArray) (xs : List EV) : Prop := xs.map (fun y => y.2.1) = eachV s
def SpE (s : ByteArray) (pre : List EV) : Prop := pre.map (fun y => y.2.1) <+: eachV s

theorem cut_len (l : List UInt8) (h : l ≠ []) : (Lib.cut l [10]).1.length ≤ l.length ∧ (Lib.cut l [10]).2.1.length < l.length := by
  have hl : 0 < l.length := List.length_pos_iff.2 h
  unfold Lib.cut
  split
  · simp only [List.length_take, List.length_drop, List.length_cons, List.length_nil]
    omega
  · exact ⟨Nat.le_refl _, by simpa using hl⟩
theorem cutA_size (s : ByteArray) (h : 0 < s.size) : (cutA s).size ≤ s.size ∧ (cutB s).size < s.size := by
  have hl : s.data.toList.length = s.size := by simp
  have := cut_len s.data.toList (fun e => by rw [e] at hl; simp at hl; omega)
  rw [hl] at this
  exact this
theorem eachF_fuel : ∀ (f g : Nat) (s : ByteArray), s.size < f → s.size < g → eachF f s = eachF g s
  | 0, _, _, h, _ => by omega
  | _ + 1, 0, _, _, h => by omega
  | f + 1, g + 1, s, hf, hg => by
    rw [eachF, eachF]
    by_cases h0 : s.size = 0
    · rw [if_pos h0, if_pos h0]
    · rw [if_neg h0, if_neg h0]
      have := cutA_size s (by omega)
      cases parse (cutA s) with
      | error j => rfl
      | ok t => dsimp only; rw [eachF_fuel f g (cutB s) (by omega) (by omega)]
theorem each_empty {s : ByteArray} (h : s.size = 0) : eachV s = [] := by unfold eachV; rw [eachF, if_pos h]
theorem each_error {s : ByteArray} (h : ¬ s.size = 0) {j : Nat} (hp : parse (cutA s) = .error j) : eachV s = [] := by unfold eachV; rw [eachF, if_neg h, hp]
theorem each_ok {s : ByteArray} (h : ¬ s.size = 0) {t : VT} (hp : parse (cutA s) = .ok t) : eachV s = t :: eachV (cutB s) := by
  have := cutA_size s (by omega)
  unfold eachV
  rw [eachF, if_neg h, hp]
  dsimp only
  rw [eachF_fuel s.size ((cutB s).size + 1) (cutB s) (by omega) (by omega)]
theorem cut_any (s : ByteArray) (hs : s.size ≤ 1000000) (w : World) (hE : Env w) :
    Calls Tryz.prog 54 #[.string s, .string ⟨#[10]⟩] w fun e w' => (∃ b, e = .returned (.tuple #[.string (cutA s), .string (cutB s), .bool b])) ∧ ∃ n, w' = w.drewN n := by
  obtain ⟨m, hm⟩ := hE.maxl
  refine (Tryz.strings_Cut s ⟨#[10]⟩ m w (by omega) hm).mono ?_
  rintro e w' ⟨rfl, hn⟩
  exact ⟨⟨_, rfl⟩, hn⟩

theorem grown_of_below {W W' : World} (h : Below W.heap.size W W') : W.grownBy W' none := ⟨h.os, h.tape, h.output, h.size, fun k hk _ => h.block k hk⟩
theorem grown_drewN (W : World) (n : Nat) : W.grownBy (W.drewN n) none := ⟨rfl, rfl, rfl, Nat.le_refl _, fun _ _ _ => rfl⟩

theorem wideD (m : Nat) : Fence.wide.depth.isSome = true → 1 ≤ m := fun h => by simp [Fence.wide] at h
theorem snoc_prefix {l1 l2 : List VT} {t : VT} {r : List VT} (h : l1 = l2 ++ t :: r) : l2 ++ [t] <+: l1 := ⟨r, by rw [h]; simp⟩
def strSize : Value → Nat | .string b => b.size | _ => 0
end Go.Proofs.YtjldbbcdhdfliaaGreatDoor
