
/-
 valtext.Each: the iterator's contract.
-/
import Derived.Test.YtjldbbcdhdfliaaGreatDoorWNd
import Derived.Test.YtjldbbcdhdfliaaGreatDoorRFun
import Derived.Test.YtjldbbcdhdfliaaGreatDoorShelf
import Derived.Shelf.Abstract
import Derived.Shelf.RegionOpen
import Derived.OwnWalkIn
import Derived.TacticsInMore
import Derived.LoopNIn
import Derived.LoopIn
namespace Go.Proofs.YtjldbbcdhdfliaaGreatDoor
open Go.RowKit Go.Shelf
attribute [local go_sem] Oper.semAt_some

def cutA (s : ByteArray) : ByteArray := ⟨(Lib.cut s.data.toList [10]).1.toArray⟩
def cutB (s : ByteArray) : ByteArray := ⟨(Lib.cut s.data.toList [10]).2.1.toArray⟩
theorem cut_len (l : List UInt8) (h : l ≠ []) : (Lib.cut l [10]).1.length ≤ l.length ∧ (Lib.cut l [10]).2.1.length < l.length := by
 have hl : 0 < l.length := List.length_pos_iff.2 h
 unfold Lib.cut
 split
 ·simp only [List.length_take, List.length_drop, List.length_cons, List.length_nil]
  omega
 ·exact ⟨Nat.le_refl _, by simpa using hl⟩
theorem cutA_size (s : ByteArray) (h : 0 < s.size) : (cutA s).size ≤ s.size ∧ (cutB s).size < s.size := by
 have hl : s.data.toList.length = s.size := by simp
 have := cut_len s.data.toList (fun e => by rw [e] at hl; simp at hl; omega)
 rw [hl] at this
 exact this
theorem cut_any (s : ByteArray) (hs : s.size ≤ 1000000) (w : World) (hE : Env w) :
  Calls Tryz.prog 54 #[.string s, .string ⟨#[10]⟩] w fun e w' => (∃ b, e = .returned (.tuple #[.string (cutA s), .string (cutB s), .bool b])) ∧ ∃ n, w' = w.drewN n := by
 obtain ⟨m, hm⟩ := hE.maxl
 refine (Tryz.strings_Cut s ⟨#[10]⟩ m w (by omega) hm).mono ?_
 rintro e w' ⟨rfl, hn⟩
 exact ⟨⟨_, rfl⟩, hn⟩

theorem wideD (m : Nat) : Fence.wide.depth.isSome = true → 1 ≤ m := fun h => by simp [Fence.wide] at h
def strSize : Value → Nat | .string b => b.size | _ => 0
end Go.Proofs.YtjldbbcdhdfliaaGreatDoor
