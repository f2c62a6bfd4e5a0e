/-
  Walks over the reference of layer 23: number.
-/
import Derived.Test.YtjldbbcdhdfliaaGreatDoorUb
import Derived.Test.YtjldbbcdhdfliaaGreatDoorTn
import Derived.Test.YtjldbbcdhdfliaaGreatDoorRr10
namespace Go.Proofs.YtjldbbcdhdfliaaGreatDoor
open Go.RowKit

def numV (r : Option Nat) : Value := match r with
  | some n => .tuple #[.int .i64 (n : Nat), .bool true]
  | none => .tuple #[.int .i64 0, .bool false]
set_option maxRecDepth 100000 in
set_option maxHeartbeats 2000000 in
theorem rnumE_any (s : ByteArray) (hs : s.size ≤ maxLen) (w : World) : Calls Tryz.prog 37 #[.string s] w fun e w' => e = .returned (numV (numL s.data.toList)) ∧ Below w.heap.size w w' := by
  obtain ⟨r, hr⟩ : ∃ r, numL s.data.toList = r := ⟨_, rfl⟩
  have hn := numP_parse s
  rw [hr] at hn
  have HN := Lib.hid hn
  rw [hr]
  clear hr hn
  go_enter Tryz.func37, Tryz.ntmps37
  go_wp2_with fail
  refine (rParse_any s hs w).mono ?_
  intro e w1 h1
  rcases hp : parse s with j | t
  · rw [hp] at h1
    obtain ⟨rfl, hb1⟩ := h1
    have hr : r = none := by have := HN.out; rw [hp] at this; exact this.symm
    subst hr
    have hb2 := hb1.trans ((below_alloc w1 (.cells #[.int .i64 0, .int .i64 0, .slice none 0 0] 27)).mono hb1.size)
    clear hp
    go_wp2_with fail
    go_ret2
    exact ⟨rfl, hb2⟩
  · rw [hp] at h1
    obtain ⟨v1, rfl, hv1, hb1⟩ := h1
    obtain ⟨k, n, l⟩ := t
    have hv0 := hv1
    rw [IsV] at hv0
    obtain ⟨a3, c3, rfl, hk, hnr, _⟩ := hv0
    have hr : (if k = 2 ∧ 0 ≤ n then some n.toNat else none) = r := by have := HN.out; rw [hp] at this; exact this
    have hb2 := hb1.trans ((below_alloc w1 (.cells #[.int .i64 k, .int .i64 n, .slice a3 l.length c3] 27)).mono hb1.size)
    have hbx := Bx.new w1 27 (.int .i64 k) (.int .i64 n) (.slice a3 l.length c3)
    have c0 := hbx.c0
    have c1 := hbx.c1
    clear hp hv1
    by_cases h1 : k = 2
    · subst h1
      by_cases h2 : n < 0
      · have hd2 : decide (n < 0) = true := by simpa using h2
        rw [if_neg (by omega)] at hr
        subst hr
        clear h2
        go_wp2_with fail
        go_ret2
        exact ⟨rfl, hb2⟩
      · have hd2 : decide (n < 0) = false := by simpa using h2
        obtain ⟨m, rfl⟩ : ∃ m : Nat, n = (m : Nat) := ⟨n.toNat, by omega⟩
        rw [if_pos ⟨rfl, by omega⟩] at hr
        have hr2 : r = some m := by rw [← hr]; simp
        subst hr2
        clear h2 hr
        go_wp2_with fail
        go_ret2
        exact ⟨rfl, hb2⟩
    · have hd1 : (k == 2) = false := by simpa using h1
      have hd1b : (k != 2) = true := by simpa using h1
      rw [if_neg (by omega)] at hr
      subst hr
      clear h1
      go_wp2_with fail
      go_ret2
      exact ⟨rfl, hb2⟩
end Go.Proofs.YtjldbbcdhdfliaaGreatDoor
