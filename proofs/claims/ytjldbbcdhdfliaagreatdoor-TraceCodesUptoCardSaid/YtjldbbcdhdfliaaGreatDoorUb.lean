/-
 Walks over the reference of layer 23: Words.
-/
import Derived.Test.YtjldbbcdhdfliaaGreatDoorUaTw
import Derived.Test.YtjldbbcdhdfliaaGreatDoorAppM
import Derived.Test.YtjldbbcdhdfliaaGreatDoorBText
import Derived.IntWalk
import Derived.Laws.Concat
import Derived.Deep.Cut
namespace Go.Proofs.YtjldbbcdhdfliaaGreatDoor
open Go.RowKit

def strV (l : List UInt8) : Value := .string ⟨l.toArray⟩
/-- Words that lie in a row that was made. -/
def RowW (lo : Nat) (w : World) (v : Value) (l : List (List UInt8)) : Prop := w.ownsRow lo 9 1 v l.length (l.map strV)
theorem RowW.form {lo : Nat} {w : World} {v : Value} {l : List (List UInt8)} (h : RowW lo w v l) (hl : l ≠ []) : ∃ g cap, v = .slice (some ⟨g, 0, none⟩) l.length cap ∧ lo ≤ g ∧ g < w.heap.size := by
 rcases h.2 with ⟨_, h1⟩ | ⟨g, cap, cur, rfl, h2, h3, _⟩
 ·exact absurd (List.eq_nil_of_length_eq_zero h1) hl
 ·exact ⟨g, cap, rfl, h2, lt_of_heap h3⟩
theorem RowW.at_ {lo : Nat} {w : World} {g n cap : Nat} {l : List (List UInt8)} (h : RowW lo w (.slice (some ⟨g, 0, none⟩) n cap) l) {j : Nat} {x : List UInt8} (hx : l[j]? = some x) : w.cell? ⟨g, j, none⟩ = some (strV x) := by
 have hn : n = l.length := by
  rcases h.2 with ⟨h1, _⟩ | ⟨_, _, _, h1, _⟩
  ·cases h1
  ·injection h1
 subst hn
 have hlt := (List.getElem?_eq_some_iff.1 hx).1
 rw [World.ownsRow.cellAt h j (by omega), List.getElem?_map, hx]
 rfl
theorem RowW.below {lo : Nat} {w w' : World} {v : Value} {l : List (List UInt8)} (h : RowW lo w v l) (hb : Below w.heap.size w w') : RowW lo w' v l := by
 obtain ⟨h1, h2⟩ := h
 refine ⟨h1, ?_⟩
 rcases h2 with h2 | ⟨g, cap, cur, e1, e2, e3, e4⟩
 ·exact .inl h2
 ·exact .inr ⟨g, cap, cur, e1, e2, (hb.block g (lt_of_heap e3)).trans e3, e4⟩
end Go.Proofs.YtjldbbcdhdfliaaGreatDoor
