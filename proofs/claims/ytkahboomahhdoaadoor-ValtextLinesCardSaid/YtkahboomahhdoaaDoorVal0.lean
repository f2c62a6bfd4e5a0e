/-
  Values of the client language as trees, and what it means that a Go value reads as one. Plain definitions, no walk.
-/
import Derived.Test.YtkahboomahhdoaaDoorRows
import Derived.WalkKit
import Derived.WalkSpells
import Derived.WalkLawsBesides
namespace Go.Proofs.YtkahboomahhdoaaDoor
open Go.RowKit

inductive VT where
  | mk (k n : Int) (l : List VT)

def Rng (n : Int) : Prop := -9223372036854775808 ≤ n ∧ n ≤ 9223372036854775807

mutual
def IsV (ok : Nat → Prop) (w : World) : VT → Value → Prop
  | .mk k n l, v => ∃ (a : Option Addr) (cap : Nat), v = .agg #[.int .i64 k, .int .i64 n, .slice a l.length cap] ∧ Rng k ∧ Rng n ∧ l.length ≤ cap ∧ cap ≤ maxLen ∧ IsR ok w l a 0
def IsR (ok : Nat → Prop) (w : World) : List VT → Option Addr → Nat → Prop
  | [], _, _ => True
  | t :: r, a, i => (∃ (g o : Nat) (v0 v1 v2 : Value), a = some ⟨g, o, none⟩ ∧ ok g ∧ w.cell? ⟨g, o + i * 3, none⟩ = some v0 ∧ w.cell? ⟨g, o + i * 3 + 1, none⟩ = some v1 ∧ w.cell? ⟨g, o + i * 3 + 2, none⟩ = some v2 ∧ IsV ok w t (.agg #[v0, v1, v2])) ∧ IsR ok w r a (i + 1)
end

mutual
theorem IsV.keep {ok : Nat → Prop} {w w' : World} (h : ∀ g, ok g → ∀ o, w'.cell? ⟨g, o, none⟩ = w.cell? ⟨g, o, none⟩) : ∀ {t : VT} {v : Value}, IsV ok w t v → IsV ok w' t v
  | .mk k n l, v, hv => by
    rw [IsV] at hv ⊢
    obtain ⟨a, cap, hv, h1, h2, h3, h4, h5⟩ := hv
    exact ⟨a, cap, hv, h1, h2, h3, h4, IsR.keep h h5⟩
theorem IsR.keep {ok : Nat → Prop} {w w' : World} (h : ∀ g, ok g → ∀ o, w'.cell? ⟨g, o, none⟩ = w.cell? ⟨g, o, none⟩) : ∀ {l : List VT} {a : Option Addr} {i : Nat}, IsR ok w l a i → IsR ok w' l a i
  | [], _, _, _ => by rw [IsR]; trivial
  | t :: r, a, i, hv => by
    rw [IsR] at hv ⊢
    obtain ⟨⟨g, o, v0, v1, v2, h1, h2, h3, h4, h5, h6⟩, h7⟩ := hv
    exact ⟨⟨g, o, v0, v1, v2, h1, h2, (h g h2 _).trans h3, (h g h2 _).trans h4, (h g h2 _).trans h5, IsV.keep h h6⟩, IsR.keep h h7⟩
end
mutual
theorem IsV.more {ok ok' : Nat → Prop} {w : World} (h : ∀ g, ok g → ok' g) : ∀ {t : VT} {v : Value}, IsV ok w t v → IsV ok' w t v
  | .mk k n l, v, hv => by
    rw [IsV] at hv ⊢
    obtain ⟨a, cap, hv, h1, h2, h3, h4, h5⟩ := hv
    exact ⟨a, cap, hv, h1, h2, h3, h4, IsR.more h h5⟩
theorem IsR.more {ok ok' : Nat → Prop} {w : World} (h : ∀ g, ok g → ok' g) : ∀ {l : List VT} {a : Option Addr} {i : Nat}, IsR ok w l a i → IsR ok' w l a i
  | [], _, _, _ => by rw [IsR]; trivial
  | t :: r, a, i, hv => by
    rw [IsR] at hv ⊢
    obtain ⟨⟨g, o, v0, v1, v2, h1, h2, h3, h4, h5, h6⟩, h7⟩ := hv
    exact ⟨⟨g, o, v0, v1, v2, h1, h _ h2, h3, h4, h5, IsV.more h h6⟩, IsR.more h h7⟩
end

theorem IsR.drop {ok : Nat → Prop} {w : World} : ∀ {l : List VT} {a : Option Addr} {i : Nat} (j : Nat), IsR ok w l a i → IsR ok w (l.drop j) a (i + j)
  | [], _, _, j, _ => by simp [IsR]
  | _ :: _, _, _, 0, h => h
  | t :: r, a, i, j + 1, h => by
    rw [IsR] at h
    have := IsR.drop j h.2
    rw [List.drop_succ_cons]
    rwa [show i + (j + 1) = i + 1 + j from by omega]
/-- The element number j of a row. -/
theorem IsR.at_ {ok : Nat → Prop} {w : World} {l : List VT} {a : Option Addr} (h : IsR ok w l a 0) {j : Nat} (hj : j < l.length) :
    ∃ (kk nn : Int) (ll : List VT) (g o : Nat) (a' : Option Addr) (cap' : Nat), l[j] = .mk kk nn ll ∧ a = some ⟨g, o, none⟩ ∧ ok g ∧ w.cell? ⟨g, o + j * 3, none⟩ = some (.int .i64 kk) ∧ w.cell? ⟨g, o + j * 3 + 1, none⟩ = some (.int .i64 nn) ∧ w.cell? ⟨g, o + j * 3 + 2, none⟩ = some (.slice a' ll.length cap') ∧
      IsV ok w (.mk kk nn ll) (.agg #[.int .i64 kk, .int .i64 nn, .slice a' ll.length cap']) := by
  have h2 := IsR.drop j h
  rw [List.drop_eq_getElem_cons hj, IsR, Nat.zero_add] at h2
  obtain ⟨⟨g, o, v0, v1, v2, h1, h2, h3, h4, h5, h6⟩, _⟩ := h2
  generalize hlj : l[j] = t at h6
  obtain ⟨kk, nn, ll⟩ := t
  have h7 := h6
  rw [IsV] at h7
  obtain ⟨a', cap', hv, _⟩ := h7
  simp only [Value.agg.injEq, Array.mk.injEq, List.cons.injEq, and_true] at hv
  obtain ⟨rfl, rfl, rfl⟩ := hv
  exact ⟨kk, nn, ll, g, o, a', cap', rfl, h1, h2, h3, h4, h5, h6⟩
/-- Values whose blocks lie below a mark stay, where nothing below it turns. -/
theorem IsV.below {B : Nat} {w w' : World} {t : VT} {v : Value} (h : IsV (· < B) w t v) (hb : Below B w w') : IsV (· < B) w' t v :=
  h.keep fun g hg o => hb.cell (p := ⟨g, o, none⟩) hg
theorem IsR.below {B : Nat} {w w' : World} {l : List VT} {a : Option Addr} {i : Nat} (h : IsR (· < B) w l a i) (hb : Below B w w') : IsR (· < B) w' l a i :=
  h.keep fun g hg o => hb.cell (p := ⟨g, o, none⟩) hg
theorem IsV.lift {B B' : Nat} {w : World} {t : VT} {v : Value} (h : IsV (· < B) w t v) (hB : B ≤ B') : IsV (· < B') w t v := h.more fun _ hg => Nat.lt_of_lt_of_le hg hB
theorem sz_lt {l : List VT} {t : VT} {k n : Int} {m : Nat} (h : t ∈ l) (hk : SizeOf.sizeOf (VT.mk k n l) ≤ m + 1) : SizeOf.sizeOf t ≤ m := by
  have := List.sizeOf_lt_of_mem h
  simp at hk
  omega
end Go.Proofs.YtkahboomahhdoaaDoor
