
/-
 What the statements' own functions call with closed arguments; num, wrong.
-/
import Derived.Test.YtjldbbcdhdfliaaGreatDoorSiz
namespace Go.Proofs.YtjldbbcdhdfliaaGreatDoor
open Go.RowKit

def zeroT : VT := .mk 0 0 []
theorem IsV_zero (ok : Nat → Prop) (w : World) : IsV ok w zeroT (.agg #[.int .i64 0, .int .i64 0, .slice none 0 0]) := by
 rw [zeroT, IsV]
 exact ⟨none, 0, rfl, by unfold Rng; omega, by unfold Rng; omega, Nat.le_refl _, Nat.zero_le _, by rw [IsR]; trivial⟩

end Go.Proofs.YtjldbbcdhdfliaaGreatDoor
/-
 A value that was read has as many parts as began; values are the same as themselves. Plain.
-/
namespace Go.Proofs.YtjldbbcdhdfliaaGreatDoor
open Go.RowKit

def NdOk (rec : Rec) : Prop := ∀ m i p t i' p', rec m i p = .ok (t, i', p') → p' = p + nd t
section
variable {s : ByteArray} {rec : Rec} (hr : NdOk rec)
include hr
theorem pOne_nd {m : Int → Bool} {l : List VT} {i p : Nat} {l' : List VT} {i' p' : Nat} (h : pOne rec m l i p = .ok (l', i', p')) : p' + ndL l = p + ndL l' := by
 unfold pOne at h
 split at h
 ·cases h
 ·rename_i t i2 p2 he
  have h1 := hr _ _ _ _ _ _ he
  injection h with h
  injection h with h2 h3
  injection h3 with h3 h4
  subst h2 h4
  rw [ndL_append, ndL, ndL]
  omega
theorem pMore_nd {m : Int → Bool} : ∀ (c : Nat) {l : List VT} {i p : Nat} {l' : List VT} {i' p' : Nat}, pMore s rec m c l i p = .ok (l', i', p') → p' + ndL l = p + ndL l'
 | 0, l, i, p, l', i', p', h => by
  rw [pMore] at h
  injection h with h
  injection h with h2 h3
  injection h3 with h3 h4
  subst h2 h4
  rfl
 | c + 1, l, i, p, l', i', p', h => by
  rw [pMore] at h
  split at h
  ·split at h
   ·cases h
   ·rename_i l2 i2 p2 he
    have h1 := pOne_nd hr he
    have h2 := pMore_nd c h
    omega
  ·injection h with h
   injection h with h2 h3
   injection h3 with h3 h4
   subst h2 h4
   rfl
theorem pTwo_nd {m m' : Int → Bool} {i p : Nat} {l' : List VT} {i' p' : Nat} (h : pTwo s rec m m' i p = .ok (l', i', p')) : p' = p + ndL l' := by
 unfold pTwo at h
 split at h
 ·cases h
 ·rename_i l i2 p2 he
  have h1 := pOne_nd hr he
  split at h
  ·have h2 := pOne_nd hr h
   rw [ndL] at h1
   omega
  ·cases h
theorem pList_nd {k i p : Nat} {n : Int} {l : List VT} {i' p' : Nat} (h : pList s rec k i p = .ok (n, l, i', p')) : p' = p + ndL l := by
 unfold pList at h
 split at h
 ·obtain ⟨rfl, h9⟩ := withN_ok h
  exact pTwo_nd hr h9
 ·obtain ⟨n2, i2, he, rfl, h9⟩ := pNum_ok h
  injection h9 with h9
  injection h9 with h1 h2
  injection h2 with h2 h3
  subst h1 h3
  rfl
 ·obtain ⟨n2, i2, he, rfl, h9⟩ := pNum_ok h
  injection h9 with h9
  injection h9 with h1 h2
  injection h2 with h2 h3
  subst h1 h3
  rfl
 ·obtain ⟨rfl, h9⟩ := withN_ok h
  exact pTwo_nd hr h9
 ·obtain ⟨rfl, h9⟩ := withN_ok h
  have := pOne_nd hr h9; rw [ndL] at this; omega
 ·obtain ⟨rfl, h9⟩ := withN_ok h
  have := pOne_nd hr h9; rw [ndL] at this; omega
 ·split at h
  ·injection h with h
   injection h with h0 h
   injection h with h1 h2
   injection h2 with h2 h3
   subst h1 h3
   rfl
  ·split at h
   ·cases h
   ·rename_i l2 i2 p2 he
    have h1 := pOne_nd hr he
    obtain ⟨rfl, h9⟩ := withN_ok h
    have h2 := pMore_nd hr 15 h9
    rw [ndL] at h1
    omega
 ·obtain ⟨n2, i2, he, rfl, h9⟩ := pNum_ok h
  split at h9
  ·split at h9
   ·cases h9
   ·rename_i l2 i3 p3 he
    have h1 := pOne_nd hr he
    have h2 := pMore_nd hr 8 h9
    rw [ndL] at h1
    omega
  ·cases h9
 ·obtain ⟨n2, i2, he, rfl, h9⟩ := pNum_ok h
  have h2 := pMore_nd hr 8 h9
  rw [ndL] at h2; omega
 ·obtain ⟨n2, i2, he, rfl, h9⟩ := pNum_ok h
  have h2 := pMore_nd hr 8 h9
  rw [ndL] at h2; omega
 ·injection h with h
  injection h with h0 h
  injection h with h1 h2
  injection h2 with h2 h3
  subst h1 h3
  rfl
end
theorem pVal_nd (s : ByteArray) : ∀ f, NdOk (pVal s f)
 | 0, m, i, p, t, i', p', h => by rw [pVal] at h; cases h
 | f + 1, m, i, p, t, i', p', h => by
  rw [pVal] at h
  split at h
  ·cases h
  ·split at h
   ·split at h
    ·unfold integer at h
     split at h
     ·split at h
      ·cases h
      ·split at h
       ·cases h
       ·injection h with h
        injection h with h1 h2
        injection h2 with h2 h3
        subst h1 h3
        rw [nd, ndL]
     ·split at h
      ·cases h
      ·injection h with h
       injection h with h1 h2
       injection h2 with h2 h3
       subst h1 h3
       rw [nd, ndL]
    ·cases h
   ·split at h
    ·cases h
    ·split at h
     ·injection h with h
      injection h with h1 h2
      injection h2 with h2 h3
      subst h1 h3
      rw [nd, ndL]
     ·split at h
      ·split at h
       ·cases h
       ·rename_i n l j' p2 hl
        have h9 := pList_nd (pVal_nd s f) hl
        split at h
        ·injection h with h
         injection h with h1 h2
         injection h2 with h2 h3
         subst h1 h3
         rw [nd]
         omega
        ·cases h
      ·cases h
theorem parse_nd {s : ByteArray} {t : VT} (h : parse s = .ok t) : nd t ≤ 256 := by
 unfold parse at h
 split at h
 ·cases h
 ·rename_i t2 i p he
  have h1 := pVal_nd s 256 _ _ _ _ _ _ he
  have h2 := pVal_goes s 256 _ _ _ _ _ _ (Nat.zero_le _) (by omega) he
  split at h
  ·cases h
  ·injection h with h
   subst h
   omega
mutual
theorem eqT_refl : ∀ t : VT, eqT t t = true
 | .mk k n l => by rw [eqT, eqL_refl l]; simp
theorem eqL_refl : ∀ l : List VT, eqL l l = true
 | [] => by rw [eqL]
 | t :: r => by rw [eqL, eqT_refl t, eqL_refl r]; rfl
end
theorem same_refl {t : VT} (h : nd t ≤ 256) : (small t && small t && eqT t t) = true := by
 rw [small_nd, eqT_refl]
 simp [h]
end Go.Proofs.YtjldbbcdhdfliaaGreatDoor
