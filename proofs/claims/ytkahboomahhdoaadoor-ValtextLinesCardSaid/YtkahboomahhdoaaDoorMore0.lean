/-
  Statements and small lemmas for the reader's value, list and more.
-/
import Derived.Test.YtkahboomahhdoaaDoorPar
namespace Go.Proofs.YtkahboomahhdoaaDoor
open Go.RowKit

def ValC (s : ByteArray) (f : Nat) : Prop := ∀ (m : Int → Bool) (mf b i p : Nat) (w : World), MayIs mf m → Rd w b s i p → i ≤ s.size → p ≤ 256 → 256 ≤ p + f → HasWords w → b ≠ 0 →
  Calls Tryd.prog 30 #[.pointer (some ⟨b, 0, none⟩), .func (.func mf) #[] #[]] w (ValEnds b s w (pVal s f m i p))

def LstEnds (lo b vb : Nat) (s : ByteArray) (k n : Int) (w : World) (r : Except Nat (List VT × Nat × Nat)) (e : Ending) (w' : World) : Prop :=
  match r with
  | .error j => e = Wrong j ∧ Fx lo b vb w w'
  | .ok (l, i, p) => e = .returned (.tuple #[]) ∧ Rd w' b s i p ∧ (∃ v xs, Acc lo w' vb k n l v xs) ∧ Fx lo b vb w w'

theorem val_info : (Tryd.prog.info? 26).map (fun i => (i.zero, i.size, i.bytes)) = some (some (.agg #[.int .i64 0, .int .i64 0, .slice none 0 0]), 3, 40) := by kernel_rfl

theorem zeros_at {W : World} {z : Nat} {t : TypeId} (hx : Bx W z t (.int .i64 0) (.int .i64 0) (.slice none 0 0)) : ∀ (j : Nat) (u : Value), zeroV[j]? = some u → W.cell? ((⟨z, 0, none⟩ : Addr).add j) = some u := by
  intro j u hj
  unfold zeroV at hj
  match j, hj with
  | 0, hj => simp at hj; subst hj; exact hx.c0
  | 1, hj => simp at hj; subst hj; exact hx.c1
  | 2, hj => simp at hj; subst hj; exact hx.c2
  | n + 3, hj => simp at hj
theorem zeros_one : ∀ u ∈ zeroV, u.oneCell' = true := by intro u hu; simp [zeroV] at hu; rcases hu with rfl | rfl | rfl <;> rfl

/-- What stands behind an append of an empty value: the three cells of the new place. -/
theorem new_place {W : World} {lo g n cap : Nat} {xs : List Value} (h : W.ownsRow lo 26 3 (.slice (some ⟨g, 0, none⟩) (n + 1) cap) (n + 1) (xs ++ zeroV)) :
    W.cell? ⟨g, n * 3, none⟩ = some (.int .i64 0) ∧ W.cell? ⟨g, n * 3 + 1, none⟩ = some (.int .i64 0) ∧ W.cell? ⟨g, n * 3 + 2, none⟩ = some (.slice none 0 0) ∧ (∀ o, W.frozen? ⟨g, o, none⟩ = false) ∧ n + 1 ≤ cap := by
  have hl : xs.length = n * 3 := by have := h.1; simp [zeroV] at this; omega
  refine ⟨?_, ?_, ?_, h.frozenAt, ?_⟩
  · rw [h.cellAt _ (by omega), ← hl, List.getElem?_append_right (by omega)]; simp [zeroV]
  · rw [h.cellAt _ (by omega), ← hl, List.getElem?_append_right (by omega)]; simp [zeroV]
  · rw [h.cellAt _ (by omega), ← hl, List.getElem?_append_right (by omega)]; simp [zeroV]
  · rcases h.2 with ⟨h1, _⟩ | ⟨g', cap', cur, h1, _, _, h2, _⟩
    · cases h1
    · injection h1 with _ _ h3
      omega

theorem vb_after {lo vb g cap m : Nat} {W W1 : World} {k n : Int} {l : List VT} {v : Value} {xs ys : List Value} (h : Acc lo W vb k n l v xs) (hown : W1.ownsRow lo 26 3 (.slice (some ⟨g, 0, none⟩) m cap) m ys) (hgr : W.grownBy W1 v.ownBlock) :
    W1.cell? ⟨vb, 2, none⟩ = some v ∧ W1.frozen? ⟨vb, 2, none⟩ = false ∧ ¬ g = vb ∧ ¬ vb = g := by
  have hvl := h.vlt
  have hle := h.le
  have hne : some vb ≠ v.ownBlock := fun e => by have := (h.row.lt vb e.symm).1; omega
  have hb : Bx W1 vb 26 (.int .i64 k) (.int .i64 n) v := (hgr.block vb (by omega) hne).trans h.box
  have := (hown.lt g rfl).1
  exact ⟨hb.c2, hb.fz 2, by omega, by omega⟩

end Go.Proofs.YtkahboomahhdoaaDoor
