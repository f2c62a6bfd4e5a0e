/-
  A value that is being read: its box, the row of its values, their own blocks; what an append does to it. Plain lemmas, no walk.
-/
import Derived.Test.YtkahboomahhdoaaDoorRd4
import Derived.Deep.AppendLies
import Derived.OneCell
namespace Go.Proofs.YtkahboomahhdoaaDoor
open Go.RowKit

def zeroV : List Value := [.int .i64 0, .int .i64 0, .slice none 0 0]
/-- xs are the cells of values that read as l. -/
def Kids (ok : Nat → Prop) (w : World) : List VT → List Value → Prop
  | [], xs => xs = []
  | t :: r, xs => ∃ v0 v1 v2 ys, xs = v0 :: v1 :: v2 :: ys ∧ IsV ok w t (.agg #[v0, v1, v2]) ∧ Kids ok w r ys
theorem Kids.keep {ok : Nat → Prop} {w w' : World} (h : ∀ g, ok g → ∀ o, w'.cell? ⟨g, o, none⟩ = w.cell? ⟨g, o, none⟩) : ∀ {l : List VT} {xs : List Value}, Kids ok w l xs → Kids ok w' l xs
  | [], _, hk => hk
  | _ :: _, _, hk => by
    obtain ⟨v0, v1, v2, ys, rfl, hv, hr⟩ := hk
    exact ⟨v0, v1, v2, ys, rfl, hv.keep h, Kids.keep h hr⟩
theorem Kids.more {ok ok' : Nat → Prop} {w : World} (h : ∀ g, ok g → ok' g) : ∀ {l : List VT} {xs : List Value}, Kids ok w l xs → Kids ok' w l xs
  | [], _, hk => hk
  | _ :: _, _, hk => by
    obtain ⟨v0, v1, v2, ys, rfl, hv, hr⟩ := hk
    exact ⟨v0, v1, v2, ys, rfl, hv.more h, Kids.more h hr⟩
theorem Kids.len {ok : Nat → Prop} {w : World} : ∀ {l : List VT} {xs : List Value}, Kids ok w l xs → xs.length = l.length * 3
  | [], _, hk => by rw [Kids] at hk; subst hk; rfl
  | _ :: _, _, hk => by
    obtain ⟨v0, v1, v2, ys, rfl, hv, hr⟩ := hk
    have := Kids.len hr
    simp [this]; omega
theorem Kids.push {ok : Nat → Prop} {w : World} {t : VT} {u0 u1 u2 : Value} (ht : IsV ok w t (.agg #[u0, u1, u2])) : ∀ {l : List VT} {xs : List Value}, Kids ok w l xs → Kids ok w (l ++ [t]) (xs ++ [u0, u1, u2])
  | [], _, hk => by rw [Kids] at hk; subst hk; exact ⟨u0, u1, u2, [], rfl, ht, rfl⟩
  | _ :: _, _, hk => by
    obtain ⟨v0, v1, v2, ys, rfl, hv, hr⟩ := hk
    exact ⟨v0, v1, v2, ys ++ [u0, u1, u2], rfl, hv, Kids.push ht hr⟩
/-- A row whose cells are those of such values reads as them. -/
theorem Kids.row {ok : Nat → Prop} {w : World} {g o : Nat} (hg : ok g) : ∀ {l : List VT} {xs : List Value} (i : Nat), Kids ok w l xs → (∀ j u, xs[j]? = some u → w.cell? ⟨g, o + i * 3 + j, none⟩ = some u) → IsR ok w l (some ⟨g, o, none⟩) i
  | [], _, _, _, _ => by rw [IsR]; trivial
  | _ :: _, _, i, hk, hc => by
    obtain ⟨v0, v1, v2, ys, rfl, hv, hr⟩ := hk
    rw [IsR]
    refine ⟨⟨g, o, v0, v1, v2, rfl, hg, hc 0 v0 rfl, hc 1 v1 rfl, hc 2 v2 rfl, hv⟩, Kids.row hg (i + 1) hr fun j u hj => ?_⟩
    have := hc (j + 3) u (by simpa using hj)
    rwa [show o + i * 3 + (j + 3) = o + (i + 1) * 3 + j from by omega] at this

/-- A value under way: its box at vb, the row v of its values l. -/
structure Acc (lo : Nat) (w : World) (vb : Nat) (k n : Int) (l : List VT) (v : Value) (xs : List Value) : Prop where
  box : Bx w vb 26 (.int .i64 k) (.int .i64 n) v
  row : w.ownsRow lo 26 3 v l.length xs
  kids : Kids (fun g => lo ≤ g ∧ g < w.heap.size ∧ some g ≠ v.ownBlock) w l xs
  vlt : vb < lo
  le : lo ≤ w.heap.size

/-- Below lo nothing but the blocks b and vb has turned. -/
structure Fx (lo b vb : Nat) (w w' : World) : Prop where
  os : w'.os = w.os
  tape : w'.tape = w.tape
  output : w'.output = w.output
  size : w.heap.size ≤ w'.heap.size
  block : ∀ k, k < lo → k ≠ b → k ≠ vb → w'.heap[k]? = w.heap[k]?
section
variable {lo b vb : Nat} {w w1 w2 : World}
theorem Fx.refl (lo b vb : Nat) (w : World) : Fx lo b vb w w := ⟨rfl, rfl, rfl, Nat.le_refl _, fun _ _ _ _ => rfl⟩
theorem Fx.trans (h : Fx lo b vb w w1) (h' : Fx lo b vb w1 w2) : Fx lo b vb w w2 :=
  ⟨h'.os.trans h.os, h'.tape.trans h.tape, h'.output.trans h.output, Nat.le_trans h.size h'.size, fun k h1 h2 h3 => (h'.block k h1 h2 h3).trans (h.block k h1 h2 h3)⟩
theorem Fx.gr (hl : lo ≤ w.heap.size) (h : Gr b w w1) : Fx lo b vb w w1 :=
  ⟨h.os, h.tape, h.output, h.size, fun k h1 h2 _ => h.block k (by omega) (fun e => h2 (by injection e))⟩
theorem Fx.grown {row : Option Nat} (hl : lo ≤ w.heap.size) (h : w.grownBy w1 row) (hr : ∀ g, row = some g → lo ≤ g) : Fx lo b vb w w1 :=
  ⟨h.os, h.tape, h.output, h.size, fun k h1 _ _ => h.block k (by omega) (fun e => by have := hr k e.symm; omega)⟩
theorem Fx.set (q : Addr) (u : Value) (hq : lo ≤ q.block ∨ q.block = b ∨ q.block = vb) : Fx lo b vb w (w.setCell q u) :=
  ⟨rfl, rfl, rfl, by simp [World.setCell], fun k h1 h2 h3 => Below.heap_setCell _ _ _ _ (by omega)⟩
theorem Fx.drew : Fx lo b vb w w.drew := ⟨rfl, rfl, rfl, Nat.le_refl _, fun _ _ _ _ => rfl⟩
theorem Fx.drewN (n : Nat) : Fx lo b vb w (w.drewN n) := ⟨rfl, rfl, rfl, Nat.le_refl _, fun _ _ _ _ => rfl⟩
theorem Fx.alloc (hl : lo ≤ w.heap.size) (o : Obj) : Fx lo b vb w (w.alloc o) := ⟨rfl, rfl, rfl, by simp, fun _ h1 _ _ => Below.heap_alloc _ _ _ (by omega)⟩
theorem Fx.words (h : Fx lo b vb w w1) (hw : HasWords w) (h0 : 0 < lo) (h1 : b ≠ 0) (h2 : vb ≠ 0) : HasWords w1 := by
  obtain ⟨t, fr, hx⟩ := hw
  exact ⟨t, fr, (h.block _ h0 (Ne.symm h1) (Ne.symm h2)).trans hx⟩
end
theorem HasWords.drew {w : World} (h : HasWords w) : HasWords w.drew := h
theorem HasWords.drewN {w : World} (h : HasWords w) (n : Nat) : HasWords (w.drewN n) := h
theorem HasWords.lt {w : World} (h : HasWords w) : 0 < w.heap.size := by
  obtain ⟨t, fr, hx⟩ := h
  rcases Nat.lt_or_ge 0 w.heap.size with hl | hl
  · exact hl
  · rw [Array.getElem?_eq_none hl] at hx; cases hx
theorem HasWords.gr {b : Nat} {w w1 : World} (h : HasWords w) (hg : Gr b w w1) (hb : b ≠ 0) : HasWords w1 := by
  have := h.lt
  obtain ⟨t, fr, hx⟩ := h
  exact ⟨t, fr, (hg.block _ this (fun e => hb (Option.some.inj e).symm)).trans hx⟩
theorem HasWords.alloc {w : World} (h : HasWords w) (o : Obj) : HasWords (w.alloc o) := by
  have := h.lt
  obtain ⟨t, fr, hx⟩ := h
  exact ⟨t, fr, (Below.heap_alloc _ _ _ this).trans hx⟩

section
variable {lo b vb : Nat} {w w' : World} {k n : Int} {l : List VT} {v : Value} {xs : List Value}
theorem Acc.keepAll (h : Acc lo w vb k n l v xs) (hs : w.heap.size ≤ w'.heap.size) (hk : ∀ j, j < w.heap.size → j ≠ b → w'.heap[j]? = w.heap[j]?) (hb : b < lo) (hne : b ≠ vb) : Acc lo w' vb k n l v xs := by
  have hvl := h.vlt
  have hle := h.le
  refine ⟨(hk vb (by omega) (Ne.symm hne)).trans h.box, ?_, (h.kids.keep ?_).more ?_, hvl, by omega⟩
  · obtain ⟨h1, h2⟩ := h.row
    refine ⟨h1, ?_⟩
    rcases h2 with h2 | ⟨g, cap, cur, e1, e2, e3, e4⟩
    · exact .inl h2
    · have hg : g < w.heap.size := by
        rcases Nat.lt_or_ge g w.heap.size with hl | hl
        · exact hl
        · rw [Array.getElem?_eq_none hl] at e3; cases e3
      exact .inr ⟨g, cap, cur, e1, e2, (hk g hg (by omega)).trans e3, e4⟩
  · intro g ⟨g1, g2, g3⟩ o
    exact World.cell?_of_block (w := w) (hk g g2 (by omega))
  · intro g ⟨g1, g2, g3⟩
    exact ⟨g1, by omega, g3⟩
theorem Acc.gr (h : Acc lo w vb k n l v xs) (hg : Gr b w w') (hb : b < lo) (hne : b ≠ vb) : Acc lo w' vb k n l v xs :=
  h.keepAll (b := b) hg.size (fun j hj hjb => hg.block j hj (fun e => hjb (by injection e))) hb hne
theorem Acc.alloc (h : Acc lo w vb k n l v xs) (o : Obj) (hb : b < lo) (hne : b ≠ vb) : Acc lo (w.alloc o) vb k n l v xs :=
  h.keepAll (b := b) (by simp) (fun j hj _ => Below.heap_alloc _ _ _ hj) hb hne
theorem Acc.drew (h : Acc lo w vb k n l v xs) : Acc lo w.drew vb k n l v xs := ⟨h.box, h.row, (Kids.more (fun _ h => h) (Kids.keep (w := w) (w' := w.drew) (fun _ _ _ => rfl) h.kids)), h.vlt, h.le⟩
theorem Acc.drewN (h : Acc lo w vb k n l v xs) (m : Nat) : Acc lo (w.drewN m) vb k n l v xs := ⟨h.box, h.row, (Kids.more (fun _ h => h) (Kids.keep (w := w) (w' := w.drewN m) (fun _ _ _ => rfl) h.kids)), h.vlt, h.le⟩
/-- A store into the reader's block. -/
theorem Acc.setB (h : Acc lo w vb k n l v xs) (o : Nat) (u : Value) (hb : b < lo) (hne : b ≠ vb) : Acc lo (w.setCell ⟨b, o, none⟩ u) vb k n l v xs :=
  h.keepAll (b := b) (by simp [World.setCell]) (fun j _ hjb => Below.heap_setCell _ _ _ _ hjb) hb hne
/-- The number is set. -/
theorem Acc.setN (h : Acc lo w vb k n l v xs) (n' : Int) : Acc lo (w.setCell ⟨vb, 1, none⟩ (.int .i64 n')) vb k n' l v xs := by
  have hvl := h.vlt
  have hle := h.le
  refine ⟨h.box.set1 _, ownsRow_setCell_below h.row hvl _, (h.kids.keep ?_).more ?_, hvl, by simpa [World.setCell] using hle⟩
  · intro g ⟨g1, _, _⟩ o
    exact World.cell?_of_block (w := w) (Below.heap_setCell _ _ _ _ (by simp; omega))
  · intro g ⟨g1, g2, g3⟩
    exact ⟨g1, by simpa [World.setCell] using g2, g3⟩
theorem Acc.form (h : Acc lo w vb k n l v xs) : ∃ (a : Option Addr) (cap : Nat), v = .slice a l.length cap := by
  rcases h.row.2 with ⟨rfl, h0⟩ | ⟨g, cap, cur, rfl, _⟩
  · exact ⟨none, 0, by rw [h0]⟩
  · exact ⟨_, _, rfl⟩
/-- What the box reads as. -/
theorem Acc.isV (h : Acc lo w vb k n l v xs) (hk : Rng k) (hn : Rng n) (ok : Nat → Prop) (hok : ∀ g, lo ≤ g → g < w.heap.size → ok g) : IsV ok w (.mk k n l) (.agg #[.int .i64 k, .int .i64 n, v]) := by
  rw [IsV]
  have hrow := h.row
  rcases h.row.2 with ⟨rfl, h0⟩ | ⟨g, cap, cur, rfl, e2, e3, e4, e5, e6, e7⟩
  · rw [h0]
    have : l = [] := List.eq_nil_of_length_eq_zero h0
    subst this
    exact ⟨none, 0, rfl, hk, hn, Nat.le_refl _, Nat.zero_le _, by rw [IsR]; trivial⟩
  · refine ⟨some ⟨g, 0, none⟩, cap, rfl, hk, hn, e4, e5, ?_⟩
    have hlt := (hrow.lt g rfl).2
    refine (h.kids.more fun j hj => hok j hj.1 hj.2.1).row (hok g e2 hlt) 0 fun j u hj => ?_
    have hjl : j < l.length * 3 := by
      have := (List.getElem?_eq_some_iff.1 hj).1
      rw [hrow.1] at this
      exact this
    rw [show 0 + 0 * 3 + j = j from by omega, hrow.cellAt j hjl]
    exact hj

/-- The laying of one value more, behind an append of an empty one: in either order of the two stores. -/
theorem Acc.push {W W1 : World} {t : VT} {u0 u1 u2 : Value} {g cap : Nat} (h : Acc lo W vb k n l v xs)
    (ht : IsV (fun g => lo ≤ g ∧ g < W.heap.size ∧ some g ≠ v.ownBlock) W t (.agg #[u0, u1, u2]))
    (hown : W1.ownsRow lo 26 3 (.slice (some ⟨g, 0, none⟩) (l.length + 1) cap) (l.length + 1) (xs ++ zeroV))
    (hgr : W.grownBy W1 v.ownBlock) (hat : v.ownBlock = some g ∨ g = W.heap.size) :
    Acc lo ((((W1.setCell ⟨g, l.length * 3, none⟩ u0).setCell ⟨g, l.length * 3 + 1, none⟩ u1).setCell ⟨g, l.length * 3 + 2, none⟩ u2).setCell ⟨vb, 2, none⟩ (.slice (some ⟨g, 0, none⟩) (l.length + 1) cap)) vb k n (l ++ [t]) (.slice (some ⟨g, 0, none⟩) (l.length + 1) cap) (xs ++ [u0, u1, u2]) ∧
    Acc lo ((((W1.setCell ⟨vb, 2, none⟩ (.slice (some ⟨g, 0, none⟩) (l.length + 1) cap)).setCell ⟨g, l.length * 3, none⟩ u0).setCell ⟨g, l.length * 3 + 1, none⟩ u1).setCell ⟨g, l.length * 3 + 2, none⟩ u2) vb k n (l ++ [t]) (.slice (some ⟨g, 0, none⟩) (l.length + 1) cap) (xs ++ [u0, u1, u2]) := by
  have hvl := h.vlt
  have hle := h.le
  have hsz := hgr.size
  have hrl := hown.lt g rfl
  have hne : some vb ≠ v.ownBlock := fun e => by have := (h.row.lt vb e.symm).1; omega
  have hbox1 : Bx W1 vb 26 (.int .i64 k) (.int .i64 n) v := (hgr.block vb (by omega) hne).trans h.box
  have hgv : g ≠ vb := by omega
  have hgv' : vb ≠ g := by omega
  have hlx : xs.length = l.length * 3 := h.row.1
  have hset : (((xs ++ zeroV).set (l.length * 3) u0).set (l.length * 3 + 1) u1).set (l.length * 3 + 2) u2 = xs ++ [u0, u1, u2] := by
    rw [← hlx]
    simp [zeroV]
  have hkid : ∀ (W3 : World), (∀ j, j ≠ g → j ≠ vb → W3.heap[j]? = W1.heap[j]?) → W1.heap.size ≤ W3.heap.size → Kids (fun j => lo ≤ j ∧ j < W3.heap.size ∧ some j ≠ (Value.slice (some ⟨g, 0, none⟩) (l.length + 1) cap).ownBlock) W3 (l ++ [t]) (xs ++ [u0, u1, u2]) := by
    intro W3 hk3 hs3
    have hj : ∀ j, (lo ≤ j ∧ j < W.heap.size ∧ some j ≠ v.ownBlock) → j ≠ g ∧ W3.heap[j]? = W.heap[j]? := by
      intro j ⟨j1, j2, j3⟩
      have hjg : j ≠ g := by
        rcases hat with e | e
        · intro e2; subst e2; exact j3 e.symm
        · omega
      exact ⟨hjg, (hk3 j hjg (by omega)).trans (hgr.block j j2 j3)⟩
    refine ((Kids.push ht h.kids).keep fun j hjo o => World.cell?_of_block (w := W) (hj j hjo).2).more fun j hjo => ⟨hjo.1, by have := hjo.2.1; omega, ?_⟩
    intro e
    have : j = g := by simpa [Value.ownBlock] using e
    exact (hj j hjo).1 this
  have hlen : (l ++ [t]).length = l.length + 1 := by simp
  have hsc : ∀ (Wx : World) (q : Addr) (u : Value), (Wx.setCell q u).heap.size = Wx.heap.size := by intro Wx q u; simp [World.setCell]
  constructor
  · refine ⟨?_, ?_, hkid _ ?_ ?_, hvl, ?_⟩
    · exact ((((hbox1.far (q := ⟨g, _, none⟩) hgv' _).far (q := ⟨g, _, none⟩) hgv' _).far (q := ⟨g, _, none⟩) hgv' _).set2 _)
    · rw [hlen, ← hset]
      exact ownsRow_setCell_below (a := ⟨vb, 2, none⟩) ((((hown.stored _ u0).1.stored _ u1).1.stored _ u2).1) hvl _
    · intro j h1 h2
      rw [Below.heap_setCell _ _ _ _ h2, Below.heap_setCell _ _ _ _ h1, Below.heap_setCell _ _ _ _ h1, Below.heap_setCell _ _ _ _ h1]
    · simp only [hsc]; exact Nat.le_refl _
    · simp only [hsc]; omega
  · refine ⟨?_, ?_, hkid _ ?_ ?_, hvl, ?_⟩
    · exact ((((hbox1.set2 _).far (q := ⟨g, _, none⟩) hgv' _).far (q := ⟨g, _, none⟩) hgv' _).far (q := ⟨g, _, none⟩) hgv' _)
    · rw [hlen, ← hset]
      exact ((((ownsRow_setCell_below (a := ⟨vb, 2, none⟩) hown hvl _).stored _ u0).1.stored _ u1).1.stored _ u2).1
    · intro j h1 h2
      rw [Below.heap_setCell _ _ _ _ h1, Below.heap_setCell _ _ _ _ h1, Below.heap_setCell _ _ _ _ h1, Below.heap_setCell _ _ _ _ h2]
    · simp only [hsc]; exact Nat.le_refl _
    · simp only [hsc]; omega
end
end Go.Proofs.YtkahboomahhdoaaDoor
