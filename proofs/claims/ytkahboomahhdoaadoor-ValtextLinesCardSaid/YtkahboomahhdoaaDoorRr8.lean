/-
  Walks over the reference of layer 5: the reader's value at a word.
-/
import Derived.Test.YtkahboomahhdoaaDoorRr7
import Derived.Deep.DeepCutAuto
import Derived.Deep.CutBlock
namespace Go.Proofs.YtkahboomahhdoaaDoor
open Go.RowKit

theorem B4.drew {w : World} {g : Nat} {t : TypeId} {v0 v1 v2 v3 : Value} (h : B4 w g t v0 v1 v2 v3) : B4 w.drew g t v0 v1 v2 v3 := h
theorem Bx.drew1 {w : World} {g : Nat} {t : TypeId} {v0 v1 v2 : Value} (h : Bx w g t v0 v1 v2) : Bx w.drew g t v0 v1 v2 := h
/-- A value more in the row, laid as it is. -/
theorem Acc.pushD {lo vb g cap : Nat} {W W1 : World} {k n : Int} {l : List VT} {v : Value} {xs : List Value} {t : VT} {u0 u1 u2 : Value} (h : Acc lo W vb k n l v xs)
    (ht : IsV (fun g => lo ≤ g ∧ g < W.heap.size ∧ some g ≠ v.ownBlock) W t (.agg #[u0, u1, u2]))
    (hown : W1.ownsRow lo 26 3 (.slice (some ⟨g, 0, none⟩) (l.length + 1) cap) (l.length + 1) (xs ++ [u0, u1, u2]))
    (hgr : W.grownBy W1 v.ownBlock) (hat : v.ownBlock = some g ∨ g = W.heap.size) :
    Acc lo (W1.setCell ⟨vb, 2, none⟩ (.slice (some ⟨g, 0, none⟩) (l.length + 1) cap)) vb k n (l ++ [t]) (.slice (some ⟨g, 0, none⟩) (l.length + 1) cap) (xs ++ [u0, u1, u2]) := by
  have hvl := h.vlt
  have hle := h.le
  have hsz := hgr.size
  have hrl := hown.lt g rfl
  have hne : some vb ≠ v.ownBlock := fun e => by have := (h.row.lt vb e.symm).1; omega
  have hbox1 : Bx W1 vb 26 (.int .i64 k) (.int .i64 n) v := (hgr.block vb (by omega) hne).trans h.box
  have hlen : (l ++ [t]).length = l.length + 1 := by simp
  have hsc : ∀ (Wx : World) (q : Addr) (u : Value), (Wx.setCell q u).heap.size = Wx.heap.size := by intro Wx q u; simp [World.setCell]
  have hj : ∀ j, (lo ≤ j ∧ j < W.heap.size ∧ some j ≠ v.ownBlock) → j ≠ g ∧ (W1.setCell ⟨vb, 2, none⟩ (.slice (some ⟨g, 0, none⟩) (l.length + 1) cap)).heap[j]? = W.heap[j]? := by
    intro j ⟨j1, j2, j3⟩
    have hjg : j ≠ g := by
      rcases hat with e | e
      · intro e2; subst e2; exact j3 e.symm
      · omega
    exact ⟨hjg, (Below.heap_setCell _ _ _ _ (by simp; omega)).trans (hgr.block j j2 j3)⟩
  refine ⟨hbox1.set2 _, ?_, ?_, hvl, by rw [hsc]; omega⟩
  · rw [hlen]
    exact ownsRow_setCell_below (a := ⟨vb, 2, none⟩) hown hvl _
  · refine ((Kids.push ht h.kids).keep fun j hjo o => World.cell?_of_block (w := W) (hj j hjo).2).more fun j hjo => ⟨hjo.1, by have := hjo.2.1; rw [hsc]; omega, ?_⟩
    intro e
    have : j = g := by simpa [Value.ownBlock] using e
    exact (hj j hjo).1 this

theorem RwEnds.out {s : ByteArray} {p : Int} {w w' : World} {r : Except Nat (Nat × Nat)} {e : Ending} (h : RwEnds s p w r e w') : ∃ (j k : Nat) (bd : Bool), e = .returned (.tuple #[rdV s j p bd, .int .i64 k]) ∧ Below w.heap.size w w' ∧ ((r = .error j ∧ bd = true ∧ k = 0) ∨ (r = .ok (k, j) ∧ bd = false)) := by
  rcases r with j | ⟨k, j⟩
  · exact ⟨j, 0, true, h.1, h.2, .inl ⟨rfl, rfl, rfl⟩⟩
  · exact ⟨j, k, false, h.1, h.2, .inr ⟨rfl, rfl⟩⟩
/-- The word, as the reference reads it, and what follows it. -/
def rWordK (s : ByteArray) (rec : Rec) (sa : Int) (i p : Nat) : Except Nat (VT × Nat × Nat) := match rword s i (asM sa) with
    | .error j => .error j
    | .ok (k, j) => if k = 1 ∨ k = 8 then .ok (.mk k 0 [], j, p + 1) else if isB s j 40 then match rList s rec k (j + 1) (p + 1) with
      | .error j' => .error j'
      | .ok (n, l, j', p') => .ok (.mk k n l, j', p')
      else .error j

def finK (k : Nat) (r : Except Nat (Int × List VT × Nat × Nat)) : Except Nat (VT × Nat × Nat) := match r with
  | .error j => .error j
  | .ok (n, l, j, p) => .ok (.mk k n l, j, p)
/-- Where the list begins. -/
def RvMid (s : ByteArray) (f k p : Nat) (w : World) (vb : Nat) (R : Except Nat (VT × Nat × Nat)) (wx : World) : Prop :=
  ∃ (j2 : Nat) (b2 : Bool) (n : Int), B4 wx w.heap.size 68 (.string s) (.int .i64 j2) (.int .i64 ((p : Int) + 1)) (.bool b2) ∧ B4 wx (w.heap.size + 1) 68 (.string ⟨#[]⟩) (.int .i64 0) (.int .i64 0) (.bool false) ∧ Bx wx (w.heap.size + 1 + 1) 26 (.int .i64 0) (.int .i64 0) (.slice none 0 0) ∧ Bx wx vb 26 (.int .i64 k) (.int .i64 n) (.slice none 0 0) ∧ Below w.heap.size w wx ∧ Rng n ∧
    ((b2 = true ∧ R = .error j2) ∨ (b2 = false ∧ j2 ≤ s.size ∧ Rng n ∧ R = finK k (withN n (rTail s (pVal s f) (numd k) (needs k).1 (asM (needs k).2.2.1) (asM (needs k).2.2.2) (needs k).2.1 0 [] j2 (p + 1)))))
theorem needs_ok (k : Nat) : (needs k).2.1 ≤ 16 ∧ ((needs k).2.2.1 = 0 ∨ (needs k).2.2.1 = 1 ∨ (needs k).2.2.1 = 2) ∧ ((needs k).2.2.2 = 0 ∨ (needs k).2.2.2 = 1 ∨ (needs k).2.2.2 = 2) ∧ (needs k).1 ≤ 16 := by
  unfold needs
  split <;> simp
theorem sgn_open (s : ByteArray) (f k j p : Nat) (R : Except Nat (VT × Nat × Nat)) (hR : R = if isB s j 40 then finK k (rList s (pVal s f) k (j + 1) (p + 1)) else .error j) (hj : j ≤ s.size) :
    ∃ (j1 : Nat) (b1 : Bool), sgn s 40 j false = (j1, b1) ∧ j1 ≤ s.size ∧ ((b1 = true ∧ R = .error j1) ∨ (b1 = false ∧ R = finK k (rList s (pVal s f) k j1 (p + 1)))) := by
  cases h : isB s j 40 with
  | true =>
    have := isB_lt (by omega) h
    exact ⟨j + 1, false, by rw [sgn, h]; rfl, by omega, .inr ⟨rfl, by rw [hR, h]; rfl⟩⟩
  | false => exact ⟨j, true, by rw [sgn, h]; rfl, by omega, .inl ⟨rfl, by rw [hR, h]; rfl⟩⟩
theorem mid_num {s : ByteArray} {f k j1 p : Nat} {b1 : Bool} {R : Except Nat (VT × Nat × Nat)} (hst : (b1 = true ∧ R = .error j1) ∨ (b1 = false ∧ R = finK k (rList s (pVal s f) k j1 (p + 1)))) (hj : j1 ≤ s.size) (hnb : numd k = true) {j2 n : Nat} {b2 : Bool}
    (h : (rnum s (mostN k) 0 j1 b1 = .error j2 ∧ b2 = true ∧ n = 0) ∨ (rnum s (mostN k) 0 j1 b1 = .ok (n, j2) ∧ b2 = false)) :
    n ≤ 9223372036854775807 ∧ ((b2 = true ∧ R = .error j2) ∨ (b2 = false ∧ j2 ≤ s.size ∧ Rng n ∧ R = finK k (withN n (rTail s (pVal s f) (numd k) (needs k).1 (asM (needs k).2.2.1) (asM (needs k).2.2.2) (needs k).2.1 0 [] j2 (p + 1))))) := by
  have hm : 9 ≤ mostN k ∧ mostN k ≤ 9223372036854775807 := by unfold mostN; split <;> omega
  have hr : ∀ b, b = false → rnum s (mostN k) 0 j1 b = num s (mostN k) j1 := by intro b hb; subst hb; unfold rnum; simp
  rcases hst with ⟨rfl, hR⟩ | ⟨rfl, hR⟩
  · rcases h with ⟨h1, rfl, rfl⟩ | ⟨h1, _⟩
    · unfold rnum at h1
      rw [if_pos rfl] at h1
      injection h1 with h1
      subst h1
      exact ⟨by omega, .inl ⟨rfl, hR⟩⟩
    · unfold rnum at h1
      rw [if_pos rfl] at h1
      cases h1
  · rw [hr _ rfl] at h
    unfold rList at hR
    rw [hnb, if_pos rfl] at hR
    rcases h with ⟨h1, rfl, rfl⟩ | ⟨h1, rfl⟩
    · rw [h1] at hR
      exact ⟨by omega, .inl ⟨rfl, hR⟩⟩
    · rw [h1] at hR
      have h2 := num_ok h1 hj hm.1
      refine ⟨by omega, .inr ⟨rfl, h2.2.2, by unfold Rng; omega, ?_⟩⟩
      rw [hnb]
      exact hR
theorem mid_none {s : ByteArray} {f k j1 p : Nat} {b1 : Bool} {R : Except Nat (VT × Nat × Nat)} (hst : (b1 = true ∧ R = .error j1) ∨ (b1 = false ∧ R = finK k (rList s (pVal s f) k j1 (p + 1)))) (hj : j1 ≤ s.size) (hnb : numd k = false) :
    (b1 = true ∧ R = .error j1) ∨ (b1 = false ∧ j1 ≤ s.size ∧ Rng 0 ∧ R = finK k (withN 0 (rTail s (pVal s f) (numd k) (needs k).1 (asM (needs k).2.2.1) (asM (needs k).2.2.2) (needs k).2.1 0 [] j1 (p + 1)))) := by
  rcases hst with h | ⟨h, hR⟩
  · exact .inl h
  · refine .inr ⟨h, hj, by unfold Rng; omega, ?_⟩
    unfold rList at hR
    rw [hnb] at hR
    rw [hnb]
    exact hR

/-- The blocks of value's call. -/
structure RvSt (s : ByteArray) (w : World) (i' p' : Int) (bd : Bool) (wr : World) : Prop where
  r : B4 wr w.heap.size 68 (.string s) (.int .i64 i') (.int .i64 p') (.bool bd)
  o : B4 wr (w.heap.size + 1) 68 (.string ⟨#[]⟩) (.int .i64 0) (.int .i64 0) (.bool false)
  v : Bx wr (w.heap.size + 1 + 1) 26 (.int .i64 0) (.int .i64 0) (.slice none 0 0)
  b : Below w.heap.size w wr
section
variable {s : ByteArray} {w wr w2 : World} {i' p' : Int} {bd : Bool}
theorem RvSt.below (h : RvSt s w i' p' bd wr) (hb : Below wr.heap.size wr w2) : RvSt s w i' p' bd w2 := ⟨h.r.belowAll hb, h.o.belowAll hb, h.v.belowAll hb, h.b.trans (hb.mono h.b.size)⟩
theorem RvSt.alloc (h : RvSt s w i' p' bd wr) (o : Obj) : RvSt s w i' p' bd (wr.alloc o) := h.below (below_alloc _ _)
theorem RvSt.put (h : RvSt s w i' p' bd wr) (i2 p2 : Int) (b2 : Bool) : RvSt s w i2 p2 b2 (put4 wr w.heap.size (.string s) (.int .i64 i2) (.int .i64 p2) (.bool b2)) :=
  ⟨h.r.put _ _ _ _, h.o.far4 (by omega) _ _ _ _, h.v.far4 (by omega) _ _ _ _, below_put4 h.b (by omega) _ _ _ _⟩
theorem RvSt.set (h : RvSt s w i' p' bd wr) {q : Addr} (hq : w.heap.size + 1 + 1 < q.block) (u : Value) : RvSt s w i' p' bd (wr.setCell q u) :=
  ⟨h.r.far (by omega) _, h.o.far (by omega) _, h.v.far (by omega) _, h.b.setCell (p := q) (by omega) _⟩
theorem RvSt.grown (h : RvSt s w i' p' bd wr) {row : Option Nat} (hg : wr.grownBy w2 row) (hr : ∀ g, row = some g → w.heap.size + 1 + 1 < g) : RvSt s w i' p' bd w2 := by
  have hk : ∀ j, j ≤ w.heap.size + 1 + 1 → w2.heap[j]? = wr.heap[j]? := fun j hj => hg.block j (by have := h.v.lt; omega) (fun e => by have := hr j e.symm; omega)
  exact ⟨(hk _ (by omega)).trans h.r, (hk _ (by omega)).trans h.o, (hk _ (by omega)).trans h.v, hg.os.trans h.b.os, hg.tape.trans h.b.tape, hg.output.trans h.b.output, Nat.le_trans h.b.size hg.size, fun j hj => (hk j (by omega)).trans (h.b.block j hj)⟩
end
theorem Acc.belowA {lo vb : Nat} {w w' : World} {k n : Int} {l : List VT} {v : Value} {xs : List Value} (h : Acc lo w vb k n l v xs) {b : Nat} (hb : b < vb) (hw : Below w.heap.size w w') : Acc lo w' vb k n l v xs :=
  h.keepAll (b := b) hw.size (fun j hj _ => hw.block j hj) (by have := h.vlt; omega) (by omega)
theorem Acc.putR {lo vb : Nat} {w : World} {k n : Int} {l : List VT} {v : Value} {xs : List Value} (h : Acc lo w vb k n l v xs) {b : Nat} (hb : b < vb) (u0 u1 u2 u3 : Value) : Acc lo (put4 w b u0 u1 u2 u3) vb k n l v xs := by
  have hv := h.vlt
  exact ((((h.setB (b := b) 0 u0 (by omega) (by omega)).setB (b := b) 1 u1 (by omega) (by omega)).setB (b := b) 2 u2 (by omega) (by omega)).setB (b := b) 3 u3 (by omega) (by omega))
/-- How the list stands behind the loop. -/
def RvEnd (s : ByteArray) (k : Nat) (n : Int) (w : World) (vb : Nat) (R : Except Nat (VT × Nat × Nat)) (wx : World) : Prop :=
  ∃ (i' p' : Int) (bd : Bool), RvSt s w i' p' bd wx ∧
    ((bd = true ∧ (∃ e : Nat, i' = e ∧ R = .error e) ∧ ∃ a len cap, Bx wx vb 26 (.int .i64 k) (.int .i64 n) (.slice a len cap)) ∨
      (bd = false ∧ ∃ (i2 p2 : Nat) (l : List VT) (v : Value) (xs : List Value), i' = i2 ∧ p' = p2 ∧ i2 ≤ s.size ∧ R = finK k (withN n (clo s l i2 p2)) ∧ Acc (vb + 1) wx vb k n l v xs))
/-- How it stands at the head of a round. -/
def RvLoop (s : ByteArray) (f k p : Nat) (n : Int) (w : World) (vb : Nat) (R : Except Nat (VT × Nat × Nat)) (nb : Bool) (least most : Nat) (a1 a2 : Int) (x : Value) (wr : World) : Prop :=
  ∃ (j : Nat) (i' p' : Int) (bd : Bool), x = .int .i64 j ∧ j ≤ most ∧ RvSt s w i' p' bd wr ∧
    ((bd = true ∧ (∃ e : Nat, i' = e ∧ R = .error e) ∧ ∃ a len cap, Bx wr vb 26 (.int .i64 k) (.int .i64 n) (.slice a len cap)) ∨
      (bd = false ∧ ∃ (i2 p2 : Nat) (l : List VT) (v : Value) (xs : List Value), i' = i2 ∧ p' = p2 ∧ i2 ≤ s.size ∧ p < p2 ∧ p2 ≤ 256 ∧ l.length = j ∧ R = finK k (withN n (rTail s (pVal s f) nb least (asM a1) (asM a2) (most - j) j l i2 p2)) ∧ Acc (vb + 1) wr vb k n l v xs))
def NextR (s : ByteArray) (f k p : Nat) (n : Int) (R : Except Nat (VT × Nat × Nat)) (l : List VT) (nb : Bool) (least most : Nat) (a1 a2 : Int) (j : Nat) (one : Int) (i3 p3 : Nat) (b3 : Bool) : Prop :=
  (b3 = true ∧ R = .error i3) ∨ (b3 = false ∧ p < p3 ∧ p3 ≤ 256 ∧ R = finK k (withN n (pThen (pVal s f (asM one) i3 p3) l (rTail s (pVal s f) nb least (asM a1) (asM a2) (most - (j + 1)) (j + 1)))))
theorem tail_next {s : ByteArray} {f k p : Nat} {n : Int} {R : Except Nat (VT × Nat × Nat)} {l : List VT} {nb : Bool} {least most : Nat} {a1 a2 : Int} {j i2 p2 : Nat} (hR : R = finK k (withN n (rTail s (pVal s f) nb least (asM a1) (asM a2) (most - j) j l i2 p2))) (hj : j < most)
    (hbrk : (decide (least ≤ j) && isB s i2 41) = false) (hi : i2 ≤ s.size) (hp1 : p < p2) (hp2 : p2 ≤ 256) :
    ∃ (i3 : Nat) (b3 : Bool), (if decide (0 < j) || nb then sgn s 44 i2 false else (i2, false)) = (i3, b3) ∧ i3 ≤ s.size ∧ NextR s f k p n R l nb least most a1 a2 j (if j = 0 then a1 else a2) i3 p2 b3 := by
  have e : most - j = (most - (j + 1)) + 1 := by omega
  have em : (if j = 0 then asM a1 else asM a2) = asM (if j = 0 then a1 else a2) := by split <;> rfl
  rw [e, rTail, hbrk, em] at hR
  rw [if_neg (by simp)] at hR
  cases hc : (decide (0 < j) || nb) with
  | false =>
    rw [hc] at hR
    rw [if_neg (by simp)] at hR ⊢
    exact ⟨i2, false, rfl, hi, .inr ⟨rfl, hp1, hp2, hR⟩⟩
  | true =>
    rw [hc, if_pos rfl] at hR
    rw [if_pos rfl]
    cases h44 : isB s i2 44 with
    | true =>
      have := isB_lt (by omega) h44
      rw [h44, if_pos rfl] at hR
      exact ⟨i2 + 1, false, by rw [sgn, h44]; rfl, by omega, .inr ⟨rfl, hp1, hp2, hR⟩⟩
    | false =>
      rw [h44, if_neg (by simp)] at hR
      exact ⟨i2, true, by rw [sgn, h44]; rfl, hi, .inl ⟨rfl, hR⟩⟩
/-- One value more, or a wrong place: how the call ends. -/
def ValNext (s : ByteArray) (f k p : Nat) (n : Int) (R : Except Nat (VT × Nat × Nat)) (l : List VT) (nb : Bool) (least most : Nat) (a1 a2 : Int) (j : Nat) (w : World) (e : Ending) (w' : World) : Prop :=
  ∃ (i4 p4 : Int) (b4 : Bool) (k3 n3 : Int) (a3 : Option Addr) (l3 c3 : Nat), e = .returned (.tuple #[.agg #[.string s, .int .i64 i4, .int .i64 p4, .bool b4], .agg #[.int .i64 k3, .int .i64 n3, .slice a3 l3 c3]]) ∧ Below w.heap.size w w' ∧
    ((b4 = true ∧ ∃ e : Nat, i4 = e ∧ R = .error e) ∨ (b4 = false ∧ ∃ (i5 p5 : Nat) (t : VT), i4 = i5 ∧ p4 = p5 ∧ i5 ≤ s.size ∧ p < p5 ∧ p5 ≤ 256 ∧ IsV (fun g => w.heap.size ≤ g ∧ g < w'.heap.size) w' t (.agg #[.int .i64 k3, .int .i64 n3, .slice a3 l3 c3]) ∧
      R = finK k (withN n (rTail s (pVal s f) nb least (asM a1) (asM a2) (most - (j + 1)) (j + 1) (l ++ [t]) i5 p5))))
theorem value_next {s : ByteArray} {f k p : Nat} {n : Int} {R : Except Nat (VT × Nat × Nat)} {l : List VT} {nb : Bool} {least most : Nat} {a1 a2 : Int} {j : Nat} {one : Int} {i3 p3 : Nat} {b3 : Bool} (hV : RValC s f) (h : NextR s f k p n R l nb least most a1 a2 j one i3 p3 b3) (ho : one = 0 ∨ one = 1 ∨ one = 2) (hi : i3 ≤ s.size) (hpf : 256 ≤ p + 1 + f) (w : World) :
    Calls Tryd.prog 33 #[.agg #[.string s, .int .i64 (i3 : Int), .int .i64 (p3 : Int), .bool b3], .int .i64 one] w (ValNext s f k p n R l nb least most a1 a2 j w) := by
  rcases h with ⟨rfl, hR⟩ | ⟨rfl, hp1, hp2, hR⟩
  · refine (rvalue_bad s i3 p3 one w).mono ?_
    rintro e w' ⟨rfl, hb⟩
    exact ⟨_, _, _, _, _, _, _, _, rfl, hb, .inl ⟨rfl, i3, rfl, hR⟩⟩
  · refine (hV one i3 p3 w ho hi hp2 (by omega)).mono ?_
    intro e w' h
    rcases hx : pVal s f (asM one) i3 p3 with j' | ⟨t, i5, p5⟩
    · rw [hx] at h hR
      obtain ⟨p', k3, n3, a3, l3, c3, rfl, hb⟩ := h
      exact ⟨_, _, _, _, _, _, _, _, rfl, hb, .inl ⟨rfl, j', rfl, hR⟩⟩
    · have hgo := pVal_goes s f (asM one) i3 p3 t i5 p5 hi hp2 hx
      rw [hx] at h hR
      obtain ⟨v, rfl, hv, hb⟩ := h
      have hv2 := hv
      obtain ⟨kk, nn, ll⟩ := t
      rw [IsV] at hv2
      obtain ⟨a3, c3, rfl, -⟩ := hv2
      exact ⟨_, _, _, _, _, _, _, _, rfl, hb, .inr ⟨rfl, i5, p5, _, rfl, rfl, by omega, by omega, by omega, hv, hR⟩⟩

end Go.Proofs.YtkahboomahhdoaaDoor
