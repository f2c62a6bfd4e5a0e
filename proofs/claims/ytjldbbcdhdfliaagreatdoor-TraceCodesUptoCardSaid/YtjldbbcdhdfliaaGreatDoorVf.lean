/-
 The statement of reader's event that reads a value, in whatever order: by an invariant. Printed by gen_vf.py.
-/
import Derived.Test.YtjldbbcdhdfliaaGreatDoorVnVe
import Derived.Test.YtjldbbcdhdfliaaGreatDoorAppM
import Derived.Test.YtjldbbcdhdfliaaGreatDoorTj
import Derived.Laws.BytesArg
namespace Go.Proofs.YtjldbbcdhdfliaaGreatDoor
open Go.RowKit Go.Sort

def pT (r : Except Nat VT) : VT := match r with
 | .ok t => t
 | .error _ => zeroT
def pJ (r : Except Nat VT) : Nat := match r with
 | .ok _ => 0
 | .error j => j
def pE (r : Except Nat VT) : Nat := match r with
 | .ok _ => 0
 | .error _ => 50
theorem pEnds {r : Except Nat VT} {w w' : World} {e : Ending} (h : ParseEnds w r e w') : ∃ (kk nn : Int) (aa : Option Addr) (ll cc : Nat), e = .returned (.tuple #[.agg #[.int .i64 kk, .int .i64 nn, .slice aa ll cc], .int .i64 (pJ r : Nat), .int .i64 (pE r : Nat)]) ∧
  IsV (fun g => w.heap.size ≤ g ∧ g < w'.heap.size) w' (pT r) (.agg #[.int .i64 kk, .int .i64 nn, .slice aa ll cc]) ∧ Below w.heap.size w w' := by
 cases r with
 | error j =>
  obtain ⟨rfl, hb⟩ := h
  exact ⟨0, 0, none, 0, 0, rfl, IsV_zero _ _, hb⟩
 | ok t =>
  obtain ⟨v, rfl, hv, hb⟩ := h
  obtain ⟨kk, nn, aa, ll, cc, rfl⟩ := hv.form
  exact ⟨kk, nn, aa, ll, cc, rfl, hv, hb⟩
theorem Rdr.belowB {B : Nat} {w W W' : World} {rb b g : Nat} {last : Int} {l : List UInt8} (h : Rdr w rb b g last W l) (hb : Below B W W') (hB : rb < B) : Rdr w rb b g last W' l := by
 obtain ⟨o, h1, h2⟩ := h.ex
 have hg := h.ne
 exact ⟨⟨o, (hb.block rb hB).trans h1, fun i c hi => (hb.cell (p := ⟨g, o + i, none⟩) (by simp; omega)).trans (h2 i c hi)⟩, h.bel.trans (hb.mono (by omega)), hg⟩
theorem grown_of {W W' : World} {rb : Nat} (h : Below W.heap.size W W') : W.grownBy W' (some rb) := ⟨h.os, h.tape, h.output, h.size, fun k hk _ => h.block k hk⟩

theorem set_farVf {W : World} {q : Addr} {u : Value} {j : Nat} (h : j ≠ q.block) : (W.setCell q u).heap[j]? = W.heap[j]? := by
 have h' : ¬ q.block = j := fun e => h e.symm
 simp [World.setCell, Array.getElem?_modify, h']
/-- What stands after some of the operations. -/
structure EvM (w : World) (rb b g : Nat) (last : Int) (l r1 : List UInt8) (n : Nat) (PR : Except Nat VT) (w0 : World) (W : World) (a : Act) (b6 b7 b9 b10 b11 b14 b15 : Bool) : Prop where
 gr : w0.grownBy W (some rb)
 rd : Rdr w rb b g last W (if b7 then r1.drop n else if b6 then r1 else l)
 d6 : b6 = true → numO 0 0 l = some (n, r1)
 d7 : b7 = true → b6 = true ∧ n ≤ r1.length ∧ ∃ o1, a.eval (.tmp 93) = .slice (some ⟨g, o1, none⟩) n n ∧ ∀ i c, r1[i]? = some c → w.cell? ⟨g, o1 + i, none⟩ = some (.int .u8 (c.toNat : Nat))
 d9 : b9 = true → b7 = true
 v : b9 = true → ∃ (kk nn : Int) (aa : Option Addr) (ll cc : Nat), a.eval (.tmp 95) = .tuple #[.agg #[.int .i64 kk, .int .i64 nn, .slice aa ll cc], .int .i64 (pJ PR : Nat), .int .i64 (pE PR : Nat)] ∧ IsV (fun q => w0.heap.size ≤ q ∧ q < W.heap.size ∧ (b14 = true → a.eval (.tmp 8) ≠ .pointer (some ⟨q, 0, none⟩))) W (pT PR) (.agg #[.int .i64 kk, .int .i64 nn, .slice aa ll cc]) ∧
  (b10 = true → a.eval (.tmp 85) = .tuple #[.agg #[.int .i64 kk, .int .i64 nn, .slice aa ll cc], .int .i64 (pJ PR : Nat), .int .i64 (pE PR : Nat)]) ∧ (b11 = true → a.eval (.tmp 96) = .agg #[.int .i64 kk, .int .i64 nn, .slice aa ll cc]) ∧ (b15 = true → ∃ vb, a.eval (.tmp 8) = .pointer (some ⟨vb, 0, none⟩) ∧ W.heap[vb]? = some (.cells #[.int .i64 kk, .int .i64 nn, .slice aa ll cc] 27 (0, 0)))
 al : b14 = true → ∃ vb, a.eval (.tmp 8) = .pointer (some ⟨vb, 0, none⟩) ∧ w0.heap.size ≤ vb ∧ (b15 = false → W.heap[vb]? = some (.cells #[.int .i64 0, .int .i64 0, .slice none 0 0] 27 (0, 0)))
section
variable {w : World} {rb b g : Nat} {last : Int} {l r1 : List UInt8} {n : Nat} {PR : Except Nat VT} {w0 : World} {W W' : World} {a : Act} {b6 b7 b9 b10 b11 b14 b15 : Bool}
theorem EvM.put (h : EvM w rb b g last l r1 n PR w0 W a b6 b7 b9 b10 b11 b14 b15) {t : Nat} (h1 : t ≠ 93) (h2 : t ≠ 95) (h3 : t ≠ 85) (h4 : t ≠ 96) (h5 : t ≠ 8) (u : Value) : EvM w rb b g last l r1 n PR w0 W (a.put (some t) u) b6 b7 b9 b10 b11 b14 b15 := by
 refine ⟨h.gr, h.rd, h.d6, ?_, h.d9, ?_, ?_⟩
 ·rw [eval_put_ne (Ne.symm h1)]
  exact h.d7
 ·rw [eval_put_ne (Ne.symm h2), eval_put_ne (Ne.symm h3), eval_put_ne (Ne.symm h4), eval_put_ne (Ne.symm h5)]
  exact h.v
 ·rw [eval_put_ne (Ne.symm h5)]
  exact h.al
/-- number. -/
theorem EvM.num (h : EvM w rb b g last l r1 n PR w0 W a false b7 b9 b10 b11 b14 b15) (hrb : rb < w0.heap.size) (hn : numO 0 0 l = some (n, r1)) (hR : Rdr w rb b g last W' r1) (hg : W.grownBy W' (some rb)) (u : Value) (h15 : b15 = true → b9 = true) : EvM w rb b g last l r1 n PR w0 W' (a.put (some 92) u) true b7 b9 b10 b11 b14 b15 := by
 have e7 : b7 = false := by
  cases b7
  ·rfl
  ·have := (h.d7 rfl).1
   cases this
 subst e7
 have e9 : b9 = false := by
  cases b9
  ·rfl
  ·have := h.d9 rfl
   cases this
 subst e9
 have e15 : b15 = false := by
  cases b15
  ·rfl
  ·have := h15 rfl
   cases this
 subst e15
 refine ⟨h.gr.trans hg, hR, fun _ => hn, fun e => (by cases e), fun e => (by cases e), fun e => (by cases e), fun e => ?_⟩
 rw [eval_put_ne (show (8 : Nat) ≠ 92 by decide)]
 obtain ⟨vb, z1, z2, z3⟩ := h.al e
 exact ⟨vb, z1, z2, fun e => (hg.block vb (lt_of_heap (z3 e)) (by intro e; injection e; omega)).trans (z3 e)⟩
/-- cut. -/
theorem EvM.cut (h : EvM w rb b g last l r1 n PR w0 W a true false b9 b10 b11 b14 b15) (hrb : rb < w0.heap.size) (hs : 93 < a.tmps.size) (hn : n ≤ r1.length) (hR : Rdr w rb b g last W' (r1.drop n)) (hg : W.grownBy W' (some rb)) (o1 : Nat) (hc : ∀ i c, r1[i]? = some c → W'.cell? ⟨g, o1 + i, none⟩ = some (.int .u8 (c.toNat : Nat))) (h15 : b15 = true → b9 = true) :
  EvM w rb b g last l r1 n PR w0 W' (a.put (some 93) (.slice (some ⟨g, o1, none⟩) n n)) true true b9 b10 b11 b14 b15 := by
 have e9 : b9 = false := by
  cases b9
  ·rfl
  ·have := h.d9 rfl
   cases this
 subst e9
 have e15 : b15 = false := by
  cases b15
  ·rfl
  ·have := h15 rfl
   cases this
 subst e15
 refine ⟨h.gr.trans hg, hR, h.d6, fun _ => ⟨rfl, hn, o1, eval_put_same hs _, fun i c hi => (hR.bel.cell (p := ⟨g, o1 + i, none⟩) hR.ne).symm.trans (hc i c hi)⟩, fun e => (by cases e), fun e => (by cases e), fun e => ?_⟩
 rw [eval_put_ne (show (8 : Nat) ≠ 93 by decide)]
 obtain ⟨vb, z1, z2, z3⟩ := h.al e
 exact ⟨vb, z1, z2, fun e => (hg.block vb (lt_of_heap (z3 e)) (by intro e; injection e; omega)).trans (z3 e)⟩
/-- Parse. -/
theorem EvM.prs (h : EvM w rb b g last l r1 n PR w0 W a true true false b10 b11 b14 b15) (hs : 95 < a.tmps.size) (hb : Below W.heap.size W W') {kk nn : Int} {aa : Option Addr} {ll cc : Nat} (hv : IsV (fun q => W.heap.size ≤ q ∧ q < W'.heap.size) W' (pT PR) (.agg #[.int .i64 kk, .int .i64 nn, .slice aa ll cc])) (h10 : b10 = false) (h11 : b11 = false) (h15 : b15 = false) :
  EvM w rb b g last l r1 n PR w0 W' (a.put (some 95) (.tuple #[.agg #[.int .i64 kk, .int .i64 nn, .slice aa ll cc], .int .i64 (pJ PR : Nat), .int .i64 (pE PR : Nat)])) true true true b10 b11 b14 b15 := by
 subst h10 h11 h15
 have hsz := h.gr.size
 refine ⟨h.gr.trans (grown_of hb), h.rd.belowB hb h.rd.lt, h.d6, ?_, fun _ => rfl, fun _ => ⟨kk, nn, aa, ll, cc, eval_put_same hs _, hv.more fun q hq => ⟨by omega, hq.2, ?_⟩, fun e => (by cases e), fun e => (by cases e), fun e => (by cases e)⟩, ?_⟩
 ·rw [eval_put_ne (show (93 : Nat) ≠ 95 by decide)]
  exact h.d7
 ·rw [eval_put_ne (show (8 : Nat) ≠ 95 by decide)]
  intro e
  obtain ⟨vb, z1, z2, z3⟩ := h.al e
  exact ⟨vb, z1, z2, fun e => (hb.block vb (lt_of_heap (z3 e))).trans (z3 e)⟩
 ·rw [eval_put_ne (show (8 : Nat) ≠ 95 by decide)]
  intro e
  obtain ⟨vb, z1, z2, z3⟩ := h.al e
  have := lt_of_heap (z3 rfl)
  rw [z1]
  intro e2
  injection e2 with e2
  injection e2 with e2
  injection e2 with e2
  omega
/-- The tuple is moved. -/
theorem EvM.mov (h : EvM w rb b g last l r1 n PR w0 W a b6 b7 true false b11 b14 b15) (hs : 85 < a.tmps.size) : EvM w rb b g last l r1 n PR w0 W (a.put (some 85) (a.eval (.tmp 95))) b6 b7 true true b11 b14 b15 := by
 refine ⟨h.gr, h.rd, h.d6, ?_, h.d9, fun e => ?_, ?_⟩
 ·rw [eval_put_ne (show (93 : Nat) ≠ 85 by decide)]
  exact h.d7
 ·obtain ⟨kk, nn, aa, ll, cc, z1, z2, _, z4, z5⟩ := h.v e
  rw [eval_put_ne (show (95 : Nat) ≠ 85 by decide), eval_put_ne (show (96 : Nat) ≠ 85 by decide), eval_put_ne (show (8 : Nat) ≠ 85 by decide)]
  exact ⟨kk, nn, aa, ll, cc, z1, z2, fun _ => by rw [eval_put_same hs]; exact z1, z4, z5⟩
 ·rw [eval_put_ne (show (8 : Nat) ≠ 85 by decide)]
  exact h.al
/-- The value is taken out. -/
theorem EvM.ext (h : EvM w rb b g last l r1 n PR w0 W a b6 b7 true true false b14 b15) (hs : 96 < a.tmps.size) {kk nn : Int} {aa : Option Addr} {ll cc : Nat} (h85 : a.eval (.tmp 85) = .tuple #[.agg #[.int .i64 kk, .int .i64 nn, .slice aa ll cc], .int .i64 (pJ PR : Nat), .int .i64 (pE PR : Nat)]) : EvM w rb b g last l r1 n PR w0 W (a.put (some 96) (.agg #[.int .i64 kk, .int .i64 nn, .slice aa ll cc])) b6 b7 true true true b14 b15 := by
 refine ⟨h.gr, h.rd, h.d6, ?_, h.d9, fun e => ?_, ?_⟩
 ·rw [eval_put_ne (show (93 : Nat) ≠ 96 by decide)]
  exact h.d7
 ·obtain ⟨k2, n2, a2, l2, c2, z1, z2, z3, _, z5⟩ := h.v e
  have z6 := (z3 rfl).symm.trans h85
  simp only [Value.tuple.injEq, Array.mk.injEq, List.cons.injEq, Value.agg.injEq, Value.int.injEq, Value.slice.injEq, true_and, and_true] at z6
  obtain ⟨rfl, rfl, rfl, rfl, rfl⟩ := z6
  rw [eval_put_ne (show (95 : Nat) ≠ 96 by decide), eval_put_ne (show (85 : Nat) ≠ 96 by decide), eval_put_ne (show (8 : Nat) ≠ 96 by decide)]
  exact ⟨_, _, _, _, _, z1, z2, z3, fun _ => eval_put_same hs _, z5⟩
 ·rw [eval_put_ne (show (8 : Nat) ≠ 96 by decide)]
  exact h.al
/-- The box is made. -/
theorem EvM.box (h : EvM w rb b g last l r1 n PR w0 W a b6 b7 b9 b10 b11 false false) (hs : 8 < a.tmps.size) : EvM w rb b g last l r1 n PR w0 (W.alloc (.cells #[.int .i64 0, .int .i64 0, .slice none 0 0] 27)) (a.put (some 8) (.pointer (some ⟨W.heap.size, 0, none⟩))) b6 b7 b9 b10 b11 true false := by
 have hb := below_alloc W (.cells #[.int .i64 0, .int .i64 0, .slice none 0 0] 27)
 refine ⟨h.gr.trans (grown_of hb), h.rd.belowB hb h.rd.lt, h.d6, ?_, h.d9, fun e => ?_, fun _ => ⟨W.heap.size, eval_put_same hs _, h.gr.size, fun _ => heap_alloc_new _ _⟩⟩
 ·rw [eval_put_ne (show (93 : Nat) ≠ 8 by decide)]
  exact h.d7
 ·obtain ⟨kk, nn, aa, ll, cc, z1, z2, z3, z4, _⟩ := h.v e
  rw [eval_put_ne (show (95 : Nat) ≠ 8 by decide), eval_put_ne (show (85 : Nat) ≠ 8 by decide), eval_put_ne (show (96 : Nat) ≠ 8 by decide)]
  refine ⟨kk, nn, aa, ll, cc, z1, (z2.keep fun q hq o => World.cell?_of_block (w := W) (hb.block q hq.2.1)).more fun q hq => ⟨hq.1, Nat.lt_of_lt_of_le hq.2.1 hb.size, fun _ => ?_⟩, z3, z4, fun e => (by cases e)⟩
  rw [eval_put_same hs]
  intro e2
  injection e2 with e2
  injection e2 with e2
  injection e2 with e2
  have := hq.2.1
  omega
/-- The value is stored. -/
theorem EvM.sto (h : EvM w rb b g last l r1 n PR w0 W a b6 b7 true b10 true true false) (hrb : rb < w0.heap.size) {kk nn : Int} {aa : Option Addr} {ll cc vb : Nat} (h8 : a.eval (.tmp 8) = .pointer (some ⟨vb, 0, none⟩)) (h96 : a.eval (.tmp 96) = .agg #[.int .i64 kk, .int .i64 nn, .slice aa ll cc]) :
  EvM w rb b g last l r1 n PR w0 (((W.setCell ⟨vb, 0, none⟩ (.int .i64 kk)).setCell ⟨vb, 1, none⟩ (.int .i64 nn)).setCell ⟨vb, 2, none⟩ (.slice aa ll cc)) a b6 b7 true b10 true true true := by
 obtain ⟨vb2, y1, y2, y3⟩ := h.al rfl
 have e := y1.symm.trans h8
 injection e with e
 injection e with e
 injection e with e
 subst e
 have hx := y3 rfl
 have hb : Below w0.heap.size W (((W.setCell ⟨vb2, 0, none⟩ (.int .i64 kk)).setCell ⟨vb2, 1, none⟩ (.int .i64 nn)).setCell ⟨vb2, 2, none⟩ (.slice aa ll cc)) := (((Below.refl _ _).setCell (p := ⟨vb2, 0, none⟩) y2 _).setCell (p := ⟨vb2, 1, none⟩) y2 _).setCell (p := ⟨vb2, 2, none⟩) y2 _
 have hsz : (((W.setCell ⟨vb2, 0, none⟩ (.int .i64 kk)).setCell ⟨vb2, 1, none⟩ (.int .i64 nn)).setCell ⟨vb2, 2, none⟩ (.slice aa ll cc)).heap.size = W.heap.size := by simp [World.setCell]
 have hgr : w0.grownBy (((W.setCell ⟨vb2, 0, none⟩ (.int .i64 kk)).setCell ⟨vb2, 1, none⟩ (.int .i64 nn)).setCell ⟨vb2, 2, none⟩ (.slice aa ll cc)) (some rb) := ⟨hb.os.trans h.gr.os, hb.tape.trans h.gr.tape, hb.output.trans h.gr.output, Nat.le_trans h.gr.size hb.size, fun k hk hr => (hb.block k hk).trans (h.gr.block k hk hr)⟩
 refine ⟨hgr, h.rd.belowB hb hrb, h.d6, h.d7, h.d9, fun e => ?_, fun e => ⟨vb2, y1, y2, fun e => (by cases e)⟩⟩
 obtain ⟨k2, n2, a2, l2, c2, z1, z2, z3, z4, _⟩ := h.v e
 have z6 := (z4 rfl).symm.trans h96
 simp only [Value.agg.injEq, Array.mk.injEq, List.cons.injEq, Value.int.injEq, Value.slice.injEq, true_and, and_true] at z6
 obtain ⟨rfl, rfl, rfl, rfl, rfl⟩ := z6
 refine ⟨_, _, _, _, _, z1, (z2.keep fun q hq o => ?_).more fun q hq => ⟨hq.1, by rw [hsz]; exact hq.2.1, hq.2.2⟩, z3, z4, fun _ => ⟨vb2, y1, by simp [World.setCell, Array.getElem?_modify, hx]⟩⟩
 have hne : q ≠ vb2 := fun e => hq.2.2 rfl (by rw [e]; exact y1)
 exact World.cell?_of_block (w := W) ((set_farVf (q := ⟨vb2, 2, none⟩) hne).trans ((set_farVf (q := ⟨vb2, 1, none⟩) hne).trans (set_farVf (q := ⟨vb2, 0, none⟩) hne)))
end
def v15K : List Key := [(some 86, .move (.tmp 0), none),
  (some 87, .nilCheck (.tmp 86), none),
  (some 88, .fieldAddr 107 (.tmp 87) 0, none),
  (some 89, .move (.tmp 0), none),
  (some 90, .nilCheck (.tmp 89), none),
  (some 91, .fieldAddr 107 (.tmp 90) 0, none),
  (some 92, .call { callee := .value (.func 91), args := #[.tmp 91], argTypes := #[105] }, none),
  (some 93, .call { callee := .value (.func 89), args := #[.tmp 88, .tmp 92], argTypes := #[105, 111] }, none),
  (some 94, .convert 55 9 (.tmp 93), none),
  (some 95, .call { callee := .value (.func 78), args := #[.tmp 94], argTypes := #[9] }, none),
  (some 85, .move (.tmp 95), none),
  (some 96, .extract (.tmp 85) 0, none),
  (some 97, .extract (.tmp 85) 1, none),
  (some 98, .extract (.tmp 85) 2, none),
  (some 8, .alloc 27, none),
  (none, .store 27 (.tmp 8) (.tmp 96), none),
  (some 9, .assign (.tmp 97), none),
  (some 10, .assign (.tmp 98), none)]
def v15E : List (List Nat) := [[], [0], [1], [], [3], [4], [5], [2, 6, 6], [7], [8, 7], [9], [10], [10], [10], [], [14, 11, 9, 0, 1, 2, 3, 4, 5, 6, 7, 8, 9, 10, 11, 14], [12, 15, 0, 1, 2, 3, 4, 5, 6, 7, 8, 9, 10, 11, 12, 14, 15], [13, 16, 0, 1, 2, 3, 4, 5, 6, 7, 8, 9, 10, 11, 12, 13, 14, 15, 16]]
def v15T (rb n : Nat) (S : ByteArray) (PR : Except Nat VT) : List (Nat × Nat × Value) := [(0, 86, .pointer (some ⟨rb, 0, none⟩)), (1, 87, .pointer (some ⟨rb, 0, none⟩)), (2, 88, .pointer (some ⟨rb, 0, none⟩)), (3, 89, .pointer (some ⟨rb, 0, none⟩)), (4, 90, .pointer (some ⟨rb, 0, none⟩)), (5, 91, .pointer (some ⟨rb, 0, none⟩)), (6, 92, .int .u64 (n : Nat)), (8, 94, .string S), (12, 97, .int .i64 (pJ PR : Nat)), (13, 98, .int .i64 (pE PR : Nat)), (16, 9, .int .i64 (pJ PR : Nat)), (17, 10, .int .i64 (pE PR : Nat))]
structure V15I (a0 : Act) (w : World) (rb b g : Nat) (last : Int) (l r1 : List UInt8) (n : Nat) (PR : Except Nat VT) (w0 : World) (S : ByteArray) (D : Nat → Bool) (a : Act) (W : World) : Prop where
 fr : Upd a0 a 8 91
 kp : ∀ t : Nat, 11 ≤ t → t < 85 → a.eval (.tmp t) = a0.eval (.tmp t)
 sl : Slots (v15T rb n S PR) D a
 m : EvM w rb b g last l r1 n PR w0 W a (D 6) (D 7) (D 9) (D 10) (D 11) (D 14) (D 15)
 e10 : D 10 = true → D 9 = true
 e11 : D 11 = true → D 10 = true
 e15 : D 15 = true → D 14 = true ∧ D 11 = true
theorem V15I.h15 {a0 a : Act} {w : World} {rb b g : Nat} {last : Int} {l r1 : List UInt8} {n : Nat} {PR : Except Nat VT} {w0 : World} {S : ByteArray} {D : Nat → Bool} {W : World} (h : V15I a0 w rb b g last l r1 n PR w0 S D a W) : D 15 = true → D 9 = true := fun e => h.e10 (h.e11 (h.e15 e).2)
/-- An operation that only fills a slot. -/
theorem V15I.step {a0 a : Act} {w : World} {rb b g : Nat} {last : Int} {l r1 : List UInt8} {n : Nat} {PR : Except Nat VT} {w0 : World} {S : ByteArray} {D : Nat → Bool} {W : World} (h : V15I a0 w rb b g last l r1 n PR w0 S D a W) (i t : Nat) (v : Value) (hi : i ≠ 6 ∧ i ≠ 7 ∧ i ≠ 9 ∧ i ≠ 10 ∧ i ≠ 11 ∧ i ≠ 14 ∧ i ≠ 15) (h1 : (9 ≤ t ∧ t ≤ 10) ∨ (86 ≤ t ∧ t < 99)) (hn : t ≠ 93 ∧ t ≠ 95 ∧ t ≠ 96) (hs : t < a.tmps.size) (hT : ∀ y ∈ v15T rb n S PR, (y.1 = i → y.2.1 = t ∧ y.2.2 = v) ∧ (y.1 ≠ i → y.2.1 ≠ t)) :
  V15I a0 w rb b g last l r1 n PR w0 S (upd D i) (a.put (some t) v) W := by
 obtain ⟨i6, i7, i9, i10, i11, i14, i15⟩ := hi
 refine ⟨h.fr.put (by omega) (by omega) v, fun q h1' h2' => (eval_put_ne (show q ≠ t by omega) _).trans (h.kp q h1' h2'), h.sl.put i t v hs hT, ?_, ?_, ?_, ?_⟩
 ·rw [upd_ne D (Ne.symm i6), upd_ne D (Ne.symm i7), upd_ne D (Ne.symm i9), upd_ne D (Ne.symm i10), upd_ne D (Ne.symm i11), upd_ne D (Ne.symm i14), upd_ne D (Ne.symm i15)]
  exact h.m.put hn.1 hn.2.1 (by omega) hn.2.2 (by omega) v
 ·rw [upd_ne D (Ne.symm i10), upd_ne D (Ne.symm i9)]
  exact h.e10
 ·rw [upd_ne D (Ne.symm i11), upd_ne D (Ne.symm i10)]
  exact h.e11
 ·rw [upd_ne D (Ne.symm i15), upd_ne D (Ne.symm i14), upd_ne D (Ne.symm i11)]
  exact h.e15
theorem false_of {b : Bool} (h : b = true → False) : b = false := by
 cases b
 ·rfl
 ·exact (h rfl).elim
set_option maxRecDepth 100000 in
set_option maxHeartbeats 8000000 in
theorem v15_region {ops : Array Oper} {Q : Exit → Act → World → Prop} {a0 : Act} {id : Nat} {w : World} {rb b g : Nat} {last : Int} {l r1 : List UInt8} {n : Nat} {PR : Except Nat VT} {w0 : World} {S : ByteArray} (hsh : Shape ops v15K v15E) (hsz : 99 ≤ a0.tmps.size) (h0 : a0.eval (.tmp 0) = .pointer (some ⟨rb, 0, none⟩))
  (hrb : rb < w0.heap.size) (h5 : 5 ≤ rb) (hll : l.length ≤ 100000000) (hE : Env w) (hR : Rdr w rb b g last w0 l) (e0 : ∀ v r, numO 0 0 l = some (v, r) → v = n ∧ r = r1) (hS : S = ⟨(r1.take n).toArray⟩) (hPR : PR = parse S)
  (hQ : ∀ a W vb kk nn aa ll cc, Upd a0 a 8 91 → (∀ t : Nat, 11 ≤ t → t < 85 → a.eval (.tmp t) = a0.eval (.tmp t)) → a.eval (.tmp 8) = .pointer (some ⟨vb, 0, none⟩) → a.eval (.tmp 9) = .int .i64 (pJ PR : Nat) → a.eval (.tmp 10) = .int .i64 (pE PR : Nat) → w0.heap.size ≤ vb →
   numO 0 0 l = some (n, r1) → n ≤ r1.length → Rdr w rb b g last W (r1.drop n) → w0.grownBy W (some rb) → W.heap[vb]? = some (.cells #[.int .i64 kk, .int .i64 nn, .slice aa ll cc] 27 (0, 0)) → IsV (fun q => w0.heap.size ≤ q ∧ q < W.heap.size ∧ q ≠ vb) W (pT PR) (.agg #[.int .i64 kk, .int .i64 nn, .slice aa ll cc]) → Q .normal a W)
  (hF : ∀ a W l', a.defers = a0.defers → (numO 0 0 l = none ∨ (numO 0 0 l = some (n, r1) ∧ ¬ n ≤ r1.length)) → Rdr w rb b g last W l' → w0.grownBy W (some rb) → Q (.panic [{ v := .iface 119 (.agg #[.int .i64 230]), recovered := false }]) a W) : (Code.region id ops true).wp Tryz.prog Q a0 w0 := by
 refine wp_region_inv (by kernel_rfl) (hsh.edged (by decide)) (V15I a0 w rb b g last l r1 n PR w0 S) ?_ ?_ ?_
 ·refine ⟨Upd.refl _ _ _, fun _ _ _ => rfl, fun x _ h => by simp at h, ⟨⟨rfl, rfl, rfl, Nat.le_refl _, fun _ _ _ => rfl⟩, ?_, fun h => by simp at h, fun h => by simp at h, fun h => by simp at h, fun h => by simp at h, fun h => by simp at h⟩, fun h => by simp at h, fun h => by simp at h, fun h => by simp at h⟩
  exact hR.belowB (B := w0.heap.size) (W' := w0.drew) ⟨rfl, rfl, rfl, Nat.le_refl _, fun _ _ => rfl⟩ hrb
 ·rintro D a wr j o hI ho hD hdep
  have hk_ := hsh.key_at ho
  have hasz : a.tmps.size = a0.tmps.size := hI.fr.size
  have hj : j < 18 := by
   rcases Nat.lt_or_ge j 18 with hlt | hge
   ·exact hlt
   ·rw [List.getElem?_eq_none (by simpa [v15K] using hge)] at hk_; cases hk_
  have hdp := fun es => hsh.dep_at ho hdep (es := es)
  clear hdep
  have hcases : j = 0 ∨ j = 1 ∨ j = 2 ∨ j = 3 ∨ j = 4 ∨ j = 5 ∨ j = 6 ∨ j = 7 ∨ j = 8 ∨ j = 9 ∨ j = 10 ∨ j = 11 ∨ j = 12 ∨ j = 13 ∨ j = 14 ∨ j = 15 ∨ j = 16 ∨ j = 17 := by omega
  rcases hcases with rfl | rfl | rfl | rfl | rfl | rfl | rfl | rfl | rfl | rfl | rfl | rfl | rfl | rfl | rfl | rfl | rfl | rfl
  ·
   obtain ⟨odst, oop, oty, opos, oaft, ogd⟩ := o
   simp only [key, v15K, List.getElem?_cons_zero, Option.some.injEq, Prod.mk.injEq] at hk_
   obtain ⟨rfl, rfl, rfl⟩ := hk_
   exact wpOp_of ho rfl (op_move rfl ((hI.fr.eval (by omega)).trans h0) (hI.step 0 86 (.pointer (some ⟨rb, 0, none⟩)) (by decide) (by omega) (by decide) (by omega) (by simp [v15T])))
  ·
   obtain ⟨odst, oop, oty, opos, oaft, ogd⟩ := o
   simp only [key, v15K, List.getElem?_cons_zero, List.getElem?_cons_succ, Option.some.injEq, Prod.mk.injEq] at hk_
   obtain ⟨rfl, rfl, rfl⟩ := hk_
   have p0_ : D 0 = true := hdp _ rfl 0 (by decide)
   have s86 : a.eval (.tmp 86) = .pointer (some ⟨rb, 0, none⟩) := hI.sl (0, 86, .pointer (some ⟨rb, 0, none⟩)) (by simp [v15T]) p0_
   exact wpOp_of ho rfl (op_nilCheck rfl s86 (hI.step 1 87 (.pointer (some ⟨rb, 0, none⟩)) (by decide) (by omega) (by decide) (by omega) (by simp [v15T])))
  ·
   obtain ⟨odst, oop, oty, opos, oaft, ogd⟩ := o
   simp only [key, v15K, List.getElem?_cons_zero, List.getElem?_cons_succ, Option.some.injEq, Prod.mk.injEq] at hk_
   obtain ⟨rfl, rfl, rfl⟩ := hk_
   have p1_ : D 1 = true := hdp _ rfl 1 (by decide)
   have s87 : a.eval (.tmp 87) = .pointer (some ⟨rb, 0, none⟩) := hI.sl (1, 87, .pointer (some ⟨rb, 0, none⟩)) (by simp [v15T]) p1_
   refine wpOp_of ho rfl (op_run (n := .value (.pointer (some ⟨rb, 0, none⟩))) (w' := wr) ?_ (hI.step 2 88 (.pointer (some ⟨rb, 0, none⟩)) (by decide) (by omega) (by decide) (by omega) (by simp [v15T])))
   generalize a.eval = ev at *
   unfold execOp
   simp [go_sem, s87]
  ·
   obtain ⟨odst, oop, oty, opos, oaft, ogd⟩ := o
   simp only [key, v15K, List.getElem?_cons_zero, List.getElem?_cons_succ, Option.some.injEq, Prod.mk.injEq] at hk_
   obtain ⟨rfl, rfl, rfl⟩ := hk_
   exact wpOp_of ho rfl (op_move rfl ((hI.fr.eval (by omega)).trans h0) (hI.step 3 89 (.pointer (some ⟨rb, 0, none⟩)) (by decide) (by omega) (by decide) (by omega) (by simp [v15T])))
  ·
   obtain ⟨odst, oop, oty, opos, oaft, ogd⟩ := o
   simp only [key, v15K, List.getElem?_cons_zero, List.getElem?_cons_succ, Option.some.injEq, Prod.mk.injEq] at hk_
   obtain ⟨rfl, rfl, rfl⟩ := hk_
   have p3_ : D 3 = true := hdp _ rfl 3 (by decide)
   have s89 : a.eval (.tmp 89) = .pointer (some ⟨rb, 0, none⟩) := hI.sl (3, 89, .pointer (some ⟨rb, 0, none⟩)) (by simp [v15T]) p3_
   exact wpOp_of ho rfl (op_nilCheck rfl s89 (hI.step 4 90 (.pointer (some ⟨rb, 0, none⟩)) (by decide) (by omega) (by decide) (by omega) (by simp [v15T])))
  ·
   obtain ⟨odst, oop, oty, opos, oaft, ogd⟩ := o
   simp only [key, v15K, List.getElem?_cons_zero, List.getElem?_cons_succ, Option.some.injEq, Prod.mk.injEq] at hk_
   obtain ⟨rfl, rfl, rfl⟩ := hk_
   have p4_ : D 4 = true := hdp _ rfl 4 (by decide)
   have s90 : a.eval (.tmp 90) = .pointer (some ⟨rb, 0, none⟩) := hI.sl (4, 90, .pointer (some ⟨rb, 0, none⟩)) (by simp [v15T]) p4_
   refine wpOp_of ho rfl (op_run (n := .value (.pointer (some ⟨rb, 0, none⟩))) (w' := wr) ?_ (hI.step 5 91 (.pointer (some ⟨rb, 0, none⟩)) (by decide) (by omega) (by decide) (by omega) (by simp [v15T])))
   generalize a.eval = ev at *
   unfold execOp
   simp [go_sem, s90]
  ·
   obtain ⟨odst, oop, oty, opos, oaft, ogd⟩ := o
   simp only [key, v15K, List.getElem?_cons_zero, List.getElem?_cons_succ, Option.some.injEq, Prod.mk.injEq] at hk_
   obtain ⟨rfl, rfl, rfl⟩ := hk_
   have p5_ : D 5 = true := hdp _ rfl 5 (by decide)
   have s91 : a.eval (.tmp 91) = .pointer (some ⟨rb, 0, none⟩) := hI.sl (5, 91, .pointer (some ⟨rb, 0, none⟩)) (by simp [v15T]) p5_
   have h7 : D 7 = false := false_of fun e => by have := (hI.m.d7 e).1; rw [hD] at this; cases this
   have hm := hI.m
   have hRd := hm.rd
   rw [hD, h7] at hRd
   refine wpOp_of ho rfl (op_run (n := .enter 91 #[.pointer (some ⟨rb, 0, none⟩)]) (w' := wr) ?_ ?_)
   ·have e1 : a.eval (.func 91) = .func (.func 91) #[] #[] := rfl
    generalize a.eval = ev at *
    unfold execOp
    simp [go_sem, s91, e1]
   ·refine (onumber_any w rb b g last l hll wr hRd).mono ?_
    rcases hn : numO 0 0 l with _ | ⟨v, r⟩
    ·rintro e w1 ⟨⟨rfl, l', hl'⟩, hg⟩
     exact hF a w1 l' hI.fr.defers (.inl hn) hl' (hm.gr.trans hg)
    ·rintro e w1 ⟨⟨rfl, hl'⟩, hg⟩
     obtain ⟨rfl, rfl⟩ := e0 v r hn
     refine ⟨hI.fr.put (by omega) (by omega) _, fun q h1' h2' => (eval_put_ne (show q ≠ 92 by omega) _).trans (hI.kp q h1' h2'), hI.sl.put 6 92 _ (by omega) (by simp [v15T]), ?_, ?_, ?_, ?_⟩
     ·rw [hD] at hm
      rw [upd_same, upd_ne D (show 7 ≠ 6 by decide), upd_ne D (show 9 ≠ 6 by decide), upd_ne D (show 10 ≠ 6 by decide), upd_ne D (show 11 ≠ 6 by decide), upd_ne D (show 14 ≠ 6 by decide), upd_ne D (show 15 ≠ 6 by decide)]
      exact hm.num hrb hn hl' hg _ hI.h15
     ·rw [upd_ne D (by decide), upd_ne D (by decide)]
      exact hI.e10
     ·rw [upd_ne D (by decide), upd_ne D (by decide)]
      exact hI.e11
     ·rw [upd_ne D (by decide), upd_ne D (by decide), upd_ne D (by decide)]
      exact hI.e15
  ·
   obtain ⟨odst, oop, oty, opos, oaft, ogd⟩ := o
   simp only [key, v15K, List.getElem?_cons_zero, List.getElem?_cons_succ, Option.some.injEq, Prod.mk.injEq] at hk_
   obtain ⟨rfl, rfl, rfl⟩ := hk_
   have p2_ : D 2 = true := hdp _ rfl 2 (by decide)
   have s88 : a.eval (.tmp 88) = .pointer (some ⟨rb, 0, none⟩) := hI.sl (2, 88, .pointer (some ⟨rb, 0, none⟩)) (by simp [v15T]) p2_
   have p6_ : D 6 = true := hdp _ rfl 6 (by decide)
   have s92 : a.eval (.tmp 92) = .int .u64 (n : Nat) := hI.sl (6, 92, .int .u64 (n : Nat)) (by simp [v15T]) p6_
   have hm := hI.m
   have hRd := hm.rd
   rw [hD, p6_] at hRd
   have hn := hm.d6 p6_
   have hr1 : r1.length ≤ 100000000 := by
    obtain ⟨e, _⟩ := num_iff.1 hn
    have := congrArg List.length e
    simp at this
    omega
   have hnb := (num_iff.1 hn).2
   refine wpOp_of ho rfl (op_run (n := .enter 89 #[.pointer (some ⟨rb, 0, none⟩), .int .u64 (n : Nat)]) (w' := wr) ?_ ?_)
   ·have e1 : a.eval (.func 89) = .func (.func 89) #[] #[] := rfl
    generalize a.eval = ev at *
    unfold execOp
    simp [go_sem, s88, s92, e1]
   ·refine (cutE_any w rb b g n last r1 hr1 hnb wr hRd).mono ?_
    intro e w1 he
    unfold CutE at he
    by_cases hle : n ≤ r1.length
    ·rw [if_pos hle] at he
     obtain ⟨⟨o1, rfl, hc⟩, hl', hg⟩ := he
     refine ⟨hI.fr.put (by omega) (by omega) _, fun q h1' h2' => (eval_put_ne (show q ≠ 93 by omega) _).trans (hI.kp q h1' h2'), hI.sl.put 7 93 _ (by omega) (by simp [v15T]), ?_, ?_, ?_, ?_⟩
     ·rw [hD, p6_] at hm
      rw [upd_same, upd_ne D (show 6 ≠ 7 by decide), upd_ne D (show 9 ≠ 7 by decide), upd_ne D (show 10 ≠ 7 by decide), upd_ne D (show 11 ≠ 7 by decide), upd_ne D (show 14 ≠ 7 by decide), upd_ne D (show 15 ≠ 7 by decide), p6_]
      exact hm.cut hrb (by omega) hle hl' hg o1 hc hI.h15
     ·rw [upd_ne D (by decide), upd_ne D (by decide)]
      exact hI.e10
     ·rw [upd_ne D (by decide), upd_ne D (by decide)]
      exact hI.e11
     ·rw [upd_ne D (by decide), upd_ne D (by decide), upd_ne D (by decide)]
      exact hI.e15
    ·rw [if_neg hle] at he
     obtain ⟨rfl, rfl⟩ := he
     exact hF a _ r1 hI.fr.defers (.inr ⟨hn, hle⟩) hRd hm.gr
  ·
   obtain ⟨odst, oop, oty, opos, oaft, ogd⟩ := o
   simp only [key, v15K, List.getElem?_cons_zero, List.getElem?_cons_succ, Option.some.injEq, Prod.mk.injEq] at hk_
   obtain ⟨rfl, rfl, rfl⟩ := hk_
   have p7_ : D 7 = true := hdp _ rfl 7 (by decide)
   obtain ⟨_, hle, o1, z1, hc⟩ := hI.m.d7 p7_
   have hbel := hI.m.rd.bel
   have hne := hI.m.rd.ne
   have hrun : (convert 55 9 (.slice (some ⟨g, o1, none⟩) n n)).run Tryz.prog wr = .ok (.string S) wr := by
    have h1 := run_convert_bytes_arg wr 55 5 Tryz.underlying55 Tryz.underlying5 g o1 n n ((r1.take n).map fun c => ((c.toNat : Nat) : Int)) (by simp; omega) (fun i hi => by
     have h2 : r1[i]? = some (r1[i]'(by omega)) := List.getElem?_eq_getElem _
     have h3 := (hbel.cell (p := ⟨g, o1 + i, none⟩) hne).trans (hc i _ h2)
     rw [h3]
     simp [hi, h2]) 9 Tryz.underlying9
    rw [h1]
    congr 2
    rw [hS]
    unfold strOfNums
    congr 2
    simp [List.map_map, Function.comp_def]
   refine wpOp_of ho rfl (op_run (n := .value (.string S)) (w' := wr) ?_ (hI.step 8 94 (.string S) (by decide) (by omega) (by decide) (by omega) (by simp [v15T])))
   generalize a.eval = ev at *
   unfold execOp
   simp [go_sem, z1, hrun]
  ·
   obtain ⟨odst, oop, oty, opos, oaft, ogd⟩ := o
   simp only [key, v15K, List.getElem?_cons_zero, List.getElem?_cons_succ, Option.some.injEq, Prod.mk.injEq] at hk_
   obtain ⟨rfl, rfl, rfl⟩ := hk_
   have p8_ : D 8 = true := hdp _ rfl 8 (by decide)
   have s94 : a.eval (.tmp 94) = .string S := hI.sl (8, 94, .string S) (by simp [v15T]) p8_
   have p7_ : D 7 = true := hdp _ rfl 7 (by decide)
   have hm := hI.m
   have h10 : D 10 = false := false_of fun e => by have := hI.e10 e; rw [hD] at this; cases this
   have h11 : D 11 = false := false_of fun e => by have := hI.e11 e; rw [h10] at this; cases this
   have h15 : D 15 = false := false_of fun e => by have := (hI.e15 e).2; rw [h11] at this; cases this
   have p6_ := (hm.d7 p7_).1
   have hle := (hm.d7 p7_).2.1
   have hr1 : r1.length ≤ 100000000 := by
    obtain ⟨e, _⟩ := num_iff.1 (hm.d6 p6_)
    have := congrArg List.length e
    simp at this
    omega
   have hSz : S.size ≤ maxLen := by
    rw [hS]
    simp [ByteArray.size, maxLen]
    omega
   refine wpOp_of ho rfl (op_run (n := .enter 78 #[.string S]) (w' := wr) ?_ ?_)
   ·have e1 : a.eval (.func 78) = .func (.func 78) #[] #[] := rfl
    generalize a.eval = ev at *
    unfold execOp
    simp [go_sem, s94, e1]
   ·refine (Parse_any S hSz wr (hE.below hm.rd.bel h5).words).mono ?_
    intro e w1 he
    rw [← hPR] at he
    obtain ⟨kk, nn, aa, ll, cc, rfl, hv, hb⟩ := pEnds he
    refine ⟨hI.fr.put (by omega) (by omega) _, fun q h1' h2' => (eval_put_ne (show q ≠ 95 by omega) _).trans (hI.kp q h1' h2'), hI.sl.put 9 95 _ (by omega) (by simp [v15T]), ?_, fun _ => upd_same _ _, ?_, ?_⟩
    ·rw [hD, p6_, p7_] at hm
     rw [upd_same, upd_ne D (show 6 ≠ 9 by decide), upd_ne D (show 7 ≠ 9 by decide), upd_ne D (show 10 ≠ 9 by decide), upd_ne D (show 11 ≠ 9 by decide), upd_ne D (show 14 ≠ 9 by decide), upd_ne D (show 15 ≠ 9 by decide), p6_, p7_]
     exact hm.prs (by omega) hb hv h10 h11 h15
    ·rw [upd_ne D (by decide), upd_ne D (by decide)]
     exact hI.e11
    ·rw [upd_ne D (by decide), upd_ne D (by decide), upd_ne D (by decide)]
     exact hI.e15
  ·
   obtain ⟨odst, oop, oty, opos, oaft, ogd⟩ := o
   simp only [key, v15K, List.getElem?_cons_zero, List.getElem?_cons_succ, Option.some.injEq, Prod.mk.injEq] at hk_
   obtain ⟨rfl, rfl, rfl⟩ := hk_
   have p9_ : D 9 = true := hdp _ rfl 9 (by decide)
   have hm := hI.m
   refine wpOp_of ho rfl (op_move rfl rfl ?_)
   refine ⟨hI.fr.put (by omega) (by omega) _, fun q h1' h2' => (eval_put_ne (show q ≠ 85 by omega) _).trans (hI.kp q h1' h2'), hI.sl.put 10 85 _ (by omega) (by simp [v15T]), ?_, fun _ => by rw [upd_ne D (by decide)]; exact p9_, fun _ => upd_same _ _, ?_⟩
   ·rw [hD, p9_] at hm
    rw [upd_same, upd_ne D (show 6 ≠ 10 by decide), upd_ne D (show 7 ≠ 10 by decide), upd_ne D (show 9 ≠ 10 by decide), upd_ne D (show 11 ≠ 10 by decide), upd_ne D (show 14 ≠ 10 by decide), upd_ne D (show 15 ≠ 10 by decide), p9_]
    exact hm.mov (by omega)
   ·rw [upd_ne D (by decide), upd_ne D (by decide), upd_ne D (by decide)]
    exact hI.e15
  ·
   obtain ⟨odst, oop, oty, opos, oaft, ogd⟩ := o
   simp only [key, v15K, List.getElem?_cons_zero, List.getElem?_cons_succ, Option.some.injEq, Prod.mk.injEq] at hk_
   obtain ⟨rfl, rfl, rfl⟩ := hk_
   have p10_ : D 10 = true := hdp _ rfl 10 (by decide)
   have hm := hI.m
   have p9_ := hI.e10 p10_
   obtain ⟨kk, nn, aa, ll, cc, _, _, z3, _⟩ := hm.v p9_
   have z85 := z3 p10_
   refine wpOp_of ho rfl (op_run (n := .value (.agg #[.int .i64 kk, .int .i64 nn, .slice aa ll cc])) (w' := wr) ?_ ?_)
   ·generalize a.eval = ev at *
    unfold execOp
    simp [go_sem, z85]
   ·refine ⟨hI.fr.put (by omega) (by omega) _, fun q h1' h2' => (eval_put_ne (show q ≠ 96 by omega) _).trans (hI.kp q h1' h2'), hI.sl.put 11 96 _ (by omega) (by simp [v15T]), ?_, ?_, fun _ => by rw [upd_ne D (by decide)]; exact p10_, fun e => ?_⟩
    ·rw [hD, p9_, p10_] at hm
     rw [upd_same, upd_ne D (show 6 ≠ 11 by decide), upd_ne D (show 7 ≠ 11 by decide), upd_ne D (show 9 ≠ 11 by decide), upd_ne D (show 10 ≠ 11 by decide), upd_ne D (show 14 ≠ 11 by decide), upd_ne D (show 15 ≠ 11 by decide), p9_, p10_]
     exact hm.ext (by omega) z85
    ·rw [upd_ne D (by decide), upd_ne D (by decide)]
     exact hI.e10
    ·rw [upd_ne D (by decide)] at e
     rw [upd_ne D (by decide)]
     exact ⟨(hI.e15 e).1, upd_same _ _⟩
  ·
   obtain ⟨odst, oop, oty, opos, oaft, ogd⟩ := o
   simp only [key, v15K, List.getElem?_cons_zero, List.getElem?_cons_succ, Option.some.injEq, Prod.mk.injEq] at hk_
   obtain ⟨rfl, rfl, rfl⟩ := hk_
   have p10_ : D 10 = true := hdp _ rfl 10 (by decide)
   have p9_ := hI.e10 p10_
   obtain ⟨kk, nn, aa, ll, cc, _, _, z3, _⟩ := hI.m.v p9_
   have z85 := z3 p10_
   refine wpOp_of ho rfl (op_run (n := .value (.int .i64 (pJ PR : Nat))) (w' := wr) ?_ (hI.step 12 97 (.int .i64 (pJ PR : Nat)) (by decide) (by omega) (by decide) (by omega) (by simp [v15T])))
   generalize a.eval = ev at *
   unfold execOp
   simp [go_sem, z85]
  ·
   obtain ⟨odst, oop, oty, opos, oaft, ogd⟩ := o
   simp only [key, v15K, List.getElem?_cons_zero, List.getElem?_cons_succ, Option.some.injEq, Prod.mk.injEq] at hk_
   obtain ⟨rfl, rfl, rfl⟩ := hk_
   have p10_ : D 10 = true := hdp _ rfl 10 (by decide)
   have p9_ := hI.e10 p10_
   obtain ⟨kk, nn, aa, ll, cc, _, _, z3, _⟩ := hI.m.v p9_
   have z85 := z3 p10_
   refine wpOp_of ho rfl (op_run (n := .value (.int .i64 (pE PR : Nat))) (w' := wr) ?_ (hI.step 13 98 (.int .i64 (pE PR : Nat)) (by decide) (by omega) (by decide) (by omega) (by simp [v15T])))
   generalize a.eval = ev at *
   unfold execOp
   simp [go_sem, z85]
  ·
   obtain ⟨odst, oop, oty, opos, oaft, ogd⟩ := o
   simp only [key, v15K, List.getElem?_cons_zero, List.getElem?_cons_succ, Option.some.injEq, Prod.mk.injEq] at hk_
   obtain ⟨rfl, rfl, rfl⟩ := hk_
   have hm := hI.m
   have h15 : D 15 = false := false_of fun e => by have := (hI.e15 e).1; rw [hD] at this; cases this
   refine wpOp_of ho rfl (op_run (n := .value (.pointer (some ⟨wr.heap.size, 0, none⟩))) (w' := wr.alloc (.cells #[.int .i64 0, .int .i64 0, .slice none 0 0] 27)) ?_ ?_)
   ·generalize a.eval = ev at *
    unfold execOp
    simp [go_sem]
   ·refine ⟨hI.fr.put (by omega) (by omega) _, fun q h1' h2' => (eval_put_ne (show q ≠ 8 by omega) _).trans (hI.kp q h1' h2'), hI.sl.put 14 8 _ (by omega) (by simp [v15T]), ?_, ?_, ?_, fun e => ?_⟩
    ·rw [hD, h15] at hm
     rw [upd_same, upd_ne D (show 6 ≠ 14 by decide), upd_ne D (show 7 ≠ 14 by decide), upd_ne D (show 9 ≠ 14 by decide), upd_ne D (show 10 ≠ 14 by decide), upd_ne D (show 11 ≠ 14 by decide), upd_ne D (show 15 ≠ 14 by decide), h15]
     exact hm.box (by omega)
    ·rw [upd_ne D (by decide), upd_ne D (by decide)]
     exact hI.e10
    ·rw [upd_ne D (by decide), upd_ne D (by decide)]
     exact hI.e11
    ·rw [upd_ne D (by decide), h15] at e
     cases e
  ·
   obtain ⟨odst, oop, oty, opos, oaft, ogd⟩ := o
   simp only [key, v15K, List.getElem?_cons_zero, List.getElem?_cons_succ, Option.some.injEq, Prod.mk.injEq] at hk_
   obtain ⟨rfl, rfl, rfl⟩ := hk_
   have p14_ : D 14 = true := hdp _ rfl 14 (by decide)
   have p11_ : D 11 = true := hdp _ rfl 11 (by decide)
   have p9_ : D 9 = true := hdp _ rfl 9 (by decide)
   have hm := hI.m
   obtain ⟨kk, nn, aa, ll, cc, _, _, _, z4, _⟩ := hm.v p9_
   have z96 := z4 p11_
   obtain ⟨vb, y1, y2, y3⟩ := hm.al p14_
   have hx := y3 hD
   have c0 : wr.cell? ⟨vb, 0, none⟩ = some (.int .i64 0) := by simp [World.cell?, hx]
   have c1 : wr.cell? ⟨vb, 1, none⟩ = some (.int .i64 0) := by simp [World.cell?, hx]
   have c2 : wr.cell? ⟨vb, 2, none⟩ = some (.slice none 0 0) := by simp [World.cell?, hx]
   have hf : ∀ i, wr.frozen? ⟨vb, i, none⟩ = false := fun i => by simp [World.frozen?, hx]
   refine wpOp_of ho rfl (op_run (n := .skip) (w' := ((wr.setCell ⟨vb, 0, none⟩ (.int .i64 kk)).setCell ⟨vb, 1, none⟩ (.int .i64 nn)).setCell ⟨vb, 2, none⟩ (.slice aa ll cc)) ?_ ?_)
   ·generalize a.eval = ev at *
    unfold execOp
    simp [go_sem, y1, z96, c0, c1, c2, hf]
   ·refine ⟨hI.fr, hI.kp, hI.sl.done 15 (by simp [v15T]), ?_, ?_, ?_, fun _ => by rw [upd_ne D (by decide), upd_ne D (by decide)]; exact ⟨p14_, p11_⟩⟩
    ·rw [hD, p9_, p11_, p14_] at hm
     rw [upd_same, upd_ne D (show 6 ≠ 15 by decide), upd_ne D (show 7 ≠ 15 by decide), upd_ne D (show 9 ≠ 15 by decide), upd_ne D (show 10 ≠ 15 by decide), upd_ne D (show 11 ≠ 15 by decide), upd_ne D (show 14 ≠ 15 by decide), p9_, p11_, p14_]
     exact hm.sto hrb y1 z96
    ·rw [upd_ne D (by decide), upd_ne D (by decide)]
     exact hI.e10
    ·rw [upd_ne D (by decide), upd_ne D (by decide)]
     exact hI.e11
  ·
   obtain ⟨odst, oop, oty, opos, oaft, ogd⟩ := o
   simp only [key, v15K, List.getElem?_cons_zero, List.getElem?_cons_succ, Option.some.injEq, Prod.mk.injEq] at hk_
   obtain ⟨rfl, rfl, rfl⟩ := hk_
   have p12_ : D 12 = true := hdp _ rfl 12 (by decide)
   have s97 : a.eval (.tmp 97) = .int .i64 (pJ PR : Nat) := hI.sl (12, 97, .int .i64 (pJ PR : Nat)) (by simp [v15T]) p12_
   refine wpOp_of ho rfl (op_run (n := .value (.int .i64 (pJ PR : Nat))) (w' := wr) ?_ (hI.step 16 9 (.int .i64 (pJ PR : Nat)) (by decide) (by omega) (by decide) (by omega) (by simp [v15T])))
   generalize a.eval = ev at *
   unfold execOp
   simp [go_sem, s97]
  ·
   obtain ⟨odst, oop, oty, opos, oaft, ogd⟩ := o
   simp only [key, v15K, List.getElem?_cons_zero, List.getElem?_cons_succ, Option.some.injEq, Prod.mk.injEq] at hk_
   obtain ⟨rfl, rfl, rfl⟩ := hk_
   have p13_ : D 13 = true := hdp _ rfl 13 (by decide)
   have s98 : a.eval (.tmp 98) = .int .i64 (pE PR : Nat) := hI.sl (13, 98, .int .i64 (pE PR : Nat)) (by simp [v15T]) p13_
   refine wpOp_of ho rfl (op_run (n := .value (.int .i64 (pE PR : Nat))) (w' := wr) ?_ (hI.step 17 10 (.int .i64 (pE PR : Nat)) (by decide) (by omega) (by decide) (by omega) (by simp [v15T])))
   generalize a.eval = ev at *
   unfold execOp
   simp [go_sem, s98]
 ·intro D a W hI hall
  have al : ∀ i, i < 18 → D i = true := fun i hi => hall i (by rw [hsh.size]; simpa [v15K] using hi)
  have hm := hI.m
  rw [al 6 (by decide), al 7 (by decide), al 9 (by decide), al 10 (by decide), al 11 (by decide), al 14 (by decide), al 15 (by decide)] at hm
  obtain ⟨kk, nn, aa, ll, cc, _, z2, _, _, z5⟩ := hm.v rfl
  obtain ⟨vb, y1, y2, _⟩ := hm.al rfl
  obtain ⟨vb2, x1, x2⟩ := z5 rfl
  have e := y1.symm.trans x1
  injection e with e
  injection e with e
  injection e with e
  subst e
  exact hQ a W vb kk nn aa ll cc hI.fr hI.kp y1 (hI.sl (16, 9, .int .i64 (pJ PR : Nat)) (by simp [v15T]) (al 16 (by decide))) (hI.sl (17, 10, .int .i64 (pE PR : Nat)) (by simp [v15T]) (al 17 (by decide))) y2 (hm.d6 rfl) (hm.d7 rfl).2.1 hm.rd hm.gr x2 (z2.more fun q hq => ⟨hq.1, hq.2.1, fun e => hq.2.2 rfl (by rw [e]; exact y1)⟩)
end Go.Proofs.YtjldbbcdhdfliaaGreatDoor
