/-
 Walks over package trace: valid.
-/
import Derived.Test.YtjldbbcdhdfliaaGreatDoorTbTc
import Derived.Lib.QuietBelow
import Derived.Deep.Cut
import Derived.Deep.CutBlock
import Derived.Deep.CutRange
import Derived.Deep.DeepFit
import Derived.LoopN
import Derived.Laws.EntriesVeiled
namespace Go.Proofs.YtjldbbcdhdfliaaGreatDoor
open Go.RowKit Go.Sort

structure RngE (x : Ev) : Prop where
 k : Rng x.k
 st : Rng x.st
 th : Rng x.th
 sy : Rng x.sy
 br : Rng x.br
 pa : Rng x.pa
 n : Rng x.n
/-- An event's cells. -/
def evC (x : Ev) (kk nn : Int) (a : Option Addr) (len cap : Nat) : Array Value := #[.int .i64 x.k, .int .i64 x.st, .int .i64 x.th, .int .i64 x.sy, .int .i64 x.br, .int .i64 x.pa, .int .i64 x.n, .int .i64 kk, .int .i64 nn, .slice a len cap]
/-- An event's value. -/
def IsE (ok : Nat → Prop) (w : World) (x : Ev) (v : Value) : Prop := ∃ (kk nn : Int) (a : Option Addr) (len cap : Nat), v = .agg (evC x kk nn a len cap) ∧ IsV ok w x.v (.agg #[.int .i64 kk, .int .i64 nn, .slice a len cap]) ∧ RngE x
theorem IsE.later {w w' : World} {x : Ev} {v : Value} (h : IsE (· < w.heap.size) w x v) (hb : Below w.heap.size w w') : IsE (· < w'.heap.size) w' x v := by
 obtain ⟨kk, nn, a, len, cap, h1, h2, h3⟩ := h
 exact ⟨kk, nn, a, len, cap, h1, h2.later hb, h3⟩
theorem IsE.more {ok ok' : Nat → Prop} {w : World} {x : Ev} {v : Value} (h : IsE ok w x v) (ho : ∀ g, ok g → ok' g) : IsE ok' w x v := by
 obtain ⟨kk, nn, a, len, cap, h1, h2, h3⟩ := h
 exact ⟨kk, nn, a, len, cap, h1, h2.more ho, h3⟩
def lsB (k : Int) (i : Nat) : Bool := decide (i ∈ rowE k)
def Ev.fld (x : Ev) (i : Nat) : Int := match i with
 | 0 => x.sy
 | 1 => x.br
 | 2 => x.pa
 | _ => x.n
def leastE (i : Nat) : Int := if i = 2 then -1 else 0
def fldOk (x : Ev) (i : Nat) : Bool := if lsB x.k i then decide (leastE i ≤ x.fld i) else decide (x.fld i = 0)
/-- May an event be? -/
def rightE (x : Ev) : Bool := hasE x.k && decide (0 ≤ x.st) && decide (0 ≤ x.th) && fldOk x 0 && fldOk x 1 && fldOk x 2 && fldOk x 3 && vOk (lsB x.k 4) x.v
theorem row_lt (k : Int) : ∀ i ∈ rowE k, i < 5 := by
 intro i hi
 unfold rowE at hi
 repeat (split at hi; · simp at hi; omega)
 simp at hi
theorem row_len (k : Int) : (rowE k).length ≤ 5 := by
 unfold rowE
 repeat (split; · simp)
 simp
theorem word_ne {k : Int} (h : hasE k = true) : (wordE k).toList.isEmpty = false ∧ ¬ (wordE k).toList = [] := by
 rw [ByteArray.toList_eq]
 rcases has_cases h with rfl | rfl | rfl | rfl | rfl | rfl | rfl | rfl | rfl <;> exact ⟨by decide, by decide⟩
theorem MapE.lookN {w : World} {mb : Nat} (h : MapE w mb) {k : Int} (hk : Rng k) (n : Nat) : (Instr.lookup 127 (.map (some mb)) (.int .i64 k) false).run Tryz.prog (w.drewN n) = .ok (.string (wordE k)) (w.drewN n) :=
 MapE.look (w := w.drewN n) (h.block rfl) hk
theorem below_drewN {B : Nat} {w w' : World} (h : Below B w w') (n : Nat) : Below B w (w'.drewN n) := h.trans ⟨rfl, rfl, rfl, Nat.le_refl _, fun _ _ => rfl⟩
/-- The five marks. -/
def Mk5 (w : World) (g : Nat) (m : Nat → Bool) : Prop := w.heap[g]? = some (.cells #[.bool (m 0), .bool (m 1), .bool (m 2), .bool (m 3), .bool (m 4)] 85 (0, 0))
def mkL (l : List Nat) (j : Nat) : Nat → Bool := fun i => decide (i ∈ l.take j)
theorem mkL_succ {l : List Nat} {j : Nat} (hj : j < l.length) (i : Nat) : mkL l (j + 1) i = (decide (i = l[j]) || mkL l j i) := by
 unfold mkL
 rw [List.take_add_one, List.getElem?_eq_getElem hj]
 simp only [Option.toList_some, List.mem_append, List.mem_singleton]
 by_cases h1 : i = l[j] <;> by_cases h2 : i ∈ l.take j <;> simp [h1, h2]
theorem Mk5.lt {w : World} {g : Nat} {m : Nat → Bool} (h : Mk5 w g m) : g < w.heap.size := (Array.getElem?_eq_some_iff.1 h).1
theorem Mk5.at_ {w : World} {g : Nat} {m : Nat → Bool} (h : Mk5 w g m) {i : Nat} (hi : i < 5) : w.cell? ⟨g, i, none⟩ = some (.bool (m i)) := by
 unfold Mk5 at h
 match i, hi with
 | 0, _ | 1, _ | 2, _ | 3, _ | 4, _ => simp [World.cell?, h]
theorem Mk5.fz {w : World} {g : Nat} {m : Nat → Bool} (h : Mk5 w g m) (o : Nat) : w.frozen? ⟨g, o, none⟩ = false := by unfold Mk5 at h; simp [World.frozen?, h]
theorem Mk5.set {w : World} {g : Nat} {m : Nat → Bool} (h : Mk5 w g m) {i : Nat} (hi : i < 5) {m' : Nat → Bool} (hm : ∀ k, k < 5 → m' k = (decide (k = i) || m k)) : Mk5 (w.setCell ⟨g, i, none⟩ (.bool true)) g m' := by
 unfold Mk5 at h ⊢
 rw [hm 0 (by omega), hm 1 (by omega), hm 2 (by omega), hm 3 (by omega), hm 4 (by omega)]
 have hs : (w.setCell ⟨g, i, none⟩ (.bool true)).heap[g]? = some (.cells (#[.bool (m 0), .bool (m 1), .bool (m 2), .bool (m 3), .bool (m 4)].setIfInBounds i (.bool true)) 85 (0, 0)) := by
  simp [World.setCell, Array.getElem?_modify, h]
 rw [hs]
 match i, hi with
 | 0, _ | 1, _ | 2, _ | 3, _ | 4, _ => simp
/-- What stands in valid. -/
structure VS (b mb : Nat) (x : Ev) (kk nn : Int) (a : Option Addr) (len cap : Nat) (w W : World) : Prop where
 tt : TabT W b mb
 ee : W.heap[w.heap.size]? = some (.cells #[.int .i64 x.k, .int .i64 x.st, .int .i64 x.th, .int .i64 x.sy, .int .i64 x.br, .int .i64 x.pa, .int .i64 x.n, .int .i64 kk, .int .i64 nn, .slice a len cap] 29 (0, 0))
 vv : IsV (· < W.heap.size) W x.v (.agg #[.int .i64 kk, .int .i64 nn, .slice a len cap])
 bb : Below w.heap.size w W
 lb : b < w.heap.size
 lm : mb < w.heap.size
section
variable {b mb : Nat} {x : Ev} {kk nn : Int} {a : Option Addr} {len cap : Nat} {w W W' : World}
theorem VS.below (h : VS b mb x kk nn a len cap w W) (hb : Below W.heap.size W W') : VS b mb x kk nn a len cap w W' :=
 ⟨h.tt.belowAll hb, (hb.block _ (lt_of_heap h.ee)).trans h.ee, h.vv.later hb, h.bb.trans (hb.mono h.bb.size), h.lb, h.lm⟩
theorem VS.lt (h : VS b mb x kk nn a len cap w W) : w.heap.size < W.heap.size := lt_of_heap h.ee
theorem VS.set {lo : Nat} (h : VS b mb x kk nn a len cap w W) (hv : IsV (· < lo) W x.v (.agg #[.int .i64 kk, .int .i64 nn, .slice a len cap])) {g : Nat} (hg : lo ≤ g) (h1 : w.heap.size < g) (h2 : lo ≤ W.heap.size) (i : Nat) (u : Value) : VS b mb x kk nn a len cap w (W.setCell ⟨g, i, none⟩ u) ∧ IsV (· < lo) (W.setCell ⟨g, i, none⟩ u) x.v (.agg #[.int .i64 kk, .int .i64 nn, .slice a len cap]) := by
 have hlb := h.lb
 have hlm := h.lm
 have hb : Below (w.heap.size + 1) W (W.setCell ⟨g, i, none⟩ u) := (Below.refl _ _).setCell (p := ⟨g, i, none⟩) (by simp; omega) _
 have hv2 : IsV (· < lo) (W.setCell ⟨g, i, none⟩ u) x.v (.agg #[.int .i64 kk, .int .i64 nn, .slice a len cap]) := hv.below ((Below.refl _ _).setCell (p := ⟨g, i, none⟩) (by simpa using hg) _)
 refine ⟨⟨h.tt.below hb (by omega) (by omega), (hb.block _ (by omega)).trans h.ee, hv2.more fun j hj => ?_, h.bb.trans (hb.mono (by omega)), hlb, hlm⟩, hv2⟩
 have := hb.size
 omega
theorem VS.c (h : VS b mb x kk nn a len cap w W) : W.cell? ⟨w.heap.size, 0, none⟩ = some (.int .i64 x.k) ∧ W.cell? ⟨w.heap.size, 3, none⟩ = some (.int .i64 x.sy) ∧ W.cell? ⟨w.heap.size, 4, none⟩ = some (.int .i64 x.br) ∧ W.cell? ⟨w.heap.size, 5, none⟩ = some (.int .i64 x.pa) ∧ W.cell? ⟨w.heap.size, 6, none⟩ = some (.int .i64 x.n) ∧
  W.cell? ⟨w.heap.size, 7, none⟩ = some (.int .i64 kk) ∧ W.cell? ⟨w.heap.size, 8, none⟩ = some (.int .i64 nn) ∧ W.cell? ⟨w.heap.size, 9, none⟩ = some (.slice a len cap) := by
 simp [World.cell?, h.ee]
end
/-- What of an event is right, by its field. -/
def okI (x : Ev) (i : Nat) : Bool := match i with
 | 0 => fldOk x 0
 | 1 => fldOk x 1
 | 2 => fldOk x 2
 | 3 => fldOk x 3
 | _ => vOk (lsB x.k 4) x.v
theorem ok_succ {x : Ev} {q : Nat} (h : ∀ i, i < q → okI x i = true) (hq : okI x q = true) : ∀ i, i < q + 1 → okI x i = true := by
 intro i hi
 rcases Nat.lt_or_ge i q with h1 | h1
 ·exact h i h1
 ·obtain rfl : i = q := by omega
  exact hq
theorem right_no {x : Ev} {i : Nat} (hi : i < 5) (h : okI x i = false) : rightE x = false := by
 match i, hi, h with
 | 0, _, h => unfold rightE; rw [show fldOk x 0 = false from h]; simp
 | 1, _, h => unfold rightE; rw [show fldOk x 1 = false from h]; simp
 | 2, _, h => unfold rightE; rw [show fldOk x 2 = false from h]; simp
 | 3, _, h => unfold rightE; rw [show fldOk x 3 = false from h]; simp
 | 4, _, h => unfold rightE; rw [show vOk (lsB x.k 4) x.v = false from h]; simp
theorem right_yes {x : Ev} (hk : hasE x.k = true) (h1 : ¬ x.st < 0) (h2 : ¬ x.th < 0) (h : ∀ i, i < 5 → okI x i = true) : rightE x = true := by
 unfold rightE
 rw [hk, show fldOk x 0 = true from h 0 (by omega), show fldOk x 1 = true from h 1 (by omega), show fldOk x 2 = true from h 2 (by omega), show fldOk x 3 = true from h 3 (by omega), show vOk (lsB x.k 4) x.v = true from h 4 (by omega)]
 simp
 omega
theorem fidx0 (w : World) : (Instr.index 126 (.agg #[.string ⟨#[115, 121, 110, 99]⟩, .int .i64 0, .func (.func 69) #[] #[], .string ⟨#[98, 114, 97, 110, 99, 104]⟩, .int .i64 0, .func (.func 70) #[] #[], .string ⟨#[112, 97, 114, 116, 110, 101, 114]⟩, .int .i64 (-1), .func (.func 71) #[] #[], .string ⟨#[110]⟩, .int .i64 0, .func (.func 72) #[] #[], .string ⟨#[118, 97, 108]⟩, .int .i64 0, Value.nilFunc]) (.int .i64 0)).run Tryz.prog w = .ok (.agg #[.string ⟨#[115, 121, 110, 99]⟩, .int .i64 0, .func (.func 69) #[] #[]]) w := by kernel_rfl
theorem fidx1 (w : World) : (Instr.index 126 (.agg #[.string ⟨#[115, 121, 110, 99]⟩, .int .i64 0, .func (.func 69) #[] #[], .string ⟨#[98, 114, 97, 110, 99, 104]⟩, .int .i64 0, .func (.func 70) #[] #[], .string ⟨#[112, 97, 114, 116, 110, 101, 114]⟩, .int .i64 (-1), .func (.func 71) #[] #[], .string ⟨#[110]⟩, .int .i64 0, .func (.func 72) #[] #[], .string ⟨#[118, 97, 108]⟩, .int .i64 0, Value.nilFunc]) (.int .i64 1)).run Tryz.prog w = .ok (.agg #[.string ⟨#[98, 114, 97, 110, 99, 104]⟩, .int .i64 0, .func (.func 70) #[] #[]]) w := by kernel_rfl
theorem fidx2 (w : World) : (Instr.index 126 (.agg #[.string ⟨#[115, 121, 110, 99]⟩, .int .i64 0, .func (.func 69) #[] #[], .string ⟨#[98, 114, 97, 110, 99, 104]⟩, .int .i64 0, .func (.func 70) #[] #[], .string ⟨#[112, 97, 114, 116, 110, 101, 114]⟩, .int .i64 (-1), .func (.func 71) #[] #[], .string ⟨#[110]⟩, .int .i64 0, .func (.func 72) #[] #[], .string ⟨#[118, 97, 108]⟩, .int .i64 0, Value.nilFunc]) (.int .i64 2)).run Tryz.prog w = .ok (.agg #[.string ⟨#[112, 97, 114, 116, 110, 101, 114]⟩, .int .i64 (-1), .func (.func 71) #[] #[]]) w := by kernel_rfl
theorem fidx3 (w : World) : (Instr.index 126 (.agg #[.string ⟨#[115, 121, 110, 99]⟩, .int .i64 0, .func (.func 69) #[] #[], .string ⟨#[98, 114, 97, 110, 99, 104]⟩, .int .i64 0, .func (.func 70) #[] #[], .string ⟨#[112, 97, 114, 116, 110, 101, 114]⟩, .int .i64 (-1), .func (.func 71) #[] #[], .string ⟨#[110]⟩, .int .i64 0, .func (.func 72) #[] #[], .string ⟨#[118, 97, 108]⟩, .int .i64 0, Value.nilFunc]) (.int .i64 3)).run Tryz.prog w = .ok (.agg #[.string ⟨#[110]⟩, .int .i64 0, .func (.func 72) #[] #[]]) w := by kernel_rfl
theorem fidx4 (w : World) : (Instr.index 126 (.agg #[.string ⟨#[115, 121, 110, 99]⟩, .int .i64 0, .func (.func 69) #[] #[], .string ⟨#[98, 114, 97, 110, 99, 104]⟩, .int .i64 0, .func (.func 70) #[] #[], .string ⟨#[112, 97, 114, 116, 110, 101, 114]⟩, .int .i64 (-1), .func (.func 71) #[] #[], .string ⟨#[110]⟩, .int .i64 0, .func (.func 72) #[] #[], .string ⟨#[118, 97, 108]⟩, .int .i64 0, Value.nilFunc]) (.int .i64 4)).run Tryz.prog w = .ok (.agg #[.string ⟨#[118, 97, 108]⟩, .int .i64 0, Value.nilFunc]) w := by kernel_rfl
theorem fnil0 (w : World) : (binOp .eql 123 (.func (.func 69) #[] #[]) Value.nilFunc).run Tryz.prog w = .ok (.bool false) w := by kernel_rfl
theorem fnil1 (w : World) : (binOp .eql 123 (.func (.func 70) #[] #[]) Value.nilFunc).run Tryz.prog w = .ok (.bool false) w := by kernel_rfl
theorem fnil2 (w : World) : (binOp .eql 123 (.func (.func 71) #[] #[]) Value.nilFunc).run Tryz.prog w = .ok (.bool false) w := by kernel_rfl
theorem fnil3 (w : World) : (binOp .eql 123 (.func (.func 72) #[] #[]) Value.nilFunc).run Tryz.prog w = .ok (.bool false) w := by kernel_rfl
theorem fnil4 (w : World) : (binOp .eql 123 Value.nilFunc Value.nilFunc).run Tryz.prog w = .ok (.bool true) w := by kernel_rfl
theorem TabT.cells {w : World} {b mb : Nat} (h : TabT w b mb) : w.cell? ⟨b, 0, none⟩ = some (.string ⟨#[115, 121, 110, 99]⟩) ∧ w.cell? ⟨b, 1, none⟩ = some (.int .i64 0) ∧ w.cell? ⟨b, 2, none⟩ = some (.func (.func 69) #[] #[]) ∧
  w.cell? ⟨b, 3, none⟩ = some (.string ⟨#[98, 114, 97, 110, 99, 104]⟩) ∧ w.cell? ⟨b, 4, none⟩ = some (.int .i64 0) ∧ w.cell? ⟨b, 5, none⟩ = some (.func (.func 70) #[] #[]) ∧
  w.cell? ⟨b, 6, none⟩ = some (.string ⟨#[112, 97, 114, 116, 110, 101, 114]⟩) ∧ w.cell? ⟨b, 7, none⟩ = some (.int .i64 (-1)) ∧ w.cell? ⟨b, 8, none⟩ = some (.func (.func 71) #[] #[]) ∧
  w.cell? ⟨b, 9, none⟩ = some (.string ⟨#[110]⟩) ∧ w.cell? ⟨b, 10, none⟩ = some (.int .i64 0) ∧ w.cell? ⟨b, 11, none⟩ = some (.func (.func 72) #[] #[]) ∧
  w.cell? ⟨b, 12, none⟩ = some (.string ⟨#[118, 97, 108]⟩) ∧ w.cell? ⟨b, 13, none⟩ = some (.int .i64 0) ∧ w.cell? ⟨b, 14, none⟩ = some Value.nilFunc := by
 simp [World.cell?, h.c]
set_option maxRecDepth 100000 in
set_option maxHeartbeats 4000000 in
theorem tvalid_any (b mb : Nat) (x : Ev) (v : Value) (w : World) (hT : TabT w b mb) (hx : IsE (· < w.heap.size) w x v) : Calls Tryz.prog 50 #[.pointer (some ⟨b, 0, none⟩), v] w fun e w' => e = .returned (.bool (rightE x)) ∧ Below w.heap.size w w' := by
 obtain ⟨kk, nn, a, len, cap, rfl, hv, hr⟩ := hx
 obtain ⟨r, hre⟩ : ∃ r, rightE x = r := ⟨_, rfl⟩
 rw [hre]
 have HRE := Lib.hid hre
 clear hre
 have hb1 := below_alloc w (.cells (evC x kk nn a len cap) 29)
 have hT1 := hT.belowAll hb1
 have hx1 := heap_alloc_new w (.cells (evC x kk nn a len cap) 29)
 have hv1 := hv.later hb1
 unfold evC at hx1 ⊢
 go_enter Tryz.func50, Tryz.ntmps50
 go_upto_region 1 with fail
 unfold evC at hb1 hT1 hv1
 generalize w.alloc (.cells #[.int .i64 x.k, .int .i64 x.st, .int .i64 x.th, .int .i64 x.sy, .int .i64 x.br, .int .i64 x.pa, .int .i64 x.n, .int .i64 kk, .int .i64 nn, .slice a len cap] 29) = w1 at *
 have hm := hT1.mapc
 have hlk := fun n => hT1.m.lookN hr.k n
 have c0 : w1.cell? ⟨w.heap.size, 0, none⟩ = some (.int .i64 x.k) := by simp [World.cell?, hx1]
 have c1 : w1.cell? ⟨w.heap.size, 1, none⟩ = some (.int .i64 x.st) := by simp [World.cell?, hx1]
 have c2 : w1.cell? ⟨w.heap.size, 2, none⟩ = some (.int .i64 x.th) := by simp [World.cell?, hx1]
 by_cases hk : hasE x.k = true
 ·obtain ⟨he1, he2⟩ := word_ne hk
  by_cases h1 : x.st < 0
  ·have hd1 : decide (x.st < 0) = true := by simpa using h1
   have hrf : r = false := by rw [← HRE.out]; unfold rightE; rw [show decide (0 ≤ x.st) = false from by simpa using h1]; simp
   subst hrf
   go_quiet (fail)
   go_wp2_with fail
   go_ret
   exact ⟨rfl, below_drewN hb1 _⟩
  ·have hd1 : decide (x.st < 0) = false := by simpa using h1
   by_cases h2 : x.th < 0
   ·have hd2 : decide (x.th < 0) = true := by simpa using h2
    have hrf : r = false := by rw [← HRE.out]; unfold rightE; rw [show decide (0 ≤ x.th) = false from by simpa using h2]; simp
    subst hrf
    go_quiet (fail)
    go_wp2_with fail
    go_ret
    exact ⟨rfl, below_drewN hb1 _⟩
   ·have hd2 : decide (x.th < 0) = false := by simpa using h2
    go_quiet (fail)
    go_upto_region 4 with fail
    have hb2 := (below_drewN (Below.refl w1.heap.size w1) nq).trans (below_alloc (w1.drewN nq) (.cells #[.bool false, .bool false, .bool false, .bool false, .bool false] 85))
    have hvs2 : VS b mb x kk nn a len cap w ((w1.drewN nq).alloc (.cells #[.bool false, .bool false, .bool false, .bool false, .bool false] 85)) := VS.below ⟨hT1, hx1, hv1, hb1, hT.lt, hT.m.lt⟩ hb2
    have hmk2 : Mk5 ((w1.drewN nq).alloc (.cells #[.bool false, .bool false, .bool false, .bool false, .bool false] 85)) w1.heap.size (mkL (rowE x.k) 0) := heap_alloc_new _ _
    have hv2 : IsV (· < w1.heap.size) ((w1.drewN nq).alloc (.cells #[.bool false, .bool false, .bool false, .bool false, .bool false] 85)) x.v (.agg #[.int .i64 kk, .int .i64 nn, .slice a len cap]) := hv1.below hb2
    have hl1 : w.heap.size < w1.heap.size := lt_of_heap hx1
    have hl2 : w1.heap.size < ((w1.drewN nq).alloc (.cells #[.bool false, .bool false, .bool false, .bool false, .bool false] 85)).heap.size := by simp
    clear hb2 hT hT1 hx1 hv hv1 hb1 hm hlk c0 c1 c2 hd1 hd2 he1 he2
    generalize (w1.drewN nq).alloc (.cells #[.bool false, .bool false, .bool false, .bool false, .bool false] 85) = w2 at *
    generalize w1.heap.size = mkb at *
    obtain ⟨c0, _⟩ := hvs2.c
    go_wp2_with fail
    refine (row_any x.k _).mono ?_
    rintro e w3 ⟨⟨rv, rfl, hrow, hrg⟩, hb3⟩
    obtain ⟨ra, rfl⟩ := hrow.form
    have hvs3 := hvs2.below hb3
    have hmk3 : Mk5 w3 mkb (mkL (rowE x.k) 0) := (hb3.block _ hl2).trans hmk2
    have hv3 := hv2.below (hb3.mono (Nat.le_of_lt hl2))
    have hs3 := hb3.size
    have hrl := row_lt x.k
    have HRL := Lib.hid hrl
    have HRG := Lib.hid hrg
    clear hvs2 hmk2 hv2 hb3 c0 hrl hrg
    obtain ⟨l, hl⟩ : ∃ l, rowE x.k = l := ⟨_, rfl⟩
    have HL := Lib.hid hl
    rw [hl] at hrow hmk3 ⊢
    clear hl
    have hll : l.length ≤ 5 := by rw [← HL.out]; exact row_len x.k
    go_wp2_with fail
    go_loopw [33] (fun i wr => ∃ j : Nat, i = .int .i64 (j : Nat) ∧ j ≤ l.length ∧ Mk5 wr mkb (mkL l j) ∧ VS b mb x kk nn a len cap w wr ∧ IsV (· < mkb) wr x.v (.agg #[.int .i64 kk, .int .i64 nn, .slice a len cap]) ∧ RowM wr l (.slice ra l.length l.length) ∧ mkb < wr.heap.size) (fun i _ => l.length - (intOf i).toNat)
    case atStart => exact ⟨0, rfl, by omega, hmk3, hvs3, hv3, hrow, by omega⟩
    case round =>
     clear hmk3 hvs3 hv3 hrow
     obtain ⟨j, rfl, hj, hmk, hvs, hvl, hrw, hml⟩ := hrel
     by_cases hlt : j < l.length
     ·have hd3 : decide (j < l.length) = true := by simpa using hlt
      obtain ⟨g, hra, hg, hc⟩ := hrw.at_ hlt
      have hgm : mkb < g := by have := HRG.out g (by rw [hra]; rfl); omega
      have hi5 : l[j] < 5 := HRL.out _ (by rw [HL.out]; exact List.getElem_mem _)
      subst hra
      have HS := Lib.hid (mkL_succ hlt)
      obtain ⟨i, hi⟩ : ∃ i, l[j] = i := ⟨_, rfl⟩
      rw [hi] at hc hi5
      have HI := Lib.hid hi
      clear hi
      have hb9 : Below (mkb + 1) wr wr := Below.refl _ _
      have h5 : i = 0 ∨ i = 1 ∨ i = 2 ∨ i = 3 ∨ i = 4 := by omega
      have hrw2 : ∀ q u, RowM (wr.setCell ⟨mkb, q, none⟩ u) l (.slice (some ⟨g, 0, none⟩) l.length l.length) := fun q u => by
       rcases hrw with ⟨e1, e2⟩ | ⟨e1, g2, e2, e3⟩
       ·cases e2
       ·refine .inr ⟨e1, g2, e2, ?_⟩
        injection e2 with e2
        injection e2 with e2
        injection e2 with e2
        subst e2
        rw [Below.heap_setCell _ _ _ _ (by simp; omega)]
        exact e3
      have HRW := Lib.hid hrw2
      have hset : ∀ q u, VS b mb x kk nn a len cap w (wr.setCell ⟨mkb, q, none⟩ u) ∧ IsV (· < mkb) (wr.setCell ⟨mkb, q, none⟩ u) x.v (.agg #[.int .i64 kk, .int .i64 nn, .slice a len cap]) := fun q u => hvs.set hvl (Nat.le_refl _) hl1 (Nat.le_of_lt hml) q u
      have HSET := Lib.hid hset
      clear hrw2 hset hb9
      rcases h5 with rfl | rfl | rfl | rfl | rfl
      all_goals
       have mc := hmk.at_ hi5
       have mf := hmk.fz
       go_wp2_with fail
       go_roundw
       case rel => exact ⟨j + 1, by go_num, by omega, hmk.set hi5 (fun k _ => by rw [HS.out, HI.out]), (HSET.out _ _).1, (HSET.out _ _).2, HRW.out _ _, by simpa using hml⟩
       case measure => simp [intOf]; omega
     ·obtain rfl : j = l.length := by omega
      have hmm : ∀ i, mkL l l.length i = lsB x.k i := fun i => by unfold mkL lsB; rw [List.take_length, HL.out]
      have HMM := Lib.hid hmm
      clear hmm hlt
      obtain ⟨t0, t1, t2, t3, t4, t5, t6, t7, t8, t9, t10, t11, t12, t13, t14⟩ := hvs.tt.cells
      go_wp2_with fail
      go_loopw [44] (fun i wq => ∃ q : Nat, i = .int .i64 (q : Nat) ∧ q ≤ 5 ∧ Mk5 wq mkb (mkL l l.length) ∧ VS b mb x kk nn a len cap w wq ∧ ∀ i, i < q → okI x i = true) (fun i _ => 5 - (intOf i).toNat)
      case atStart => exact ⟨0, rfl, by omega, hmk, hvs, fun i hi => by omega⟩
      case round =>
       clear hmk hvs hvl hrw t0 t1 t2 t3 t4 t5 t6 t7 t8 t9 t10 t11 t12 t13 t14 hml
       obtain ⟨q, rfl, hq, hmk, hvs, hok⟩ := hrel
       have HOK := Lib.hid hok
       clear hok
       by_cases hq5 : q < 5
       ·have hs5 : q = 0 ∨ q = 1 ∨ q = 2 ∨ q = 3 ∨ q = 4 := by omega
        rcases hs5 with rfl | rfl | rfl | rfl | rfl
        ·have hbf := below_alloc wr (.cells #[.string ⟨#[115, 121, 110, 99]⟩, .int .i64 0, .func (.func 69) #[] #[]] 125)
         have hmf : Mk5 (wr.alloc (.cells #[.string ⟨#[115, 121, 110, 99]⟩, .int .i64 0, .func (.func 69) #[] #[]] 125)) mkb (mkL l l.length) := (hbf.block _ hmk.lt).trans hmk
         have hvf := hvs.below hbf
         have hff := heap_alloc_new wr (.cells #[.string ⟨#[115, 121, 110, 99]⟩, .int .i64 0, .func (.func 69) #[] #[]] 125)
         have hlf : wr.heap.size < (wr.alloc (.cells #[.string ⟨#[115, 121, 110, 99]⟩, .int .i64 0, .func (.func 69) #[] #[]] 125)).heap.size := by simp
         have hix := fidx0
         go_upto_region 12 with fail
         clear hix
         clear hmk hvs hbf
         generalize wr.alloc (.cells #[.string ⟨#[115, 121, 110, 99]⟩, .int .i64 0, .func (.func 69) #[] #[]] 125) = wf at *
         generalize wr.heap.size = fb at *
         have f1 : wf.cell? ⟨fb, 1, none⟩ = some (.int .i64 0) := by simp [World.cell?, hff]
         have f2 : wf.cell? ⟨fb, 2, none⟩ = some (.func (.func 69) #[] #[]) := by simp [World.cell?, hff]
         have hnf := fnil0
         obtain ⟨c0, c3, c4, c5, c6, c7, c8, c9⟩ := hvf.c
         have mc := hmf.at_ (i := 0) (by omega)
         rw [HMM.out] at mc
         have hen := enters_of Tryz.func69 (by kernel_rfl) rfl
         go_wp2_with fail
         refine (at0_any _ _).mono ?_
         rintro e wz ⟨rfl, rfl⟩
         obtain ⟨m, hm⟩ : ∃ m, lsB x.k 0 = m := ⟨_, rfl⟩
         rw [hm] at mc
         have HM := Lib.hid hm
         clear hm
         cases m
         ·by_cases hz : x.sy = 0
          ·have hd5 : (x.sy != 0) = false := by simpa using hz
           have HO : Hid (okI x 0 = true) := by show _ = _; unfold okI fldOk; rw [HM.out]; simpa [Ev.fld] using hz
           clear hz
           go_wp2_with fail
           go_roundw
           case rel => first | exact ⟨1, rfl, by omega, hmf, hvf, ok_succ HOK.out HO.out⟩ | ((repeat apply Exists.intro); exact ⟨⟨1, rfl, by omega, hmf, hvf, ok_succ HOK.out HO.out⟩, rfl⟩)
           case measure => simp [intOf]
          ·have hd5 : (x.sy != 0) = true := by simpa using hz
           have hrf : r = false := by rw [← HRE.out]; exact right_no (i := 0) (by omega) (by unfold okI fldOk; rw [HM.out]; simpa [Ev.fld] using hz)
           subst hrf
           go_wp2_with fail
           go_ret
           exact ⟨rfl, hvf.bb⟩
         ·by_cases hz : x.sy < 0
          ·have hd5 : decide (x.sy < 0) = true := by simpa using hz
           have hrf : r = false := by rw [← HRE.out]; exact right_no (i := 0) (by omega) (by unfold okI fldOk; rw [HM.out]; simp [Ev.fld, leastE]; omega)
           subst hrf
           go_wp2_with fail
           go_ret
           exact ⟨rfl, hvf.bb⟩
          ·have hd5 : decide (x.sy < 0) = false := by simpa using hz
           have HO : Hid (okI x 0 = true) := by show _ = _; unfold okI fldOk; rw [HM.out]; simp [Ev.fld, leastE]; omega
           go_wp2_with fail
           go_roundw
           case rel => first | exact ⟨1, rfl, by omega, hmf, hvf, ok_succ HOK.out HO.out⟩ | ((repeat apply Exists.intro); exact ⟨⟨1, rfl, by omega, hmf, hvf, ok_succ HOK.out HO.out⟩, rfl⟩)
           case measure => simp [intOf]
        ·have hbf := below_alloc wr (.cells #[.string ⟨#[98, 114, 97, 110, 99, 104]⟩, .int .i64 0, .func (.func 70) #[] #[]] 125)
         have hmf : Mk5 (wr.alloc (.cells #[.string ⟨#[98, 114, 97, 110, 99, 104]⟩, .int .i64 0, .func (.func 70) #[] #[]] 125)) mkb (mkL l l.length) := (hbf.block _ hmk.lt).trans hmk
         have hvf := hvs.below hbf
         have hff := heap_alloc_new wr (.cells #[.string ⟨#[98, 114, 97, 110, 99, 104]⟩, .int .i64 0, .func (.func 70) #[] #[]] 125)
         have hlf : wr.heap.size < (wr.alloc (.cells #[.string ⟨#[98, 114, 97, 110, 99, 104]⟩, .int .i64 0, .func (.func 70) #[] #[]] 125)).heap.size := by simp
         have hix := fidx1
         go_upto_region 12 with fail
         clear hix
         clear hmk hvs hbf
         generalize wr.alloc (.cells #[.string ⟨#[98, 114, 97, 110, 99, 104]⟩, .int .i64 0, .func (.func 70) #[] #[]] 125) = wf at *
         generalize wr.heap.size = fb at *
         have f1 : wf.cell? ⟨fb, 1, none⟩ = some (.int .i64 0) := by simp [World.cell?, hff]
         have f2 : wf.cell? ⟨fb, 2, none⟩ = some (.func (.func 70) #[] #[]) := by simp [World.cell?, hff]
         have hnf := fnil1
         obtain ⟨c0, c3, c4, c5, c6, c7, c8, c9⟩ := hvf.c
         have mc := hmf.at_ (i := 1) (by omega)
         rw [HMM.out] at mc
         have hen := enters_of Tryz.func70 (by kernel_rfl) rfl
         go_wp2_with fail
         refine (at1_any _ _).mono ?_
         rintro e wz ⟨rfl, rfl⟩
         obtain ⟨m, hm⟩ : ∃ m, lsB x.k 1 = m := ⟨_, rfl⟩
         rw [hm] at mc
         have HM := Lib.hid hm
         clear hm
         cases m
         ·by_cases hz : x.br = 0
          ·have hd5 : (x.br != 0) = false := by simpa using hz
           have HO : Hid (okI x 1 = true) := by show _ = _; unfold okI fldOk; rw [HM.out]; simpa [Ev.fld] using hz
           clear hz
           go_wp2_with fail
           go_roundw
           case rel => first | exact ⟨2, rfl, by omega, hmf, hvf, ok_succ HOK.out HO.out⟩ | ((repeat apply Exists.intro); exact ⟨⟨2, rfl, by omega, hmf, hvf, ok_succ HOK.out HO.out⟩, rfl⟩)
           case measure => simp [intOf]
          ·have hd5 : (x.br != 0) = true := by simpa using hz
           have hrf : r = false := by rw [← HRE.out]; exact right_no (i := 1) (by omega) (by unfold okI fldOk; rw [HM.out]; simpa [Ev.fld] using hz)
           subst hrf
           go_wp2_with fail
           go_ret
           exact ⟨rfl, hvf.bb⟩
         ·by_cases hz : x.br < 0
          ·have hd5 : decide (x.br < 0) = true := by simpa using hz
           have hrf : r = false := by rw [← HRE.out]; exact right_no (i := 1) (by omega) (by unfold okI fldOk; rw [HM.out]; simp [Ev.fld, leastE]; omega)
           subst hrf
           go_wp2_with fail
           go_ret
           exact ⟨rfl, hvf.bb⟩
          ·have hd5 : decide (x.br < 0) = false := by simpa using hz
           have HO : Hid (okI x 1 = true) := by show _ = _; unfold okI fldOk; rw [HM.out]; simp [Ev.fld, leastE]; omega
           go_wp2_with fail
           go_roundw
           case rel => first | exact ⟨2, rfl, by omega, hmf, hvf, ok_succ HOK.out HO.out⟩ | ((repeat apply Exists.intro); exact ⟨⟨2, rfl, by omega, hmf, hvf, ok_succ HOK.out HO.out⟩, rfl⟩)
           case measure => simp [intOf]
        ·have hbf := below_alloc wr (.cells #[.string ⟨#[112, 97, 114, 116, 110, 101, 114]⟩, .int .i64 (-1), .func (.func 71) #[] #[]] 125)
         have hmf : Mk5 (wr.alloc (.cells #[.string ⟨#[112, 97, 114, 116, 110, 101, 114]⟩, .int .i64 (-1), .func (.func 71) #[] #[]] 125)) mkb (mkL l l.length) := (hbf.block _ hmk.lt).trans hmk
         have hvf := hvs.below hbf
         have hff := heap_alloc_new wr (.cells #[.string ⟨#[112, 97, 114, 116, 110, 101, 114]⟩, .int .i64 (-1), .func (.func 71) #[] #[]] 125)
         have hlf : wr.heap.size < (wr.alloc (.cells #[.string ⟨#[112, 97, 114, 116, 110, 101, 114]⟩, .int .i64 (-1), .func (.func 71) #[] #[]] 125)).heap.size := by simp
         have hix := fidx2
         go_upto_region 12 with fail
         clear hix
         clear hmk hvs hbf
         generalize wr.alloc (.cells #[.string ⟨#[112, 97, 114, 116, 110, 101, 114]⟩, .int .i64 (-1), .func (.func 71) #[] #[]] 125) = wf at *
         generalize wr.heap.size = fb at *
         have f1 : wf.cell? ⟨fb, 1, none⟩ = some (.int .i64 (-1)) := by simp [World.cell?, hff]
         have f2 : wf.cell? ⟨fb, 2, none⟩ = some (.func (.func 71) #[] #[]) := by simp [World.cell?, hff]
         have hnf := fnil2
         obtain ⟨c0, c3, c4, c5, c6, c7, c8, c9⟩ := hvf.c
         have mc := hmf.at_ (i := 2) (by omega)
         rw [HMM.out] at mc
         have hen := enters_of Tryz.func71 (by kernel_rfl) rfl
         go_wp2_with fail
         refine (at2_any _ _).mono ?_
         rintro e wz ⟨rfl, rfl⟩
         obtain ⟨m, hm⟩ : ∃ m, lsB x.k 2 = m := ⟨_, rfl⟩
         rw [hm] at mc
         have HM := Lib.hid hm
         clear hm
         cases m
         ·by_cases hz : x.pa = 0
          ·have hd5 : (x.pa != 0) = false := by simpa using hz
           have HO : Hid (okI x 2 = true) := by show _ = _; unfold okI fldOk; rw [HM.out]; simpa [Ev.fld] using hz
           clear hz
           go_wp2_with fail
           go_roundw
           case rel => first | exact ⟨3, rfl, by omega, hmf, hvf, ok_succ HOK.out HO.out⟩ | ((repeat apply Exists.intro); exact ⟨⟨3, rfl, by omega, hmf, hvf, ok_succ HOK.out HO.out⟩, rfl⟩)
           case measure => simp [intOf]
          ·have hd5 : (x.pa != 0) = true := by simpa using hz
           have hrf : r = false := by rw [← HRE.out]; exact right_no (i := 2) (by omega) (by unfold okI fldOk; rw [HM.out]; simpa [Ev.fld] using hz)
           subst hrf
           go_wp2_with fail
           go_ret
           exact ⟨rfl, hvf.bb⟩
         ·by_cases hz : x.pa < (-1)
          ·have hd5 : decide (x.pa < (-1)) = true := by simpa using hz
           have hrf : r = false := by rw [← HRE.out]; exact right_no (i := 2) (by omega) (by unfold okI fldOk; rw [HM.out]; simp [Ev.fld, leastE]; omega)
           subst hrf
           go_wp2_with fail
           go_ret
           exact ⟨rfl, hvf.bb⟩
          ·have hd5 : decide (x.pa < (-1)) = false := by simpa using hz
           have HO : Hid (okI x 2 = true) := by show _ = _; unfold okI fldOk; rw [HM.out]; simp [Ev.fld, leastE]; omega
           go_wp2_with fail
           go_roundw
           case rel => first | exact ⟨3, rfl, by omega, hmf, hvf, ok_succ HOK.out HO.out⟩ | ((repeat apply Exists.intro); exact ⟨⟨3, rfl, by omega, hmf, hvf, ok_succ HOK.out HO.out⟩, rfl⟩)
           case measure => simp [intOf]
        ·have hbf := below_alloc wr (.cells #[.string ⟨#[110]⟩, .int .i64 0, .func (.func 72) #[] #[]] 125)
         have hmf : Mk5 (wr.alloc (.cells #[.string ⟨#[110]⟩, .int .i64 0, .func (.func 72) #[] #[]] 125)) mkb (mkL l l.length) := (hbf.block _ hmk.lt).trans hmk
         have hvf := hvs.below hbf
         have hff := heap_alloc_new wr (.cells #[.string ⟨#[110]⟩, .int .i64 0, .func (.func 72) #[] #[]] 125)
         have hlf : wr.heap.size < (wr.alloc (.cells #[.string ⟨#[110]⟩, .int .i64 0, .func (.func 72) #[] #[]] 125)).heap.size := by simp
         have hix := fidx3
         go_upto_region 12 with fail
         clear hix
         clear hmk hvs hbf
         generalize wr.alloc (.cells #[.string ⟨#[110]⟩, .int .i64 0, .func (.func 72) #[] #[]] 125) = wf at *
         generalize wr.heap.size = fb at *
         have f1 : wf.cell? ⟨fb, 1, none⟩ = some (.int .i64 0) := by simp [World.cell?, hff]
         have f2 : wf.cell? ⟨fb, 2, none⟩ = some (.func (.func 72) #[] #[]) := by simp [World.cell?, hff]
         have hnf := fnil3
         obtain ⟨c0, c3, c4, c5, c6, c7, c8, c9⟩ := hvf.c
         have mc := hmf.at_ (i := 3) (by omega)
         rw [HMM.out] at mc
         have hen := enters_of Tryz.func72 (by kernel_rfl) rfl
         go_wp2_with fail
         refine (at3_any _ _).mono ?_
         rintro e wz ⟨rfl, rfl⟩
         obtain ⟨m, hm⟩ : ∃ m, lsB x.k 3 = m := ⟨_, rfl⟩
         rw [hm] at mc
         have HM := Lib.hid hm
         clear hm
         cases m
         ·by_cases hz : x.n = 0
          ·have hd5 : (x.n != 0) = false := by simpa using hz
           have HO : Hid (okI x 3 = true) := by show _ = _; unfold okI fldOk; rw [HM.out]; simpa [Ev.fld] using hz
           clear hz
           go_wp2_with fail
           go_roundw
           case rel => first | exact ⟨4, rfl, by omega, hmf, hvf, ok_succ HOK.out HO.out⟩ | ((repeat apply Exists.intro); exact ⟨⟨4, rfl, by omega, hmf, hvf, ok_succ HOK.out HO.out⟩, rfl⟩)
           case measure => simp [intOf]
          ·have hd5 : (x.n != 0) = true := by simpa using hz
           have hrf : r = false := by rw [← HRE.out]; exact right_no (i := 3) (by omega) (by unfold okI fldOk; rw [HM.out]; simpa [Ev.fld] using hz)
           subst hrf
           go_wp2_with fail
           go_ret
           exact ⟨rfl, hvf.bb⟩
         ·by_cases hz : x.n < 0
          ·have hd5 : decide (x.n < 0) = true := by simpa using hz
           have hrf : r = false := by rw [← HRE.out]; exact right_no (i := 3) (by omega) (by unfold okI fldOk; rw [HM.out]; simp [Ev.fld, leastE]; omega)
           subst hrf
           go_wp2_with fail
           go_ret
           exact ⟨rfl, hvf.bb⟩
          ·have hd5 : decide (x.n < 0) = false := by simpa using hz
           have HO : Hid (okI x 3 = true) := by show _ = _; unfold okI fldOk; rw [HM.out]; simp [Ev.fld, leastE]; omega
           go_wp2_with fail
           go_roundw
           case rel => first | exact ⟨4, rfl, by omega, hmf, hvf, ok_succ HOK.out HO.out⟩ | ((repeat apply Exists.intro); exact ⟨⟨4, rfl, by omega, hmf, hvf, ok_succ HOK.out HO.out⟩, rfl⟩)
           case measure => simp [intOf]
        ·have hbf := below_alloc wr (.cells #[.string ⟨#[118, 97, 108]⟩, .int .i64 0, Value.nilFunc] 125)
         have hmf : Mk5 (wr.alloc (.cells #[.string ⟨#[118, 97, 108]⟩, .int .i64 0, Value.nilFunc] 125)) mkb (mkL l l.length) := (hbf.block _ hmk.lt).trans hmk
         have hvf := hvs.below hbf
         have hff := heap_alloc_new wr (.cells #[.string ⟨#[118, 97, 108]⟩, .int .i64 0, Value.nilFunc] 125)
         have hlf : wr.heap.size < (wr.alloc (.cells #[.string ⟨#[118, 97, 108]⟩, .int .i64 0, Value.nilFunc] 125)).heap.size := by simp
         have hix := fidx4
         go_upto_region 12 with fail
         clear hix
         clear hmk hvs hbf
         generalize wr.alloc (.cells #[.string ⟨#[118, 97, 108]⟩, .int .i64 0, Value.nilFunc] 125) = wf at *
         generalize wr.heap.size = fb at *
         have f1 : wf.cell? ⟨fb, 1, none⟩ = some (.int .i64 0) := by simp [World.cell?, hff]
         have f2 : wf.cell? ⟨fb, 2, none⟩ = some (Value.nilFunc) := by simp [World.cell?, hff]
         have hnf := fnil4
         obtain ⟨c0, c3, c4, c5, c6, c7, c8, c9⟩ := hvf.c
         have mc := hmf.at_ (i := 4) (by omega)
         rw [HMM.out] at mc
         have x7 := fun d os => cell_regrown c7 d os
         have x8 := fun d os => cell_regrown c8 d os
         have x9 := fun d os => cell_regrown c9 d os
         have xm := fun d os => cell_regrown mc d os
         have cV : ∀ d os, Calls Tryz.prog 85 #[(.agg #[.int .i64 kk, .int .i64 nn, .slice a len cap]), .bool (lsB x.k 4)] (grow (redrawn wf d) os) fun e w'' => e = .returned (.bool (vOk (lsB x.k 4) x.v)) ∧ ∃ p : Regrown, w'' = grow (redrawn wf p.d) p.os := fun d os => Calls.regrown_of (validVal_any x.v _ _ _ (hvf.vv.later (below_regrown wf d os)))
         obtain ⟨m, hm⟩ : ∃ m, vOk (lsB x.k 4) x.v = m := ⟨_, rfl⟩
         rw [hm] at cV
         have HM := Lib.hid hm
         clear hm
         go_upto_region 13 with fail
         refine wp_region_quiet_below (by kernel_rfl) (by kernel_rfl) ?_
         repeat (quiet_step (exact cV _ _))
         refine wpQuiet_nil ?_
         intro _ hw'
         obtain ⟨⟨dq, osq⟩, hw''⟩ := hw'
         subst hw''
         have hb3 := below_regrown wf dq osq
         clear x7 x8 x9 xm cV
         generalize grow (redrawn wf dq) osq = w5 at *
         have hvz := hvf.below hb3
         have hmz : Mk5 w5 mkb (mkL l l.length) := (hb3.block _ hmf.lt).trans hmf
         cases m
         ·have hrf : r = false := by rw [← HRE.out]; exact right_no (i := 4) (by omega) HM.out
          subst hrf
          go_wp2_with fail
          go_ret
          exact ⟨rfl, hvz.bb⟩
         ·go_wp2_with fail
          go_roundw
          case rel => first | exact ⟨5, rfl, by omega, hmz, hvz, ok_succ HOK.out HM.out⟩ | ((repeat apply Exists.intro); exact ⟨⟨5, rfl, by omega, hmz, hvz, ok_succ HOK.out HM.out⟩, rfl⟩)
          case measure => simp [intOf]
       ·obtain rfl : q = 5 := by omega
        have hrt : r = true := by
         rw [← HRE.out]
         exact right_yes hk (by omega) (by omega) (HOK.out)
        subst hrt
        go_wp2_with fail
        go_ret
        exact ⟨rfl, hvs.bb⟩
 ·have hw : wordE x.k = ⟨#[]⟩ := by unfold wordE; rw [if_neg hk]
  rw [hw] at hlk
  have hrf : r = false := by rw [← HRE.out]; unfold rightE; rw [show hasE x.k = false from by simpa using hk]; rfl
  subst hrf
  clear hw
  go_quiet (fail)
  go_wp2_with fail
  go_ret
  exact ⟨rfl, below_drewN hb1 _⟩
end Go.Proofs.YtjldbbcdhdfliaaGreatDoor
