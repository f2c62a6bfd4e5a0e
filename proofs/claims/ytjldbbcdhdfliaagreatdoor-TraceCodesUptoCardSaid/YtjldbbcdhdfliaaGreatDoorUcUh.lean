/-
 Walks over the reference of layer 23: Same; the program's Same.
-/
import Derived.Test.YtjldbbcdhdfliaaGreatDoorUb
import Derived.Test.YtjldbbcdhdfliaaGreatDoorTd
import Derived.Test.YtjldbbcdhdfliaaGreatDoorWNd
import Derived.Deep.RegionHeld3
import Derived.Deep.QuietTactic
import Derived.BigQuiet
import Derived.Laws.StructEq
import Derived.Deep.RegionLaw
import Derived.Test.YtjldbbcdhdfliaaGreatDoorTkTl
import Derived.Lib.QuietBelow
namespace Go.Proofs.YtjldbbcdhdfliaaGreatDoor
open Go.RowKit

def numsE (x : Ev) : Value := .agg #[.int .i64 x.sy, .int .i64 x.br, .int .i64 x.pa, .int .i64 x.n]
def numsB (x y : Ev) : Bool := decide (x.sy = y.sy) && decide (x.br = y.br) && decide (x.pa = y.pa) && decide (x.n = y.n)
/-- Are two values the same? -/
def sameV (t t' : VT) : Bool := small t && small t' && eqT t t'
set_option maxHeartbeats 1000000 in
theorem eql_nums (x y : Ev) (w : World) : (binOp .eql 87 (numsE x) (numsE y)).run Tryz.prog w = .ok (.bool (numsB x y)) w := by
 have u3 := Tryz.underlying3
 have a3 := Tryz.isAgg3
 have z3 := Tryz.sizeOf3
 unfold numsE
 simp only [go_sem]
 rw [show (10000 : Nat) = 9999 + 1 from rfl, Op.equalIn]
 simp only [Sem.run_bind, run_underlying Tryz.underlying87, Result.andThen_ok]
 simp only [Std.Legacy.Range.forIn_eq_forIn_range', Std.Legacy.Range.size, Nat.sub_zero, Nat.add_sub_cancel, Nat.div_one, List.range'_succ, List.range'_zero, List.forIn_cons, List.forIn_nil]
 go_simp
 unfold numsB
 by_cases h1 : x.sy = y.sy <;> by_cases h2 : x.br = y.br <;> by_cases h3 : x.pa = y.pa <;> by_cases h4 : x.n = y.n <;> simp [h1, h2, h3, h4]
theorem nums_self (x : Ev) : numsB x x = true := by simp [numsB]
/-- The boxes of two events. -/
structure TwE (w W : World) (x y : Ev) (kk nn kk' nn' : Int) (a a' : Option Addr) (len cap len' cap' : Nat) : Prop where
 b : Below w.heap.size w W
 e1 : W.heap[w.heap.size]? = some (.cells (evC x kk nn a len cap) 29 (0, 0))
 e2 : W.heap[w.heap.size + 1]? = some (.cells (evC y kk' nn' a' len' cap') 29 (0, 0))
theorem TwE.below {w W W' : World} {x y : Ev} {kk nn kk' nn' : Int} {a a' : Option Addr} {len cap len' cap' : Nat} (h : TwE w W x y kk nn kk' nn' a a' len cap len' cap') (hb : Below W.heap.size W W') : TwE w W' x y kk nn kk' nn' a a' len cap len' cap' :=
 ⟨h.b.trans (hb.mono h.b.size), (hb.block _ (lt_of_heap h.e1)).trans h.e1, (hb.block _ (lt_of_heap h.e2)).trans h.e2⟩
theorem TwE.held {w W : World} {x y : Ev} {kk nn kk' nn' : Int} {a a' : Option Addr} {len cap len' cap' : Nat} (h : TwE w W x y kk nn kk' nn' a a' len cap len' cap') : TwE w W x y kk nn kk' nn' a a' len cap len' cap' ∧ W.cell? ⟨w.heap.size, 0, none⟩ = some (.int .i64 x.k) ∧ W.cell? ⟨w.heap.size, 1, none⟩ = some (.int .i64 x.st) ∧ W.cell? ⟨w.heap.size, 2, none⟩ = some (.int .i64 x.th) ∧ W.cell? ⟨w.heap.size, 3, none⟩ = some (.int .i64 x.sy) ∧ W.cell? ⟨w.heap.size, 4, none⟩ = some (.int .i64 x.br) ∧ W.cell? ⟨w.heap.size, 5, none⟩ = some (.int .i64 x.pa) ∧ W.cell? ⟨w.heap.size, 6, none⟩ = some (.int .i64 x.n) ∧ W.cell? ⟨w.heap.size, 7, none⟩ = some (.int .i64 kk) ∧ W.cell? ⟨w.heap.size, 8, none⟩ = some (.int .i64 nn) ∧ W.cell? ⟨w.heap.size, 9, none⟩ = some (.slice a len cap) ∧ W.cell? ⟨w.heap.size + 1, 0, none⟩ = some (.int .i64 y.k) ∧ W.cell? ⟨w.heap.size + 1, 1, none⟩ = some (.int .i64 y.st) ∧ W.cell? ⟨w.heap.size + 1, 2, none⟩ = some (.int .i64 y.th) ∧ W.cell? ⟨w.heap.size + 1, 3, none⟩ = some (.int .i64 y.sy) ∧ W.cell? ⟨w.heap.size + 1, 4, none⟩ = some (.int .i64 y.br) ∧ W.cell? ⟨w.heap.size + 1, 5, none⟩ = some (.int .i64 y.pa) ∧ W.cell? ⟨w.heap.size + 1, 6, none⟩ = some (.int .i64 y.n) ∧ W.cell? ⟨w.heap.size + 1, 7, none⟩ = some (.int .i64 kk') ∧ W.cell? ⟨w.heap.size + 1, 8, none⟩ = some (.int .i64 nn') ∧ W.cell? ⟨w.heap.size + 1, 9, none⟩ = some (.slice a' len' cap') := by
 have h1 := h.e1
 have h2 := h.e2
 unfold evC at h1 h2
 refine ⟨h, ?_⟩
 simp [World.cell?, h1, h2]
theorem TwE.step {w W W' : World} {x y : Ev} {kk nn kk' nn' : Int} {a a' : Option Addr} {len cap len' cap' : Nat} {R : Prop} (hb : Below W.heap.size W W') (h : TwE w W x y kk nn kk' nn' a a' len cap len' cap' ∧ R) : TwE w W' x y kk nn kk' nn' a a' len cap len' cap' ∧ W'.cell? ⟨w.heap.size, 0, none⟩ = some (.int .i64 x.k) ∧ W'.cell? ⟨w.heap.size, 1, none⟩ = some (.int .i64 x.st) ∧ W'.cell? ⟨w.heap.size, 2, none⟩ = some (.int .i64 x.th) ∧ W'.cell? ⟨w.heap.size, 3, none⟩ = some (.int .i64 x.sy) ∧ W'.cell? ⟨w.heap.size, 4, none⟩ = some (.int .i64 x.br) ∧ W'.cell? ⟨w.heap.size, 5, none⟩ = some (.int .i64 x.pa) ∧ W'.cell? ⟨w.heap.size, 6, none⟩ = some (.int .i64 x.n) ∧ W'.cell? ⟨w.heap.size, 7, none⟩ = some (.int .i64 kk) ∧ W'.cell? ⟨w.heap.size, 8, none⟩ = some (.int .i64 nn) ∧ W'.cell? ⟨w.heap.size, 9, none⟩ = some (.slice a len cap) ∧ W'.cell? ⟨w.heap.size + 1, 0, none⟩ = some (.int .i64 y.k) ∧ W'.cell? ⟨w.heap.size + 1, 1, none⟩ = some (.int .i64 y.st) ∧ W'.cell? ⟨w.heap.size + 1, 2, none⟩ = some (.int .i64 y.th) ∧ W'.cell? ⟨w.heap.size + 1, 3, none⟩ = some (.int .i64 y.sy) ∧ W'.cell? ⟨w.heap.size + 1, 4, none⟩ = some (.int .i64 y.br) ∧ W'.cell? ⟨w.heap.size + 1, 5, none⟩ = some (.int .i64 y.pa) ∧ W'.cell? ⟨w.heap.size + 1, 6, none⟩ = some (.int .i64 y.n) ∧ W'.cell? ⟨w.heap.size + 1, 7, none⟩ = some (.int .i64 kk') ∧ W'.cell? ⟨w.heap.size + 1, 8, none⟩ = some (.int .i64 nn') ∧ W'.cell? ⟨w.heap.size + 1, 9, none⟩ = some (.slice a' len' cap') := (h.1.below hb).held
theorem TwE.fst {w W : World} {x y : Ev} {kk nn kk' nn' : Int} {a a' : Option Addr} {len cap len' cap' : Nat} {R : Prop} (h : TwE w W x y kk nn kk' nn' a a' len cap len' cap' ∧ R) : Below w.heap.size w W := h.1.b
theorem eql_int (x y : Int) (w : World) : (binOp .eql 3 (.int .i64 x) (.int .i64 y)).run Tryz.prog w = .ok (.bool (x == y)) w := by
 have u3 := Tryz.underlying3
 go_simp
theorem twe_new {w : World} {x y : Ev} {kk nn kk' nn' : Int} {a a' : Option Addr} {len cap len' cap' : Nat} : TwE w ((w.alloc (.cells (evC x kk nn a len cap) 29)).alloc (.cells (evC y kk' nn' a' len' cap') 29)) x y kk nn kk' nn' a a' len cap len' cap' := by
 have s1 : (w.alloc (.cells (evC x kk nn a len cap) 29)).heap.size = w.heap.size + 1 := by simp
 refine ⟨(below_alloc _ _).trans ((below_alloc _ _).mono (by simp)), ?_, ?_⟩
 ·rw [Below.heap_alloc _ _ _ (by simp)]
  exact heap_alloc_new _ _
 ·have := heap_alloc_new (w.alloc (.cells (evC x kk nn a len cap) 29)) (.cells (evC y kk' nn' a' len' cap') 29)
  rwa [s1] at this
set_option maxRecDepth 100000 in
set_option maxHeartbeats 8000000 in
/-- The reference's Same where two events read alike. -/
theorem rSameE_self (x : Ev) (v v' : Value) (w : World) (hx : IsE (· < w.heap.size) w x v) (hy : IsE (· < w.heap.size) w x v') (hnd : nd x.v ≤ 2000000) :
  Calls Tryz.prog 11 #[v, v'] w fun e w' => e = .returned (.bool (sameV x.v x.v)) ∧ Below w.heap.size w w' := by
 obtain ⟨kk, nn, a, len, cap, rfl, hv, -⟩ := hx
 obtain ⟨kk', nn', a', len', cap', rfl, hv', -⟩ := hy
 have h2 := twe_new (w := w) (x := x) (y := x) (kk := kk) (nn := nn) (kk' := kk') (nn' := nn') (a := a) (a' := a') (len := len) (cap := cap) (len' := len') (cap' := cap')
 have hq := fun W => (eql_nums x x W).trans (by rw [nums_self x])
 unfold numsE at hq
 have q0 : ∀ W, (binOp .eql 3 (.int .i64 x.k) (.int .i64 x.k)).run Tryz.prog W = .ok (.bool true) W := fun W => (eql_int _ _ W).trans (by simp)
 have q1 : ∀ W, (binOp .eql 3 (.int .i64 x.st) (.int .i64 x.st)).run Tryz.prog W = .ok (.bool true) W := fun W => (eql_int _ _ W).trans (by simp)
 have q2 : ∀ W, (binOp .eql 3 (.int .i64 x.th) (.int .i64 x.th)).run Tryz.prog W = .ok (.bool true) W := fun W => (eql_int _ _ W).trans (by simp)
 have HSM : Hid (∀ W : World, Below w.heap.size w W → Calls Tryz.prog 42 #[.agg #[.int .i64 kk, .int .i64 nn, .slice a len cap], .agg #[.int .i64 kk', .int .i64 nn', .slice a' len' cap']] W fun e w' => e = .returned (.bool (sameV x.v x.v)) ∧ Below W.heap.size W w') := by
  intro W hb
  exact rSame_any _ _ _ _ _ (hv.later hb) (hv'.later hb) hnd hnd
 unfold evC at h2 ⊢
 clear hv hv' hnd
 go_enter Tryz.func11, Tryz.ntmps11
 go_upto_region 1 with fail
 generalize (w.alloc (.cells #[.int .i64 x.k, .int .i64 x.st, .int .i64 x.th, .int .i64 x.sy, .int .i64 x.br, .int .i64 x.pa, .int .i64 x.n, .int .i64 kk, .int .i64 nn, .slice a len cap] 29)).alloc (.cells #[.int .i64 x.k, .int .i64 x.st, .int .i64 x.th, .int .i64 x.sy, .int .i64 x.br, .int .i64 x.pa, .int .i64 x.n, .int .i64 kk', .int .i64 nn', .slice a' len' cap'] 29) = W0 at *
 have hh := (h2.below (W' := W0.drew) ⟨rfl, rfl, rfl, Nat.le_refl _, fun _ _ => rfl⟩).held
 go_region_held3 (fun w' => TwE w w' x x kk nn kk' nn' a a' len cap len' cap' ∧ w'.cell? ⟨w.heap.size, 0, none⟩ = some (.int .i64 x.k) ∧ w'.cell? ⟨w.heap.size, 1, none⟩ = some (.int .i64 x.st) ∧ w'.cell? ⟨w.heap.size, 2, none⟩ = some (.int .i64 x.th) ∧ w'.cell? ⟨w.heap.size, 3, none⟩ = some (.int .i64 x.sy) ∧ w'.cell? ⟨w.heap.size, 4, none⟩ = some (.int .i64 x.br) ∧ w'.cell? ⟨w.heap.size, 5, none⟩ = some (.int .i64 x.pa) ∧ w'.cell? ⟨w.heap.size, 6, none⟩ = some (.int .i64 x.n) ∧ w'.cell? ⟨w.heap.size, 7, none⟩ = some (.int .i64 kk) ∧ w'.cell? ⟨w.heap.size, 8, none⟩ = some (.int .i64 nn) ∧ w'.cell? ⟨w.heap.size, 9, none⟩ = some (.slice a len cap) ∧ w'.cell? ⟨w.heap.size + 1, 0, none⟩ = some (.int .i64 x.k) ∧ w'.cell? ⟨w.heap.size + 1, 1, none⟩ = some (.int .i64 x.st) ∧ w'.cell? ⟨w.heap.size + 1, 2, none⟩ = some (.int .i64 x.th) ∧ w'.cell? ⟨w.heap.size + 1, 3, none⟩ = some (.int .i64 x.sy) ∧ w'.cell? ⟨w.heap.size + 1, 4, none⟩ = some (.int .i64 x.br) ∧ w'.cell? ⟨w.heap.size + 1, 5, none⟩ = some (.int .i64 x.pa) ∧ w'.cell? ⟨w.heap.size + 1, 6, none⟩ = some (.int .i64 x.n) ∧ w'.cell? ⟨w.heap.size + 1, 7, none⟩ = some (.int .i64 kk') ∧ w'.cell? ⟨w.heap.size + 1, 8, none⟩ = some (.int .i64 nn') ∧ w'.cell? ⟨w.heap.size + 1, 9, none⟩ = some (.slice a' len' cap')) (first | assumption | exact hh) (first | (go_at_call 41; ((with_reducible refine (rnumbers_any _ _ _ _ _ _ _ _ _ _ _ _ _).mono ?_); rintro e w4 ⟨rfl, hb4⟩; have hk := TwE.step hb4 (by assumption))) | (go_at_call 42; refine (HSM.out _ (TwE.fst (by assumption))).mono ?_; rintro e w4 ⟨rfl, hb4⟩; have hk := TwE.step hb4 (by assumption)))
 go_wp2_with fail
 go_ret
 exact ⟨rfl, TwE.fst (by assumption)⟩
end Go.Proofs.YtjldbbcdhdfliaaGreatDoor
/-
 Walks over the reference of layer 23: Events, at two readings of the same list. Printed by gen_uh.py.
-/
namespace Go.Proofs.YtjldbbcdhdfliaaGreatDoor
open Go.RowKit Go.Sort

theorem isE_regrown {x : Ev} {v : Value} {w : World} (h : IsE (· < w.heap.size) w x v) (d : Nat) (os : Array Obj) : IsE (· < (grow (redrawn w d) os).heap.size) (grow (redrawn w d) os) x v := h.later (below_regrown w d os)
theorem rsame_self (x : Ev) (v v' : Value) (w : World) (hx : IsE (· < w.heap.size) w x v) (hy : IsE (· < w.heap.size) w x v') (hnd : nd x.v ≤ 256) : Calls Tryz.prog 11 #[v, v'] w fun e w' => e = .returned (.bool true) ∧ Below w.heap.size w w' := by
 have h := rSameE_self x v v' w hx hy (by omega)
 have e : sameV x.v x.v = true := same_refl hnd
 rw [e] at h
 exact h
set_option maxRecDepth 100000 in
set_option maxHeartbeats 4000000 in
theorem rEvents_any (l : List Ev) (hl : l.length ≤ 1000000) (b1 b2 : Option Addr) (cap1 cap2 : Nat) (w : World) (hE1 : IsEs (· < w.heap.size) w l b1) (hE2 : IsEs (· < w.heap.size) w l b2) (hnd : ∀ x ∈ l, nd x.v ≤ 256) :
  Calls Tryz.prog 23 #[.slice b1 l.length cap1, .slice b2 l.length cap2] w fun e w' => e = .returned (.bool true) ∧ Below w.heap.size w w' := by
 obtain ⟨n, hn⟩ : ∃ n, l.length = n := ⟨_, rfl⟩
 have HN := Lib.hid hn
 rw [hn] at hl ⊢
 clear hn
 have HE1 := Lib.hid hE1
 have HE2 := Lib.hid hE2
 have HND := Lib.hid hnd
 clear hE1 hE2 hnd
 have hnn : ((n : Int) != (n : Int)) = false := by simp
 go_enter Tryz.func23, Tryz.ntmps23
 go_wp2_with fail
 go_loopw [5] (fun i wr => ∃ j : Nat, i = .int .i64 (j : Nat) ∧ j ≤ n ∧ Below w.heap.size w wr) (fun i _ => n - (intOf i).toNat)
 case atStart => exact ⟨0, rfl, Nat.zero_le _, Below.refl _ _⟩
 case round =>
  obtain ⟨j, rfl, hj, hb⟩ := hrel
  by_cases hlt : j < n
  ·have hd1 : decide (j < n) = true := by simpa using hlt
   have hlt2 : (j : Int) < (n : Int) := by omega
   obtain ⟨x, hx⟩ : ∃ x, l[j]? = some x := ⟨l[j]'(by have := HN.out; omega), List.getElem?_eq_getElem _⟩
   have hndx := HND.out x (List.mem_of_getElem? hx)
   obtain ⟨g1, o1, kk1, nn1, a1, len1, cap1', ha1, hg1, hc1, hv1, hr1⟩ := HE1.out j x hx
   obtain ⟨g2, o2, kk2, nn2, a2, len2, cap2', ha2, hg2, hc2, hv2, hr2⟩ := HE2.out j x hx
   subst ha1 ha2
   have hi1 : IsE (· < wr.heap.size) wr x (.agg #[.int .i64 x.k, .int .i64 x.st, .int .i64 x.th, .int .i64 x.sy, .int .i64 x.br, .int .i64 x.pa, .int .i64 x.n, .int .i64 kk1, .int .i64 nn1, .slice a1 len1 cap1']) := IsE.more (w := wr) ⟨kk1, nn1, a1, len1, cap1', rfl, hv1.below hb, hr1⟩ fun g hg => Nat.lt_of_lt_of_le hg hb.size
   have hi2 : IsE (· < wr.heap.size) wr x (.agg #[.int .i64 x.k, .int .i64 x.st, .int .i64 x.th, .int .i64 x.sy, .int .i64 x.br, .int .i64 x.pa, .int .i64 x.n, .int .i64 kk2, .int .i64 nn2, .slice a2 len2 cap2']) := IsE.more (w := wr) ⟨kk2, nn2, a2, len2, cap2', rfl, hv2.below hb, hr2⟩ fun g hg => Nat.lt_of_lt_of_le hg hb.size
   have p0 := fun d os => cell_regrown (show wr.cell? ⟨g1, o1 + j * 10, none⟩ = some (.int .i64 x.k) from (hb.cell (p := ⟨g1, o1 + j * 10, none⟩) hg1).trans (hc1 0 (.int .i64 x.k) rfl)) d os
   have p1 := fun d os => cell_regrown (show wr.cell? ⟨g1, o1 + j * 10 + 1, none⟩ = some (.int .i64 x.st) from (hb.cell (p := ⟨g1, o1 + j * 10 + 1, none⟩) hg1).trans (hc1 1 (.int .i64 x.st) rfl)) d os
   have p2 := fun d os => cell_regrown (show wr.cell? ⟨g1, o1 + j * 10 + 2, none⟩ = some (.int .i64 x.th) from (hb.cell (p := ⟨g1, o1 + j * 10 + 2, none⟩) hg1).trans (hc1 2 (.int .i64 x.th) rfl)) d os
   have p3 := fun d os => cell_regrown (show wr.cell? ⟨g1, o1 + j * 10 + 3, none⟩ = some (.int .i64 x.sy) from (hb.cell (p := ⟨g1, o1 + j * 10 + 3, none⟩) hg1).trans (hc1 3 (.int .i64 x.sy) rfl)) d os
   have p4 := fun d os => cell_regrown (show wr.cell? ⟨g1, o1 + j * 10 + 4, none⟩ = some (.int .i64 x.br) from (hb.cell (p := ⟨g1, o1 + j * 10 + 4, none⟩) hg1).trans (hc1 4 (.int .i64 x.br) rfl)) d os
   have p5 := fun d os => cell_regrown (show wr.cell? ⟨g1, o1 + j * 10 + 5, none⟩ = some (.int .i64 x.pa) from (hb.cell (p := ⟨g1, o1 + j * 10 + 5, none⟩) hg1).trans (hc1 5 (.int .i64 x.pa) rfl)) d os
   have p6 := fun d os => cell_regrown (show wr.cell? ⟨g1, o1 + j * 10 + 6, none⟩ = some (.int .i64 x.n) from (hb.cell (p := ⟨g1, o1 + j * 10 + 6, none⟩) hg1).trans (hc1 6 (.int .i64 x.n) rfl)) d os
   have p7 := fun d os => cell_regrown (show wr.cell? ⟨g1, o1 + j * 10 + 7, none⟩ = some (.int .i64 kk1) from (hb.cell (p := ⟨g1, o1 + j * 10 + 7, none⟩) hg1).trans (hc1 7 (.int .i64 kk1) rfl)) d os
   have p8 := fun d os => cell_regrown (show wr.cell? ⟨g1, o1 + j * 10 + 8, none⟩ = some (.int .i64 nn1) from (hb.cell (p := ⟨g1, o1 + j * 10 + 8, none⟩) hg1).trans (hc1 8 (.int .i64 nn1) rfl)) d os
   have p9 := fun d os => cell_regrown (show wr.cell? ⟨g1, o1 + j * 10 + 9, none⟩ = some (.slice a1 len1 cap1') from (hb.cell (p := ⟨g1, o1 + j * 10 + 9, none⟩) hg1).trans (hc1 9 (.slice a1 len1 cap1') rfl)) d os
   have q0 := fun d os => cell_regrown (show wr.cell? ⟨g2, o2 + j * 10, none⟩ = some (.int .i64 x.k) from (hb.cell (p := ⟨g2, o2 + j * 10, none⟩) hg2).trans (hc2 0 (.int .i64 x.k) rfl)) d os
   have q1 := fun d os => cell_regrown (show wr.cell? ⟨g2, o2 + j * 10 + 1, none⟩ = some (.int .i64 x.st) from (hb.cell (p := ⟨g2, o2 + j * 10 + 1, none⟩) hg2).trans (hc2 1 (.int .i64 x.st) rfl)) d os
   have q2 := fun d os => cell_regrown (show wr.cell? ⟨g2, o2 + j * 10 + 2, none⟩ = some (.int .i64 x.th) from (hb.cell (p := ⟨g2, o2 + j * 10 + 2, none⟩) hg2).trans (hc2 2 (.int .i64 x.th) rfl)) d os
   have q3 := fun d os => cell_regrown (show wr.cell? ⟨g2, o2 + j * 10 + 3, none⟩ = some (.int .i64 x.sy) from (hb.cell (p := ⟨g2, o2 + j * 10 + 3, none⟩) hg2).trans (hc2 3 (.int .i64 x.sy) rfl)) d os
   have q4 := fun d os => cell_regrown (show wr.cell? ⟨g2, o2 + j * 10 + 4, none⟩ = some (.int .i64 x.br) from (hb.cell (p := ⟨g2, o2 + j * 10 + 4, none⟩) hg2).trans (hc2 4 (.int .i64 x.br) rfl)) d os
   have q5 := fun d os => cell_regrown (show wr.cell? ⟨g2, o2 + j * 10 + 5, none⟩ = some (.int .i64 x.pa) from (hb.cell (p := ⟨g2, o2 + j * 10 + 5, none⟩) hg2).trans (hc2 5 (.int .i64 x.pa) rfl)) d os
   have q6 := fun d os => cell_regrown (show wr.cell? ⟨g2, o2 + j * 10 + 6, none⟩ = some (.int .i64 x.n) from (hb.cell (p := ⟨g2, o2 + j * 10 + 6, none⟩) hg2).trans (hc2 6 (.int .i64 x.n) rfl)) d os
   have q7 := fun d os => cell_regrown (show wr.cell? ⟨g2, o2 + j * 10 + 7, none⟩ = some (.int .i64 kk2) from (hb.cell (p := ⟨g2, o2 + j * 10 + 7, none⟩) hg2).trans (hc2 7 (.int .i64 kk2) rfl)) d os
   have q8 := fun d os => cell_regrown (show wr.cell? ⟨g2, o2 + j * 10 + 8, none⟩ = some (.int .i64 nn2) from (hb.cell (p := ⟨g2, o2 + j * 10 + 8, none⟩) hg2).trans (hc2 8 (.int .i64 nn2) rfl)) d os
   have q9 := fun d os => cell_regrown (show wr.cell? ⟨g2, o2 + j * 10 + 9, none⟩ = some (.slice a2 len2 cap2') from (hb.cell (p := ⟨g2, o2 + j * 10 + 9, none⟩) hg2).trans (hc2 9 (.slice a2 len2 cap2') rfl)) d os
   have cS : ∀ d os, Calls Tryz.prog 11 #[.agg #[.int .i64 x.k, .int .i64 x.st, .int .i64 x.th, .int .i64 x.sy, .int .i64 x.br, .int .i64 x.pa, .int .i64 x.n, .int .i64 kk1, .int .i64 nn1, .slice a1 len1 cap1'], .agg #[.int .i64 x.k, .int .i64 x.st, .int .i64 x.th, .int .i64 x.sy, .int .i64 x.br, .int .i64 x.pa, .int .i64 x.n, .int .i64 kk2, .int .i64 nn2, .slice a2 len2 cap2']] (grow (redrawn wr d) os) fun e w'' => e = .returned (.bool true) ∧ ∃ p : Regrown, w'' = grow (redrawn wr p.d) p.os := fun d os => Calls.regrown_of (rsame_self x _ _ _ (isE_regrown hi1 d os) (isE_regrown hi2 d os) hndx)
   clear hc1 hc2 hv1 hv2 hr1 hr2 hi1 hi2 hx hndx
   go_upto_region 6 with fail
   refine wp_region_quiet_below (by kernel_rfl) (by kernel_rfl) ?_
   repeat (go_big_quiet_step (exact cS _ _))
   refine wpQuiet_nil ?_
   intro _ hw'
   obtain ⟨⟨dq, osq⟩, hw''⟩ := hw'
   subst hw''
   have hb3 := below_regrown wr dq osq
   have hb4 := hb.trans (hb3.mono hb.size)
   clear p0 p1 p2 p3 p4 p5 p6 p7 p8 p9 q0 q1 q2 q3 q4 q5 q6 q7 q8 q9 cS hb3
   generalize grow (redrawn wr dq) osq = w3 at *
   go_wp2_with fail
   go_roundw
   case rel => first | exact ⟨j + 1, by go_num, by omega, hb4⟩ | ((repeat apply Exists.intro); exact ⟨⟨j + 1, by go_num, by omega, hb4⟩, rfl⟩)
   case measure => simp [intOf]; omega
  ·have hd1 : decide (j < n) = false := by simpa using hlt
   go_wp2_with fail
   go_ret
   exact ⟨rfl, hb⟩
end Go.Proofs.YtjldbbcdhdfliaaGreatDoor
