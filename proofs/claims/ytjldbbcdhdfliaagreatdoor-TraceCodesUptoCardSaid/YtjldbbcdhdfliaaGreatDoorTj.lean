/-
 Walks over package trace: parse.
-/
import Derived.Test.YtjldbbcdhdfliaaGreatDoorTi
import Derived.Test.YtjldbbcdhdfliaaGreatDoorAppM
import Derived.StillTailTactics
namespace Go.Proofs.YtjldbbcdhdfliaaGreatDoor
open Go.RowKit Go.Sort

theorem list_cons4 {us : List Value} {n : Nat} (h : us.length = n + 1) : ∃ x r, us = x :: r ∧ r.length = n := by
 match us, h with
 | x :: r, h => exact ⟨x, r, rfl, by simpa using h⟩
theorem held5 {b mb pb xb : Nat} {ps : List ByteArray} {k n0 n1 : Nat} {w W : World} (h : PS b mb pb ps w W ∧ W.heap[xb]? = some (.cells #[.int .i64 (k : Nat), .int .i64 (n0 : Nat), .int .i64 (n1 : Nat), .int .i64 0, .int .i64 0, .int .i64 0, .int .i64 0, .int .i64 0, .int .i64 0, .slice none 0 0] 29 (0, 0))) :
  (PS b mb pb ps w W ∧ W.heap[xb]? = some (.cells #[.int .i64 (k : Nat), .int .i64 (n0 : Nat), .int .i64 (n1 : Nat), .int .i64 0, .int .i64 0, .int .i64 0, .int .i64 0, .int .i64 0, .int .i64 0, .slice none 0 0] 29 (0, 0))) ∧ W.cell? ⟨xb, 0, none⟩ = some (.int .i64 (k : Nat)) :=
 ⟨h, by simp [World.cell?, h.2]⟩
theorem kind_le {s : ByteArray} {k : Nat} (h : kindE s = some k) : k ≤ 9223372036854775807 := by
 have key : ∀ (f j k : Nat), kEGo s f j = some k → k < j + f := by
  intro f
  induction f with
  | zero => intro j k h; rw [kEGo] at h; cases h
  | succ f ih =>
   intro j k h
   rw [kEGo] at h
   split at h
   ·injection h with h
    omega
   ·have := ih _ _ h
    omega
 have := key _ _ _ h
 omega
def zeroC : Array Value := #[.int .i64 0, .int .i64 0, .int .i64 0, .int .i64 0, .int .i64 0, .int .i64 0, .int .i64 0, .int .i64 0, .int .i64 0, .slice none 0 0]
/-- A block that holds an event. -/
def BE (w : World) (g : Nat) (cs : Array Value) : Prop := w.heap[g]? = some (.cells cs 29 (0, 0))
section
variable {w w' : World} {g : Nat} {cs : Array Value}
theorem BE.lt (h : BE w g cs) : g < w.heap.size := lt_of_heap h
theorem BE.fz (h : BE w g cs) (o : Nat) : w.frozen? ⟨g, o, none⟩ = false := by unfold BE at h; simp [World.frozen?, h]
theorem BE.belowAll (h : BE w g cs) (hb : Below w.heap.size w w') : BE w' g cs := (hb.block g h.lt).trans h
theorem BE.gr {b : Nat} (h : BE w g cs) (hb : Gr b w w') (hg : g ≠ b) : BE w' g cs := (hb.block g h.lt (fun e => hg (by injection e))).trans h
theorem BE.far (h : BE w g cs) {q : Addr} (hq : g ≠ q.block) (u : Value) : BE (w.setCell q u) g cs := (Below.heap_setCell w q u g hq).trans h
theorem BE.alloc (h : BE w g cs) (o : Obj) : BE (w.alloc o) g cs := (Below.heap_alloc w o g h.lt).trans h
end
section
variable {w : World} {g : Nat} {c0 c1 c2 c3 c4 c5 c6 c7 c8 c9 : Value}
theorem BE.c (h : BE w g #[c0, c1, c2, c3, c4, c5, c6, c7, c8, c9]) : w.cell? ⟨g, 0, none⟩ = some c0 ∧ w.cell? ⟨g, 1, none⟩ = some c1 ∧ w.cell? ⟨g, 2, none⟩ = some c2 ∧ w.cell? ⟨g, 3, none⟩ = some c3 ∧ w.cell? ⟨g, 4, none⟩ = some c4 ∧ w.cell? ⟨g, 5, none⟩ = some c5 ∧ w.cell? ⟨g, 6, none⟩ = some c6 ∧ w.cell? ⟨g, 7, none⟩ = some c7 ∧ w.cell? ⟨g, 8, none⟩ = some c8 ∧ w.cell? ⟨g, 9, none⟩ = some c9 := by
 unfold BE at h
 simp [World.cell?, h]
/-- An event is stored. -/
def put10 (w : World) (g : Nat) (v0 v1 v2 v3 v4 v5 v6 v7 v8 v9 : Value) : World := ((((((((((w.setCell ⟨g, 0, none⟩ v0).setCell ⟨g, 1, none⟩ v1).setCell ⟨g, 2, none⟩ v2).setCell ⟨g, 3, none⟩ v3).setCell ⟨g, 4, none⟩ v4).setCell ⟨g, 5, none⟩ v5).setCell ⟨g, 6, none⟩ v6).setCell ⟨g, 7, none⟩ v7).setCell ⟨g, 8, none⟩ v8).setCell ⟨g, 9, none⟩ v9)
theorem BE.put (h : BE w g #[c0, c1, c2, c3, c4, c5, c6, c7, c8, c9]) (v0 v1 v2 v3 v4 v5 v6 v7 v8 v9 : Value) : BE (put10 w g v0 v1 v2 v3 v4 v5 v6 v7 v8 v9) g #[v0, v1, v2, v3, v4, v5, v6, v7, v8, v9] := set10 h v0 v1 v2 v3 v4 v5 v6 v7 v8 v9
theorem put10_block {j : Nat} (hj : j ≠ g) (v0 v1 v2 v3 v4 v5 v6 v7 v8 v9 : Value) : (put10 w g v0 v1 v2 v3 v4 v5 v6 v7 v8 v9).heap[j]? = w.heap[j]? := by
 unfold put10
 simp only [Below.heap_setCell _ ⟨g, _, none⟩ _ j hj]
theorem put10_size (v0 v1 v2 v3 v4 v5 v6 v7 v8 v9 : Value) : (put10 w g v0 v1 v2 v3 v4 v5 v6 v7 v8 v9).heap.size = w.heap.size := by
 unfold put10
 simp [World.setCell]
theorem put10_below {B : Nat} (hB : B ≤ g) (v0 v1 v2 v3 v4 v5 v6 v7 v8 v9 : Value) : Below B w (put10 w g v0 v1 v2 v3 v4 v5 v6 v7 v8 v9) :=
 ((((((((((Below.refl B w).setCell (p := ⟨g, 0, none⟩) hB v0).setCell (p := ⟨g, 1, none⟩) hB v1).setCell (p := ⟨g, 2, none⟩) hB v2).setCell (p := ⟨g, 3, none⟩) hB v3).setCell (p := ⟨g, 4, none⟩) hB v4).setCell (p := ⟨g, 5, none⟩) hB v5).setCell (p := ⟨g, 6, none⟩) hB v6).setCell (p := ⟨g, 7, none⟩) hB v7).setCell (p := ⟨g, 8, none⟩) hB v8).setCell (p := ⟨g, 9, none⟩) hB v9
end
theorem fldP_num {y : Ev} {i : Nat} {P : ByteArray} (h4 : i ≠ 4) (h2 : ¬ (i = 2 ∧ P.toList = [45])) : fldP y i P = match numL P.data.toList with
  | some n => some (setF y i n)
  | none => none := by
 unfold fldP
 rw [if_neg h4, if_neg h2]
 cases numL P.data.toList <;> rfl
-- LEMS
/-- What stands in parse's loop. -/
structure PJ (b mb pb xb : Nat) (ps : List ByteArray) (ra : Option Addr) (rl : List Nat) (w : World) (y : Ev) (kk nn : Int) (a : Option Addr) (len cap : Nat) (W : World) : Prop where
 ps : PS b mb pb ps w W
 ev : W.heap[xb]? = some (.cells #[.int .i64 y.k, .int .i64 y.st, .int .i64 y.th, .int .i64 y.sy, .int .i64 y.br, .int .i64 y.pa, .int .i64 y.n, .int .i64 kk, .int .i64 nn, .slice a len cap] 29 (0, 0))
 rw : RowM W rl (.slice ra rl.length rl.length)
 iv : IsV (fun g => w.heap.size < g ∧ g < W.heap.size ∧ g ≠ xb) W y.v (.agg #[.int .i64 kk, .int .i64 nn, .slice a len cap])
 rg : RngE y
 lx : pb < xb
section
variable {b mb pb xb : Nat} {ps : List ByteArray} {ra : Option Addr} {rl : List Nat} {w W W' : World} {y : Ev} {kk nn : Int} {a : Option Addr} {len cap : Nat}
theorem PJ.xlt (h : PJ b mb pb xb ps ra rl w y kk nn a len cap W) : xb < W.heap.size := lt_of_heap h.ev
theorem PJ.below (h : PJ b mb pb xb ps ra rl w y kk nn a len cap W) (hb : Below W.heap.size W W') : PJ b mb pb xb ps ra rl w y kk nn a len cap W' :=
 ⟨h.ps.below hb, (hb.block _ h.xlt).trans h.ev, h.rw.belowAll hb, (h.iv.keep fun g hg _ => World.cell?_of_block (w := W) (hb.block g hg.2.1)).more fun _ hg => ⟨hg.1, Nat.lt_of_lt_of_le hg.2.1 hb.size, hg.2.2⟩, h.rg, h.lx⟩
theorem PJ.c (h : PJ b mb pb xb ps ra rl w y kk nn a len cap W) : W.cell? ⟨xb, 3, none⟩ = some (.int .i64 y.sy) ∧ W.cell? ⟨xb, 4, none⟩ = some (.int .i64 y.br) ∧ W.cell? ⟨xb, 5, none⟩ = some (.int .i64 y.pa) ∧ W.cell? ⟨xb, 6, none⟩ = some (.int .i64 y.n) ∧ W.cell? ⟨xb, 7, none⟩ = some (.int .i64 kk) ∧ W.cell? ⟨xb, 8, none⟩ = some (.int .i64 nn) ∧ W.cell? ⟨xb, 9, none⟩ = some (.slice a len cap) ∧
  W.cell? ⟨xb, 0, none⟩ = some (.int .i64 y.k) ∧ W.cell? ⟨xb, 1, none⟩ = some (.int .i64 y.st) ∧ W.cell? ⟨xb, 2, none⟩ = some (.int .i64 y.th) := by
 simp [World.cell?, h.ev]
theorem PJ.fz (h : PJ b mb pb xb ps ra rl w y kk nn a len cap W) (o : Nat) : W.frozen? ⟨xb, o, none⟩ = false := by simp [World.frozen?, h.ev]
theorem PJ.rowX (h : PJ b mb pb xb ps ra rl w y kk nn a len cap W) (hne : ∀ g, g ≠ xb → W'.heap[g]? = W.heap[g]?) : RowM W' rl (.slice ra rl.length rl.length) := by
 rcases h.rw with h1 | ⟨h1, g, h2, h3⟩
 ·exact .inl h1
 ·refine .inr ⟨h1, g, h2, (hne g ?_).trans h3⟩
  intro e
  subst e
  rw [h.ev] at h3
  injection h3 with h3
  injection h3 with _ h3 _
  exact absurd h3 (by decide)
theorem PJ.turn {y' : Ev} {kk' nn' : Int} {a' : Option Addr} {len' cap' : Nat} (h : PJ b mb pb xb ps ra rl w y kk nn a len cap W) (hb : Below xb W W') (hsz : W'.heap.size = W.heap.size) (hne : ∀ g, g ≠ xb → W'.heap[g]? = W.heap[g]?)
  (he : W'.heap[xb]? = some (.cells (evC y' kk' nn' a' len' cap') 29 (0, 0))) (hv : IsV (fun g => w.heap.size < g ∧ g < W.heap.size ∧ g ≠ xb) W y'.v (.agg #[.int .i64 kk', .int .i64 nn', .slice a' len' cap'])) (hr : RngE y') : PJ b mb pb xb ps ra rl w y' kk' nn' a' len' cap' W' :=
 ⟨h.ps.belowB hb h.lx, he, h.rowX hne, (hv.keep fun g hg _ => World.cell?_of_block (w := W) (hne g hg.2.2)).more fun _ hg => ⟨hg.1, by rw [hsz]; exact hg.2.1, hg.2.2⟩, hr, h.lx⟩
theorem PJ.set (h : PJ b mb pb xb ps ra rl w y kk nn a len cap W) (i : Nat) (hi : i < 4) (n : Int) (hn : Rng n) : PJ b mb pb xb ps ra rl w (setF y i n) kk nn a len cap (W.setCell ⟨xb, 3 + i, none⟩ (.int .i64 n)) := by
 refine h.turn ((Below.refl xb W).setCell (p := ⟨xb, 3 + i, none⟩) (Nat.le_refl _) _) (by simp [World.setCell]) (fun g hg => Below.heap_setCell _ _ _ _ hg) ?_ ?_ ?_
 ·match i, hi with
  | 0, _ | 1, _ | 2, _ | 3, _ => simp [World.setCell, Array.getElem?_modify, h.ev, evC, setF]
 ·match i, hi with
  | 0, _ | 1, _ | 2, _ | 3, _ => exact h.iv
 ·obtain ⟨r1, r2, r3, r4, r5, r6, r7⟩ := h.rg
  match i, hi with
  | 0, _ => exact ⟨r1, r2, r3, hn, r5, r6, r7⟩
  | 1, _ => exact ⟨r1, r2, r3, r4, hn, r6, r7⟩
  | 2, _ => exact ⟨r1, r2, r3, r4, r5, hn, r7⟩
  | 3, _ => exact ⟨r1, r2, r3, r4, r5, r6, hn⟩
theorem PJ.setV {t : VT} {kk' nn' : Int} {a' : Option Addr} {len' cap' : Nat} (h : PJ b mb pb xb ps ra rl w y kk nn a len cap W) (hv : IsV (fun g => w.heap.size < g ∧ g < W.heap.size ∧ g ≠ xb) W t (.agg #[.int .i64 kk', .int .i64 nn', .slice a' len' cap'])) :
  PJ b mb pb xb ps ra rl w { y with v := t } kk' nn' a' len' cap' (((W.setCell ⟨xb, 7, none⟩ (.int .i64 kk')).setCell ⟨xb, 8, none⟩ (.int .i64 nn')).setCell ⟨xb, 9, none⟩ (.slice a' len' cap')) := by
 refine h.turn ((((Below.refl xb W).setCell (p := ⟨xb, 7, none⟩) (Nat.le_refl _) _).setCell (p := ⟨xb, 8, none⟩) (Nat.le_refl _) _).setCell (p := ⟨xb, 9, none⟩) (Nat.le_refl _) _) (by simp [World.setCell]) (fun g hg => ((Below.heap_setCell _ _ _ _ hg).trans (Below.heap_setCell _ _ _ _ hg)).trans (Below.heap_setCell _ _ _ _ hg)) ?_ hv ?_
 ·simp [World.setCell, Array.getElem?_modify, h.ev, evC]
 ·obtain ⟨r1, r2, r3, r4, r5, r6, r7⟩ := h.rg
  exact ⟨r1, r2, r3, r4, r5, r6, r7⟩
end
theorem rng_nat {n : Nat} (h : n ≤ 9223372036854775807) : Rng (n : Nat) := by unfold Rng; omega
-- SMEL
theorem p4_shape : Shape (ropsOf Tryz.f35 4) P4K P4E := ⟨by kernel_rfl, by kernel_rfl⟩
set_option maxRecDepth 100000 in
set_option maxHeartbeats 8000000 in
theorem tparse_any (b mb : Nat) (s : ByteArray) (hs : s.size ≤ 10000000) (w : World) (hT : TabT w b mb) (hE : EnvT w) : Calls Tryz.prog 35 #[.pointer (some ⟨b, 0, none⟩), .string s] w (PEnds (parseE s) w) := by
 obtain ⟨r, hr⟩ : ∃ r, parseE s = r := ⟨_, rfl⟩
 have HR := Lib.hid hr
 rw [hr]
 clear hr
 have hb1 := below_alloc w (.cells #[.int .i64 0, .int .i64 0, .int .i64 0, .int .i64 0, .int .i64 0, .int .i64 0, .int .i64 0, .int .i64 0, .int .i64 0, .slice none 0 0] 29)
 have hr1 := heap_alloc_new w (.cells #[.int .i64 0, .int .i64 0, .int .i64 0, .int .i64 0, .int .i64 0, .int .i64 0, .int .i64 0, .int .i64 0, .int .i64 0, .slice none 0 0] 29)
 have hE1 := hE.belowAll hb1
 have hT1 := hT.belowAll hb1
 have hsz := parts_size s
 have HSZ := Lib.hid hsz
 clear hsz
 go_enter Tryz.func35, Tryz.ntmps35
 go_wp2_with fail
 refine (split_any s hs _ hE1.env).mono ?_
 rintro e w2 ⟨rfl, rfl⟩
 generalize w.alloc (.cells #[.int .i64 0, .int .i64 0, .int .i64 0, .int .i64 0, .int .i64 0, .int .i64 0, .int .i64 0, .int .i64 0, .int .i64 0, .slice none 0 0] 29) = w1 at *
 obtain ⟨ps, hps⟩ : ∃ ps, partsS s = ps := ⟨_, rfl⟩
 have HPS := Lib.hid hps
 rw [hps]
 clear hps
 have hst2 : PS b mb w1.heap.size ps w (w1.alloc (.cells (ps.map Value.string).toArray 9)) := ⟨hT.lt, hT.m.lt, lt_of_heap hr1, hT1.belowAll (below_alloc _ _), heap_alloc_new _ _, hb1.trans ((below_alloc _ _).mono hb1.size), hE1.belowAll (below_alloc _ _), (Below.heap_alloc _ _ _ (lt_of_heap hr1)).trans hr1, hE.env.size⟩
 have hll : ps.length ≤ 10000001 := by
  rw [← HPS.out, parts_len]
  have := Lib.countB_le ⟨#[32]⟩ (by decide) _ s (Nat.le_refl _)
  omega
 clear hb1 hr1 hE1 hT1
 generalize w1.alloc (.cells (ps.map Value.string).toArray 9) = w2 at *
 generalize w1.heap.size = pb at *
 obtain ⟨np, hnp⟩ : ∃ np, ps.length = np := ⟨_, rfl⟩
 rw [hnp] at hll ⊢
 have HNP := Lib.hid hnp
 by_cases h3 : ps.length < 3
 ·have hd : decide ((np : Int) < 3) = true := by simp; omega
  clear hnp
  have hrn : r = none := by
   rw [← HR.out]
   unfold parseE
   rw [HPS.out]
   match ps, h3 with
   | [], _ => rfl
   | [_], _ => rfl
   | [_, _], _ => rfl
  subst hrn
  go_wp2_with fail
  refine (raise_any _).mono ?_
  rintro e w3 ⟨rfl, rfl⟩
  exact ⟨rfl, rfl, hst2.bb⟩
 ·have hd : decide ((np : Int) < 3) = false := by simp; omega
  have i0 : 0 < np := by omega
  have i1 : 1 < np := by omega
  have i2 : 2 < np := by omega
  have j1 : (1 : Int) < (np : Int) := by omega
  have j2 : (2 : Int) < (np : Int) := by omega
  clear hnp
  obtain ⟨p0, p1, p2, rest, rfl⟩ : ∃ p0 p1 p2 rest, ps = p0 :: p1 :: p2 :: rest := by
   match ps, h3 with
   | a :: b :: c :: r, _ => exact ⟨a, b, c, r, rfl⟩
   | [], h => exact absurd (by simp) h
   | [_], h => exact absurd (by simp) h
   | [_, _], h => exact absurd (by simp) h
  have hz0 := HSZ.out p0 (by rw [HPS.out]; simp)
  have hz1 := HSZ.out p1 (by rw [HPS.out]; simp)
  go_upto_region 4 with fail
  obtain ⟨n0, hn0⟩ : ∃ n0, (numL p0.data.toList).getD 0 = n0 := ⟨_, rfl⟩
  obtain ⟨n1, hn1⟩ : ∃ n1, (numL p1.data.toList).getD 0 = n1 := ⟨_, rfl⟩
  obtain ⟨k, hk⟩ : ∃ k, (kindE p2).getD 0 = k := ⟨_, rfl⟩
  have E0 := Lib.hid hn0
  have E1 := Lib.hid hn1
  have E2 := Lib.hid hk
  clear hn0 hn1 hk
  refine p4_region (b := b) (mb := mb) (pb := pb) (np := np) (p0 := p0) (p1 := p1) (p2 := p2) (n0 := n0) (n1 := n1) (k := k) (rest := rest) (w := w) p4_shape (by simp) rfl rfl (by omega) (by omega) (by omega) (fun n h => by have := E0.out; rw [h] at this; exact this) (fun n h => by have := E1.out; rw [h] at this; exact this) (fun n h => by have := E2.out; rw [h] at this; exact this) hst2 ?_ ?_
  ·intro a3 w3 xb hU h6 hxb g0 g1 g2 hst3 hx3
   obtain ⟨us, hus, rfl⟩ := hU.list (by simp)
   obtain ⟨x0, us0, e0, hus0⟩ := list_cons4 hus
   subst e0
   obtain ⟨x1, us1, e1, hus1⟩ := list_cons4 hus0
   subst e1
   obtain ⟨x2, us2, e2, hus2⟩ := list_cons4 hus1
   subst e2
   obtain ⟨x3, us3, e3, hus3⟩ := list_cons4 hus2
   subst e3
   obtain ⟨x4, us4, e4, hus4⟩ := list_cons4 hus3
   subst e4
   obtain ⟨x5, us5, e5, hus5⟩ := list_cons4 hus4
   subst e5
   obtain ⟨x6, us6, e6, hus6⟩ := list_cons4 hus5
   subst e6
   obtain ⟨x7, us7, e7, hus7⟩ := list_cons4 hus6
   subst e7
   obtain ⟨x8, us8, e8, hus8⟩ := list_cons4 hus7
   subst e8
   obtain ⟨x9, us9, e9, hus9⟩ := list_cons4 hus8
   subst e9
   obtain ⟨x10, us10, e10, hus10⟩ := list_cons4 hus9
   subst e10
   obtain ⟨x11, us11, e11, hus11⟩ := list_cons4 hus10
   subst e11
   obtain ⟨x12, us12, e12, hus12⟩ := list_cons4 hus11
   subst e12
   obtain ⟨x13, us13, e13, hus13⟩ := list_cons4 hus12
   subst e13
   obtain ⟨x14, us14, e14, hus14⟩ := list_cons4 hus13
   subst e14
   obtain ⟨x15, us15, e15, hus15⟩ := list_cons4 hus14
   subst e15
   obtain ⟨x16, us16, e16, hus16⟩ := list_cons4 hus15
   subst e16
   obtain ⟨x17, us17, e17, hus17⟩ := list_cons4 hus16
   subst e17
   obtain ⟨x18, us18, e18, hus18⟩ := list_cons4 hus17
   subst e18
   obtain ⟨x19, us19, e19, hus19⟩ := list_cons4 hus18
   subst e19
   obtain ⟨x20, us20, e20, hus20⟩ := list_cons4 hus19
   subst e20
   obtain ⟨x21, us21, e21, hus21⟩ := list_cons4 hus20
   subst e21
   obtain ⟨x22, us22, e22, hus22⟩ := list_cons4 hus21
   subst e22
   obtain ⟨x23, us23, e23, hus23⟩ := list_cons4 hus22
   subst e23
   obtain ⟨x24, us24, e24, hus24⟩ := list_cons4 hus23
   subst e24
   obtain ⟨x25, us25, e25, hus25⟩ := list_cons4 hus24
   subst e25
   obtain ⟨x26, us26, e26, hus26⟩ := list_cons4 hus25
   subst e26
   obtain ⟨x27, us27, e27, hus27⟩ := list_cons4 hus26
   subst e27
   obtain ⟨x28, us28, e28, hus28⟩ := list_cons4 hus27
   subst e28
   have en := List.eq_nil_of_length_eq_zero hus28
   subst en
   have h60 : x0 = .pointer (some ⟨xb, 0, none⟩) := h6
   subst h60
   have G0 := Lib.hid g0
   have G1 := Lib.hid g1
   have G2 := Lib.hid g2
   clear hU h6 hus g0 g1 g2 hst2 E0 E1 E2
   simp only [List.take_succ_cons, List.take_zero, List.drop_succ_cons, List.drop_zero, List.cons_append, List.nil_append]
   clear hus0 hus1 hus2 hus3 hus4 hus5 hus6 hus7 hus8 hus9 hus10 hus11 hus12 hus13 hus14 hus15 hus16 hus17 hus18 hus19 hus20 hus21 hus22 hus23 hus24 hus25 hus26 hus27 hus28
   go_upto_region 5 with fail
   have c0 : w3.cell? ⟨xb, 0, none⟩ = some (.int .i64 (k : Nat)) := by simp [World.cell?, hx3]
   have j3 : (3 : Int) ≤ (np : Int) := by omega
   have i3 : 3 ≤ np := by omega
   have HRL := Lib.hid (row_lt (k : Int))
   have hll5 := row_len (k : Int)
   obtain ⟨rl, hrl⟩ : ∃ rl, rowE (k : Int) = rl := ⟨_, rfl⟩
   have HRW := Lib.hid hrl
   rw [hrl] at hll5
   obtain ⟨nr, hnr⟩ : ∃ nr, np - 3 = nr := ⟨_, rfl⟩
   have HNR := Lib.hid hnr
   go_cut [7, 8] from 21 to 106 (fun s7 s8 wx => ∃ (o7 : Nat) (rv : Value), s7 = .slice (some ⟨pb, o7, none⟩) nr nr ∧ s8 = rv ∧ (0 < nr → o7 = 3) ∧ RowM wx rl rv ∧ PS b mb pb (p0 :: p1 :: p2 :: rest) w wx ∧ wx.heap[xb]? = some (.cells #[.int .i64 (k : Nat), .int .i64 (n0 : Nat), .int .i64 (n1 : Nat), .int .i64 0, .int .i64 0, .int .i64 0, .int .i64 0, .int .i64 0, .int .i64 0, .slice none 0 0] 29 (0, 0)))
   case first =>
    by_cases h33 : np = 3
    ·have hnr0 : nr = 0 := by omega
     clear hrl hnr
     subst h33 hnr0
     go_region_held3 (fun w' => (PS b mb pb (p0 :: p1 :: p2 :: rest) w w' ∧ w'.heap[xb]? = some (.cells #[.int .i64 (k : Nat), .int .i64 (n0 : Nat), .int .i64 (n1 : Nat), .int .i64 0, .int .i64 0, .int .i64 0, .int .i64 0, .int .i64 0, .int .i64 0, .slice none 0 0] 29 (0, 0))) ∧ w'.cell? ⟨xb, 0, none⟩ = some (.int .i64 (k : Nat)))
      (first | exact held5 ‹_› | exact held5 ⟨hst3.drew, hx3⟩ | exact held5 ⟨hst4, hx4⟩)
      (first | (go_at_call 77; ((with_reducible refine (row_any (k : Int) _).mono ?_); rintro e w4 ⟨⟨rv, rfl, hrow, hrg⟩, hb4⟩; have hst4 := hst3.drew.below hb4; have hx4 := (hb4.block _ (lt_of_heap hx3)).trans hx3)))
     go_wp2_with fail
     go_meet
     exact ⟨_, _, rfl, rfl, fun h => absurd h (by omega), by rw [← HRW.out]; exact hrow, hst4, hx4⟩
    ·have hn3 : (np = 3) = False := by simp; omega
     clear hrl hnr
     go_region_held3 (fun w' => (PS b mb pb (p0 :: p1 :: p2 :: rest) w w' ∧ w'.heap[xb]? = some (.cells #[.int .i64 (k : Nat), .int .i64 (n0 : Nat), .int .i64 (n1 : Nat), .int .i64 0, .int .i64 0, .int .i64 0, .int .i64 0, .int .i64 0, .int .i64 0, .slice none 0 0] 29 (0, 0))) ∧ w'.cell? ⟨xb, 0, none⟩ = some (.int .i64 (k : Nat)))
      (first | exact held5 ‹_› | exact held5 ⟨hst3.drew, hx3⟩ | exact held5 ⟨hst4, hx4⟩)
      (first | (go_at_call 77; ((with_reducible refine (row_any (k : Int) _).mono ?_); rintro e w4 ⟨⟨rv, rfl, hrow, hrg⟩, hb4⟩; have hst4 := hst3.drew.below hb4; have hx4 := (hb4.block _ (lt_of_heap hx3)).trans hx3)))
     go_wp2_with fail
     go_meet
     exact ⟨_, _, by rw [HNR.out], rfl, fun _ => rfl, by rw [← HRW.out]; exact hrow, hst4, hx4⟩
   case rest =>
    obtain ⟨o7, rv, rfl, rfl, ho7, hrow, hst4, hx4⟩ := hcut
    obtain ⟨ra, rfl⟩ := hrow.form
    have hrest : rest.length = nr := by
     have := HNP.out
     simp at this
     omega
    clear hst3 hx3 c0 hrl hnr
    have HO7 := Lib.hid ho7
    clear ho7
    by_cases heq : nr = rl.length
    ·have hd7 : ((nr : Int) == (rl.length : Int)) = true := by simp; omega
     have hd7b : ((nr : Int) != (rl.length : Int)) = false := by simp; omega
     have HREST := Lib.hid hrest
     have HEQL := Lib.hid heq
     clear hrest heq
     go_wp2_with fail
     have HLEN : Hid (nr = rl.length) := HEQL
     have hpj0 : PJ b mb pb xb (p0 :: p1 :: p2 :: rest) ra rl w { k := (k : Nat), st := (n0 : Nat), th := (n1 : Nat), sy := 0, br := 0, pa := 0, n := 0, v := zeroT } 0 0 none 0 0 wc := ⟨hst4, hx4, hrow, IsV_zero _ _, ⟨rng_nat (kind_le G2.out), rng_nat (numL_some G0.out).2, rng_nat (numL_some G1.out).2, rng_nat (Nat.zero_le _), rng_nat (Nat.zero_le _), rng_nat (Nat.zero_le _), rng_nat (Nat.zero_le _)⟩, hxb⟩
     have hr0 : rowP { k := (k : Nat), st := (n0 : Nat), th := (n1 : Nat), sy := 0, br := 0, pa := 0, n := 0, v := zeroT } rl rest = r := by
      have h1 := HR.out
      unfold parseE at h1
      rw [HPS.out] at h1
      dsimp only at h1
      rw [G0.out, G1.out, G2.out] at h1
      dsimp only at h1
      rw [HRW.out, if_pos (by rw [HREST.out, HEQL.out])] at h1
      exact h1
     have HR0 := Lib.hid hr0
     have HSZ3 : Hid (∀ p ∈ rest, p.size ≤ 10000000) := fun p hp => Nat.le_trans (HSZ.out p (by rw [HPS.out]; simp [hp])) hs
     clear hr0 hst4 hx4 hrow
     go_loopw [52] (fun i wr => ∃ (j : Nat) (y : Ev) (kk nn : Int) (a : Option Addr) (len cap : Nat), i = .int .i64 (j : Nat) ∧ j ≤ rl.length ∧ PJ b mb pb xb (p0 :: p1 :: p2 :: rest) ra rl w y kk nn a len cap wr ∧ rowP y (rl.drop j) (rest.drop j) = r) (fun i _ => rl.length - (intOf i).toNat)
     case atStart => exact ⟨0, _, _, _, _, _, _, rfl, Nat.zero_le _, hpj0, HR0.out⟩
     case round =>
      clear hpj0
      obtain ⟨j, y, kk, nn, a, len, cap, rfl, hj, hpj, hro⟩ := hrel
      have HRO := Lib.hid hro
      clear hro
      by_cases hlt : j < rl.length
      ·have hd3 : decide (j < rl.length) = true := by simpa using hlt
       obtain ⟨g, hra, hg, hc⟩ := hpj.rw.at_ hlt
       have hi5 : rl[j] < 5 := HRL.out _ (by rw [HRW.out]; exact List.getElem_mem _)
       subst hra
       obtain ⟨i, hi⟩ : ∃ i, rl[j] = i := ⟨_, rfl⟩
       rw [hi] at hc hi5
       have hjr : j < rest.length := by rw [HREST.out, HEQL.out]; exact hlt
       obtain ⟨P, hP⟩ : ∃ P, rest[j] = P := ⟨_, rfl⟩
       have hPz : P.size ≤ 10000000 := by rw [← hP]; exact HSZ3.out _ (List.getElem_mem _)
       have hcP : wr.cell? ⟨pb, 3 + j, none⟩ = some (.string P) := by
        have := hpj.ps.at_ (j := j + 3) (by simp; omega)
        rw [show 3 + j = j + 3 by omega, this, ← hP]
        simp
       have ho3 : o7 = 3 := HO7.out (by rw [HEQL.out]; omega)
       subst ho3
       have hjn : j < nr := by rw [HEQL.out]; exact hlt
       have hjn2 : (j : Int) < (nr : Int) := by omega
       have HCO : Hid ((match fldP y i P with | some z => rowP z (rl.drop (j + 1)) (rest.drop (j + 1)) | none => none) = r) := by
        show _ = _
        rw [← HRO.out, List.drop_eq_getElem_cons hlt, List.drop_eq_getElem_cons hjr, hi, hP, rowP]
        cases fldP y i P <;> rfl
       clear hi hP HRO hjr
       obtain ⟨t0, t1, t2, t3, t4, t5, t6, t7, t8, t9, t10, t11, t12, t13, t14⟩ := hpj.ps.tt.cells
       have h5 : i = 0 ∨ i = 1 ∨ i = 2 ∨ i = 3 ∨ i = 4 := by omega
       rcases h5 with rfl | rfl | rfl | rfl | rfl
       ·go_upto_region 13 with fail
        have hpj2 := hpj.below (below_alloc wr (.cells #[.string ⟨#[115, 121, 110, 99]⟩, .int .i64 0, .func (.func 69) #[] #[]] 125))
        have hcP2 : (wr.alloc (.cells #[.string ⟨#[115, 121, 110, 99]⟩, .int .i64 0, .func (.func 69) #[] #[]] 125)).cell? ⟨pb, 3 + j, none⟩ = some (.string P) := ((below_alloc wr (.cells #[.string ⟨#[115, 121, 110, 99]⟩, .int .i64 0, .func (.func 69) #[] #[]] 125)).cell (p := ⟨pb, 3 + j, none⟩) (lt_of_heap hpj.ps.pp)).trans hcP
        have hff := heap_alloc_new wr (.cells #[.string ⟨#[115, 121, 110, 99]⟩, .int .i64 0, .func (.func 69) #[] #[]] 125)
        clear hpj hcP t0 t1 t2 t3 t4 t5 t6 t7 t8 t9 t10 t11 t12 t13 t14 hc hg
        generalize wr.alloc (.cells #[.string ⟨#[115, 121, 110, 99]⟩, .int .i64 0, .func (.func 69) #[] #[]] 125) = wf at *
        generalize wr.heap.size = fb at *
        have f1 : wf.cell? ⟨fb, 1, none⟩ = some (.int .i64 0) := by simp [World.cell?, hff]
        have f2 : wf.cell? ⟨fb, 2, none⟩ = some (.func (.func 69) #[] #[]) := by simp [World.cell?, hff]
        have hnf := fnil0
        go_upto_region 12 with fail
        have hen := enters_of Tryz.func69 (by kernel_rfl) rfl
        go_still_tail 7, (by kernel_rfl)
        still_call (Calls.mono (at0_any _ _) (fun _ _ h => ⟨h.1, h.2.symm⟩))
        repeat still_step
        refine wpStill_nil ?_
        have hpj3 := hpj2.below (W' := wf.drew) ⟨rfl, rfl, rfl, Nat.le_refl _, fun _ _ => rfl⟩
        have HF : Hid (fldP y 0 P = match numL P.data.toList with | some n => some (setF y 0 n) | none => none) := fldP_num (by decide) (by omega)
        clear hpj2 hcP2 hnf f1 f2 hff hen
        go_wp2_with fail
        refine (tnumber_any P hPz _ hpj3.ps.env).mono ?_
        rcases hN : numL P.data.toList with _ | n
        ·rintro e w4 ⟨he, hb4⟩
         obtain rfl : e = Fault := he
         have hrn : r = none := by rw [← HCO.out, HF.out, hN]
         subst hrn
         exact ⟨rfl, rfl, (hpj3.below hb4).ps.bb⟩
        ·rintro e w4 ⟨he, hb4⟩
         obtain rfl : e = .returned (.int .i64 (n : Nat)) := he
         have hpj4 := hpj3.below hb4
         have hpj5 := hpj4.set 0 (by omega) (n : Nat) (rng_nat (numL_some hN).2)
         have HF2 : Hid (rowP (setF y 0 (n : Nat)) (rl.drop (j + 1)) (rest.drop (j + 1)) = r) := by show _ = _; rw [← HCO.out, HF.out, hN]
         have q0 := hpj4.c.1
         have q1 := hpj4.fz 3
         clear hN hpj3 hpj4 hb4 HF HCO
         go_wp2_with fail
         go_roundw
         case rel => first | exact ⟨j + 1, setF y 0 (n : Nat), kk, nn, a, len, cap, by go_num, by omega, hpj5, HF2.out⟩ | ((repeat apply Exists.intro); exact ⟨⟨j + 1, setF y 0 (n : Nat), kk, nn, a, len, cap, by go_num, by omega, hpj5, HF2.out⟩, rfl⟩)
         case measure => simp [intOf]; omega
       ·go_upto_region 13 with fail
        have hpj2 := hpj.below (below_alloc wr (.cells #[.string ⟨#[98, 114, 97, 110, 99, 104]⟩, .int .i64 0, .func (.func 70) #[] #[]] 125))
        have hcP2 : (wr.alloc (.cells #[.string ⟨#[98, 114, 97, 110, 99, 104]⟩, .int .i64 0, .func (.func 70) #[] #[]] 125)).cell? ⟨pb, 3 + j, none⟩ = some (.string P) := ((below_alloc wr (.cells #[.string ⟨#[98, 114, 97, 110, 99, 104]⟩, .int .i64 0, .func (.func 70) #[] #[]] 125)).cell (p := ⟨pb, 3 + j, none⟩) (lt_of_heap hpj.ps.pp)).trans hcP
        have hff := heap_alloc_new wr (.cells #[.string ⟨#[98, 114, 97, 110, 99, 104]⟩, .int .i64 0, .func (.func 70) #[] #[]] 125)
        clear hpj hcP t0 t1 t2 t3 t4 t5 t6 t7 t8 t9 t10 t11 t12 t13 t14 hc hg
        generalize wr.alloc (.cells #[.string ⟨#[98, 114, 97, 110, 99, 104]⟩, .int .i64 0, .func (.func 70) #[] #[]] 125) = wf at *
        generalize wr.heap.size = fb at *
        have f1 : wf.cell? ⟨fb, 1, none⟩ = some (.int .i64 0) := by simp [World.cell?, hff]
        have f2 : wf.cell? ⟨fb, 2, none⟩ = some (.func (.func 70) #[] #[]) := by simp [World.cell?, hff]
        have hnf := fnil1
        go_upto_region 12 with fail
        have hen := enters_of Tryz.func70 (by kernel_rfl) rfl
        go_still_tail 7, (by kernel_rfl)
        still_call (Calls.mono (at1_any _ _) (fun _ _ h => ⟨h.1, h.2.symm⟩))
        repeat still_step
        refine wpStill_nil ?_
        have hpj3 := hpj2.below (W' := wf.drew) ⟨rfl, rfl, rfl, Nat.le_refl _, fun _ _ => rfl⟩
        have HF : Hid (fldP y 1 P = match numL P.data.toList with | some n => some (setF y 1 n) | none => none) := fldP_num (by decide) (by omega)
        clear hpj2 hcP2 hnf f1 f2 hff hen
        go_wp2_with fail
        refine (tnumber_any P hPz _ hpj3.ps.env).mono ?_
        rcases hN : numL P.data.toList with _ | n
        ·rintro e w4 ⟨he, hb4⟩
         obtain rfl : e = Fault := he
         have hrn : r = none := by rw [← HCO.out, HF.out, hN]
         subst hrn
         exact ⟨rfl, rfl, (hpj3.below hb4).ps.bb⟩
        ·rintro e w4 ⟨he, hb4⟩
         obtain rfl : e = .returned (.int .i64 (n : Nat)) := he
         have hpj4 := hpj3.below hb4
         have hpj5 := hpj4.set 1 (by omega) (n : Nat) (rng_nat (numL_some hN).2)
         have HF2 : Hid (rowP (setF y 1 (n : Nat)) (rl.drop (j + 1)) (rest.drop (j + 1)) = r) := by show _ = _; rw [← HCO.out, HF.out, hN]
         have q0 := hpj4.c.2.1
         have q1 := hpj4.fz 4
         clear hN hpj3 hpj4 hb4 HF HCO
         go_wp2_with fail
         go_roundw
         case rel => first | exact ⟨j + 1, setF y 1 (n : Nat), kk, nn, a, len, cap, by go_num, by omega, hpj5, HF2.out⟩ | ((repeat apply Exists.intro); exact ⟨⟨j + 1, setF y 1 (n : Nat), kk, nn, a, len, cap, by go_num, by omega, hpj5, HF2.out⟩, rfl⟩)
         case measure => simp [intOf]; omega
       ·go_upto_region 13 with fail
        have hpj2 := hpj.below (below_alloc wr (.cells #[.string ⟨#[112, 97, 114, 116, 110, 101, 114]⟩, .int .i64 (-1), .func (.func 71) #[] #[]] 125))
        have hcP2 : (wr.alloc (.cells #[.string ⟨#[112, 97, 114, 116, 110, 101, 114]⟩, .int .i64 (-1), .func (.func 71) #[] #[]] 125)).cell? ⟨pb, 3 + j, none⟩ = some (.string P) := ((below_alloc wr (.cells #[.string ⟨#[112, 97, 114, 116, 110, 101, 114]⟩, .int .i64 (-1), .func (.func 71) #[] #[]] 125)).cell (p := ⟨pb, 3 + j, none⟩) (lt_of_heap hpj.ps.pp)).trans hcP
        have hff := heap_alloc_new wr (.cells #[.string ⟨#[112, 97, 114, 116, 110, 101, 114]⟩, .int .i64 (-1), .func (.func 71) #[] #[]] 125)
        clear hpj hcP t0 t1 t2 t3 t4 t5 t6 t7 t8 t9 t10 t11 t12 t13 t14 hc hg
        generalize wr.alloc (.cells #[.string ⟨#[112, 97, 114, 116, 110, 101, 114]⟩, .int .i64 (-1), .func (.func 71) #[] #[]] 125) = wf at *
        generalize wr.heap.size = fb at *
        have f1 : wf.cell? ⟨fb, 1, none⟩ = some (.int .i64 (-1)) := by simp [World.cell?, hff]
        have f2 : wf.cell? ⟨fb, 2, none⟩ = some (.func (.func 71) #[] #[]) := by simp [World.cell?, hff]
        have hnf := fnil2
        by_cases h45 : P.toList = [45]
        ·have HF : Hid (fldP y 2 P = some (setF y 2 (-1))) := by show _ = _; unfold fldP; rw [if_neg (by decide), if_pos ⟨rfl, h45⟩]
         have hd8 : (P.toList == [45]) = true := by simpa using h45
         have hen := enters_of Tryz.func71 (by kernel_rfl) rfl
         go_wp2_with fail
         refine (at2_any _ _).mono ?_
         rintro e w4 ⟨rfl, rfl⟩
         have hpj5 := hpj2.set 2 (by omega) (-1) (by unfold Rng; omega)
         have HF2 : Hid (rowP (setF y 2 (-1)) (rl.drop (j + 1)) (rest.drop (j + 1)) = r) := by show _ = _; rw [← HCO.out, HF.out]
         have q0 := hpj2.c.2.2.1
         have q1 := hpj2.fz 5
         clear hpj2 HF HCO
         go_wp2_with fail
         go_roundw
         case rel => first | exact ⟨j + 1, setF y 2 (-1), kk, nn, a, len, cap, by go_num, by omega, hpj5, HF2.out⟩ | ((repeat apply Exists.intro); exact ⟨⟨j + 1, setF y 2 (-1), kk, nn, a, len, cap, by go_num, by omega, hpj5, HF2.out⟩, rfl⟩)
         case measure => simp [intOf]; omega
        ·have hd8 : (P.toList == [45]) = false := by simpa using h45
         go_upto_region 12 with fail
         have hen := enters_of Tryz.func71 (by kernel_rfl) rfl
         go_still_tail 7, (by kernel_rfl)
         still_call (Calls.mono (at2_any _ _) (fun _ _ h => ⟨h.1, h.2.symm⟩))
         repeat still_step
         refine wpStill_nil ?_
         have hpj3 := hpj2.below (W' := wf.drew) ⟨rfl, rfl, rfl, Nat.le_refl _, fun _ _ => rfl⟩
         have HF : Hid (fldP y 2 P = match numL P.data.toList with | some n => some (setF y 2 n) | none => none) := fldP_num (by decide) (by simpa using h45)
         clear hpj2 hcP2 hnf f1 f2 hff hen
         go_wp2_with fail
         refine (tnumber_any P hPz _ hpj3.ps.env).mono ?_
         rcases hN : numL P.data.toList with _ | n
         ·rintro e w4 ⟨he, hb4⟩
          obtain rfl : e = Fault := he
          have hrn : r = none := by rw [← HCO.out, HF.out, hN]
          subst hrn
          exact ⟨rfl, rfl, (hpj3.below hb4).ps.bb⟩
         ·rintro e w4 ⟨he, hb4⟩
          obtain rfl : e = .returned (.int .i64 (n : Nat)) := he
          have hpj4 := hpj3.below hb4
          have hpj5 := hpj4.set 2 (by omega) (n : Nat) (rng_nat (numL_some hN).2)
          have HF2 : Hid (rowP (setF y 2 (n : Nat)) (rl.drop (j + 1)) (rest.drop (j + 1)) = r) := by show _ = _; rw [← HCO.out, HF.out, hN]
          have q0 := hpj4.c.2.2.1
          have q1 := hpj4.fz 5
          clear hN hpj3 hpj4 hb4 HF HCO
          go_wp2_with fail
          go_roundw
          case rel => first | exact ⟨j + 1, setF y 2 (n : Nat), kk, nn, a, len, cap, by go_num, by omega, hpj5, HF2.out⟩ | ((repeat apply Exists.intro); exact ⟨⟨j + 1, setF y 2 (n : Nat), kk, nn, a, len, cap, by go_num, by omega, hpj5, HF2.out⟩, rfl⟩)
          case measure => simp [intOf]; omega
       ·go_upto_region 13 with fail
        have hpj2 := hpj.below (below_alloc wr (.cells #[.string ⟨#[110]⟩, .int .i64 0, .func (.func 72) #[] #[]] 125))
        have hcP2 : (wr.alloc (.cells #[.string ⟨#[110]⟩, .int .i64 0, .func (.func 72) #[] #[]] 125)).cell? ⟨pb, 3 + j, none⟩ = some (.string P) := ((below_alloc wr (.cells #[.string ⟨#[110]⟩, .int .i64 0, .func (.func 72) #[] #[]] 125)).cell (p := ⟨pb, 3 + j, none⟩) (lt_of_heap hpj.ps.pp)).trans hcP
        have hff := heap_alloc_new wr (.cells #[.string ⟨#[110]⟩, .int .i64 0, .func (.func 72) #[] #[]] 125)
        clear hpj hcP t0 t1 t2 t3 t4 t5 t6 t7 t8 t9 t10 t11 t12 t13 t14 hc hg
        generalize wr.alloc (.cells #[.string ⟨#[110]⟩, .int .i64 0, .func (.func 72) #[] #[]] 125) = wf at *
        generalize wr.heap.size = fb at *
        have f1 : wf.cell? ⟨fb, 1, none⟩ = some (.int .i64 0) := by simp [World.cell?, hff]
        have f2 : wf.cell? ⟨fb, 2, none⟩ = some (.func (.func 72) #[] #[]) := by simp [World.cell?, hff]
        have hnf := fnil3
        go_upto_region 12 with fail
        have hen := enters_of Tryz.func72 (by kernel_rfl) rfl
        go_still_tail 7, (by kernel_rfl)
        still_call (Calls.mono (at3_any _ _) (fun _ _ h => ⟨h.1, h.2.symm⟩))
        repeat still_step
        refine wpStill_nil ?_
        have hpj3 := hpj2.below (W' := wf.drew) ⟨rfl, rfl, rfl, Nat.le_refl _, fun _ _ => rfl⟩
        have HF : Hid (fldP y 3 P = match numL P.data.toList with | some n => some (setF y 3 n) | none => none) := fldP_num (by decide) (by omega)
        clear hpj2 hcP2 hnf f1 f2 hff hen
        go_wp2_with fail
        refine (tnumber_any P hPz _ hpj3.ps.env).mono ?_
        rcases hN : numL P.data.toList with _ | n
        ·rintro e w4 ⟨he, hb4⟩
         obtain rfl : e = Fault := he
         have hrn : r = none := by rw [← HCO.out, HF.out, hN]
         subst hrn
         exact ⟨rfl, rfl, (hpj3.below hb4).ps.bb⟩
        ·rintro e w4 ⟨he, hb4⟩
         obtain rfl : e = .returned (.int .i64 (n : Nat)) := he
         have hpj4 := hpj3.below hb4
         have hpj5 := hpj4.set 3 (by omega) (n : Nat) (rng_nat (numL_some hN).2)
         have HF2 : Hid (rowP (setF y 3 (n : Nat)) (rl.drop (j + 1)) (rest.drop (j + 1)) = r) := by show _ = _; rw [← HCO.out, HF.out, hN]
         have q0 := hpj4.c.2.2.2.1
         have q1 := hpj4.fz 6
         clear hN hpj3 hpj4 hb4 HF HCO
         go_wp2_with fail
         go_roundw
         case rel => first | exact ⟨j + 1, setF y 3 (n : Nat), kk, nn, a, len, cap, by go_num, by omega, hpj5, HF2.out⟩ | ((repeat apply Exists.intro); exact ⟨⟨j + 1, setF y 3 (n : Nat), kk, nn, a, len, cap, by go_num, by omega, hpj5, HF2.out⟩, rfl⟩)
         case measure => simp [intOf]; omega
       ·go_upto_region 13 with fail
        have hpj2 := hpj.below (below_alloc wr (.cells #[.string ⟨#[118, 97, 108]⟩, .int .i64 0, Value.nilFunc] 125))
        have hcP2 : (wr.alloc (.cells #[.string ⟨#[118, 97, 108]⟩, .int .i64 0, Value.nilFunc] 125)).cell? ⟨pb, 3 + j, none⟩ = some (.string P) := ((below_alloc wr (.cells #[.string ⟨#[118, 97, 108]⟩, .int .i64 0, Value.nilFunc] 125)).cell (p := ⟨pb, 3 + j, none⟩) (lt_of_heap hpj.ps.pp)).trans hcP
        have hff := heap_alloc_new wr (.cells #[.string ⟨#[118, 97, 108]⟩, .int .i64 0, Value.nilFunc] 125)
        clear hpj hcP t0 t1 t2 t3 t4 t5 t6 t7 t8 t9 t10 t11 t12 t13 t14 hc hg
        generalize wr.alloc (.cells #[.string ⟨#[118, 97, 108]⟩, .int .i64 0, Value.nilFunc] 125) = wf at *
        generalize wr.heap.size = fb at *
        have f1 : wf.cell? ⟨fb, 1, none⟩ = some (.int .i64 0) := by simp [World.cell?, hff]
        have f2 : wf.cell? ⟨fb, 2, none⟩ = some (Value.nilFunc) := by simp [World.cell?, hff]
        have hnf := fnil4
        have hpz2 : P.size ≤ maxLen := by unfold maxLen; omega
        have HF : Hid (fldP y 4 P = match parse P with | .ok t => some { y with v := t } | .error _ => none) := by show _ = _; unfold fldP; rw [if_pos rfl]; cases parse P <;> rfl
        go_wp2_with fail
        refine (Parse_any P hpz2 _ hpj2.ps.env.env.words).mono ?_
        intro e w4 h4
        rcases hN : parse P with jj | t
        ·rw [hN] at h4
         obtain ⟨rfl, hb4⟩ := h4
         have hrn : r = none := by rw [← HCO.out, HF.out, hN]
         subst hrn
         have hpj4 := (hpj2.below hb4).below (below_alloc w4 (.cells #[.int .i64 0, .int .i64 0, .slice none 0 0] 27))
         clear hN HF HCO hpj2 hb4
         go_wp2_with fail
         refine (raise_any _).mono ?_
         rintro e w5 ⟨rfl, rfl⟩
         exact ⟨rfl, rfl, hpj4.ps.bb⟩
        ·rw [hN] at h4
         obtain ⟨v4, rfl, hv4, hb4⟩ := h4
         obtain ⟨k4, n4, a4, l4, c4, rfl⟩ := hv4.form
         have hpj4 := (hpj2.below hb4).below (below_alloc w4 (.cells #[.int .i64 k4, .int .i64 n4, .slice a4 l4 c4] 27))
         have hbx := Bx.new w4 27 (.int .i64 k4) (.int .i64 n4) (.slice a4 l4 c4)
         have v0 := hbx.c0
         have v1 := hbx.c1
         have v2 := hbx.c2
         have hl2 := hpj2.xlt
         have hl3 := hpj2.lx
         have hl4 := hpj2.ps.lp
         have hv5 : IsV (fun g => w.heap.size < g ∧ g < (w4.alloc (.cells #[.int .i64 k4, .int .i64 n4, .slice a4 l4 c4] 27)).heap.size ∧ g ≠ xb) (w4.alloc (.cells #[.int .i64 k4, .int .i64 n4, .slice a4 l4 c4] 27)) t (.agg #[.int .i64 k4, .int .i64 n4, .slice a4 l4 c4]) :=
          (hv4.keep fun g hg _ => World.cell?_of_block (w := w4) (Below.heap_alloc _ _ _ hg.2)).more fun g hg => ⟨by omega, by simp; omega, by omega⟩
         have hpj5 := hpj4.setV hv5
         have HF2 : Hid (rowP { y with v := t } (rl.drop (j + 1)) (rest.drop (j + 1)) = r) := by show _ = _; rw [← HCO.out, HF.out, hN]
         obtain ⟨-, -, -, -, q0, q1, q2, -⟩ := hpj4.c
         have q3 := hpj4.fz 7
         have q4 := hpj4.fz 8
         have q5 := hpj4.fz 9
         clear hN hpj2 hb4 HF HCO hv4 hv5 hbx hpj4
         go_wp2_with fail
         go_roundw
         case rel => first | exact ⟨j + 1, { y with v := t }, k4, n4, a4, l4, c4, by go_num, by omega, hpj5, HF2.out⟩ | ((repeat apply Exists.intro); exact ⟨⟨j + 1, { y with v := t }, k4, n4, a4, l4, c4, by go_num, by omega, hpj5, HF2.out⟩, rfl⟩)
         case measure => simp [intOf]; omega
      ·have hd3 : decide (j < rl.length) = false := by simpa using hlt
       have hrs := hpj.ps.rs
       obtain ⟨q3, q4, q5, q6, q7, q8, q9, q0, q1, q2⟩ := hpj.c
       have hry : r = some y := by rw [← HRO.out, List.drop_eq_nil_of_le (by omega)]; rfl
       subst hry
       have hB : BE wr w.heap.size zeroC := hrs
       have hout := BE.put hB (.int .i64 y.k) (.int .i64 y.st) (.int .i64 y.th) (.int .i64 y.sy) (.int .i64 y.br) (.int .i64 y.pa) (.int .i64 y.n) (.int .i64 kk) (.int .i64 nn) (.slice a len cap)
       have hbo := hpj.ps.bb.trans (put10_below (w := wr) (g := w.heap.size) (Nat.le_refl _) (.int .i64 y.k) (.int .i64 y.st) (.int .i64 y.th) (.int .i64 y.sy) (.int .i64 y.br) (.int .i64 y.pa) (.int .i64 y.n) (.int .i64 kk) (.int .i64 nn) (.slice a len cap))
       have hvo : IsE (fun g => w.heap.size ≤ g ∧ g < (put10 wr w.heap.size (.int .i64 y.k) (.int .i64 y.st) (.int .i64 y.th) (.int .i64 y.sy) (.int .i64 y.br) (.int .i64 y.pa) (.int .i64 y.n) (.int .i64 kk) (.int .i64 nn) (.slice a len cap)).heap.size) (put10 wr w.heap.size (.int .i64 y.k) (.int .i64 y.st) (.int .i64 y.th) (.int .i64 y.sy) (.int .i64 y.br) (.int .i64 y.pa) (.int .i64 y.n) (.int .i64 kk) (.int .i64 nn) (.slice a len cap)) y (.agg (evC y kk nn a len cap)) :=
        ⟨kk, nn, a, len, cap, rfl, (hpj.iv.keep fun g hg _ => World.cell?_of_block (w := wr) (put10_block (j := g) (by omega) _ _ _ _ _ _ _ _ _ _)).more fun g hg => ⟨by omega, by rw [put10_size]; exact hg.2.1⟩, hpj.rg⟩
       have z0 := hB.fz 0
       have z1 := hB.fz 1
       have z2 := hB.fz 2
       have z3 := hB.fz 3
       have z4 := hB.fz 4
       have z5 := hB.fz 5
       have z6 := hB.fz 6
       have z7 := hB.fz 7
       have z8 := hB.fz 8
       have z9 := hB.fz 9
       have hzc := BE.c hB
       obtain ⟨y0, y1, y2, y3, y4, y5, y6, y7, y8, y9⟩ := hzc
       obtain ⟨x0, x1, x2, x3, x4, x5, x6, x7, x8, x9⟩ := BE.c hout
       unfold put10 at x0 x1 x2 x3 x4 x5 x6 x7 x8 x9
       clear hpj hrs hB hout
       go_wp2_with fail
       exact bodyPost_ret (v := .agg (evC y kk nn a len cap)) (by simp [results, Tryz.results35, go_sem, evC, x0, x1, x2, x3, x4, x5, x6, x7, x8, x9]) rfl ⟨⟨_, rfl, hvo⟩, hbo⟩
    ·have hd7 : ((nr : Int) == (rl.length : Int)) = false := by simp; omega
     have hd7b : ((nr : Int) != (rl.length : Int)) = true := by simp; omega
     have hrn : r = none := by
      rw [← HR.out]
      unfold parseE
      rw [HPS.out]
      dsimp only
      rw [G0.out, G1.out, G2.out]
      dsimp only
      rw [if_neg (by rw [HRW.out]; omega)]
     subst hrn
     clear hrest heq
     go_wp2_with fail
     refine (raise_any _).mono ?_
     rintro e w5 ⟨rfl, rfl⟩
     exact ⟨rfl, rfl, hst4.bb⟩
  ·intro a3 w3 hdf hno hst3
   have hrn : r = none := by
    rw [← HR.out]
    unfold parseE
    rw [HPS.out]
    dsimp only
    rcases hno with h | h | h
    ·rw [h]
    ·rw [h]; cases numL p0.data.toList <;> rfl
    ·rw [h]; cases numL p0.data.toList <;> cases numL p1.data.toList <;> rfl
   subst hrn
   exact ⟨hdf, rfl, hst3.bb⟩
end Go.Proofs.YtjldbbcdhdfliaaGreatDoor
