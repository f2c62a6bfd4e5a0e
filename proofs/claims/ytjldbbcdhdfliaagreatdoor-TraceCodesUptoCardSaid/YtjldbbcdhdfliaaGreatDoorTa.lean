/-
 Events (layer 23): plain; the table of the words, of the fields: words, tables, row.
-/
import Derived.Test.YtjldbbcdhdfliaaGreatDoorVal
import Derived.Lib.Hide
import Derived.Maps.Own
import Derived.Maps.StringElems
namespace Go.Proofs.YtjldbbcdhdfliaaGreatDoor
open Go.RowKit

/-- An event. -/
structure Ev where
 k : Int
 st : Int
 th : Int
 sy : Int
 br : Int
 pa : Int
 n : Int
 v : VT
def wdE : Nat → List UInt8
 | 1 => [115, 112, 97, 119, 110]
 | 2 => [99, 104, 97, 110]
 | 3 => [99, 111, 110, 100]
 | 4 => [98, 101, 103, 105, 110]
 | 5 => [99, 111, 109, 109, 105, 116]
 | 6 => [102, 105, 114, 101]
 | 7 => [114, 101, 116, 117, 114, 110]
 | 8 => [111, 118, 101, 114]
 | 9 => [119, 114, 111, 110, 103]
 | _ => []
def wdEB (k : Nat) : ByteArray := ⟨(wdE k).toArray⟩
def hasE (k : Int) : Bool := decide (1 ≤ k) && decide (k ≤ 9)
def wordE (k : Int) : ByteArray := if hasE k then wdEB k.toNat else ⟨#[]⟩
theorem wordE_size (k : Int) : (wordE k).size ≤ 6 := by
 unfold wordE
 split
 ·generalize k.toNat = j
  match j with
  | 0 | 1 | 2 | 3 | 4 | 5 | 6 | 7 | 8 | 9 => decide
  | n + 10 => show ([] : List UInt8).length ≤ 6; decide
 ·decide
theorem has_cases {k : Int} (h : hasE k = true) : k = 1 ∨ k = 2 ∨ k = 3 ∨ k = 4 ∨ k = 5 ∨ k = 6 ∨ k = 7 ∨ k = 8 ∨ k = 9 := by
 unfold hasE at h
 simp at h
 omega
def eD (j : Nat) : DataW Unit := .lit (.string (wdE j))
/-- What the map of the words reads as. -/
def E9 : DataW Unit := (((((((((DataW.map []).put (.int .i64 1) (eD 1)).put (.int .i64 2) (eD 2)).put (.int .i64 3) (eD 3)).put (.int .i64 4) (eD 4)).put (.int .i64 5) (eD 5)).put (.int .i64 6) (eD 6)).put (.int .i64 7) (eD 7)).put (.int .i64 8) (eD 8)).put (.int .i64 9) (eD 9)
theorem E9_eq : E9 = .map [(.int .i64 1, eD 1), (.int .i64 2, eD 2), (.int .i64 3, eD 3), (.int .i64 4, eD 4), (.int .i64 5, eD 5), (.int .i64 6, eD 6), (.int .i64 7, eD 7), (.int .i64 8, eD 8), (.int .i64 9, eD 9)] := by kernel_rfl
theorem E9_at (k : Int) : E9.atKey (.int .i64 k) (.lit (.string [])) = .lit (.string (wordE k).data.toList) := by
 by_cases h : hasE k = true
 ·rcases has_cases h with rfl | rfl | rfl | rfl | rfl | rfl | rfl | rfl | rfl <;> kernel_rfl
 ·have hw : wordE k = ⟨#[]⟩ := by unfold wordE; rw [if_neg h]
  have hn : ¬ (1 ≤ k ∧ k ≤ 9) := by unfold hasE at h; simpa using h
  rw [hw, E9_eq]
  unfold DataW.atKey
  have : ∀ j : Int, 1 ≤ j → j ≤ 9 → (Lit.int .i64 j).sameKey (.int .i64 k) = false := by
   intro j h1 h2
   simp [Lit.sameKey]
   omega
  simp [this]

theorem grown_belowE {B : Nat} {w w' : World} {row : Option Nat} (h : w.grownBy w' row) (hB : B ≤ w.heap.size) (hr : ∀ g, row = some g → B ≤ g) : Below B w w' :=
 ⟨h.os, h.tape, h.output, h.size, fun k hk => h.block k (by omega) (fun e => by have := hr k e.symm; omega)⟩
theorem keyE : Maps.Keyed Tryz.prog 23 := Maps.int_keyed Tryz.underlying23
/-- The map of the words lies in a block. -/
def MapE (w : World) (mb : Nat) : Prop := ∃ D : DataW Unit, w.ownsMap Tryz.prog 23 (plainElem (H := Unit) Tryz.prog 9) mb 9 D ∧ ∀ k : Int, D.atKey (.int .i64 k) (.lit (.string [])) = .lit (.string (wordE k).data.toList)
theorem MapE.lt {w : World} {mb : Nat} (h : MapE w mb) : mb < w.heap.size := by
 obtain ⟨D, h, _⟩ := h
 exact World.ownsMap.lt h
theorem MapE.block {w w' : World} {mb : Nat} (h : MapE w mb) (hb : w'.heap[mb]? = w.heap[mb]?) : MapE w' mb := by
 obtain ⟨D, ⟨es, clock, h1, h2⟩, h3⟩ := h
 exact ⟨D, ⟨es, clock, hb.trans h1, h2⟩, h3⟩
theorem lit_wf {k : Int} (h : Rng k) : (Lit.int .i64 k).wf = true := by
 unfold Rng at h
 simp only [Lit.wf, decide_eq_true_eq, Bool.and_eq_true]
 have h1 : IntKind.i64.min = -9223372036854775808 := by decide
 have h2 : IntKind.i64.max = 9223372036854775807 := by decide
 rw [h1, h2]
 exact h
set_option maxRecDepth 100000 in
/-- A word is looked up. -/
theorem MapE.look {w : World} {mb : Nat} (h : MapE w mb) {k : Int} (hk : Rng k) : (Instr.lookup 127 (.map (some mb)) (.int .i64 k) false).run Tryz.prog w = .ok (.string (wordE k)) w := by
 obtain ⟨D, h, hD⟩ := h
 obtain ⟨v, ps, hr, hv⟩ := World.ownsMap.lookup (zp := []) h keyE Tryz.underlying127 (z := .string ⟨#[]⟩) (by kernel_rfl) (zd := .lit (.string [])) (by kernel_rfl) (Maps.keyOf_int_mk Tryz.underlying23 (lit_wf hk))
 rw [hD] at hv
 obtain ⟨s, rfl, hz, _⟩ := plainElem_string_inv Tryz.underlying9 hv
 injection hz with hz1 hz2
 injection hz1 with hz1
 injection hz1 with hz1
 have : wordE k = s := by
  generalize wordE k = x at *
  obtain ⟨d⟩ := s
  obtain ⟨d'⟩ := x
  simp only at hz1
  rw [Array.toList_inj.1 hz1]
 rw [hr, this]
theorem ins_E {w : World} {b n : Nat} {D : DataW Unit} (h : w.ownsMap Tryz.prog 23 (plainElem (H := Unit) Tryz.prog 9) b n D) (hn : n < 100) {k : Int} (hk : Rng k) {s : ByteArray} (hs : s.size ≤ 100) :
  ∃ w', (Instr.mapUpdate 127 (.map (some b)) (.int .i64 k) (.string s)).run Tryz.prog w = .ok () w' ∧ w'.ownsMap Tryz.prog 23 (plainElem (H := Unit) Tryz.prog 9) b (n + 1) (D.put (.int .i64 k) (.lit (.string s.data.toList))) ∧ w.grownBy w' (some b) :=
 h.update keyE Tryz.underlying127 (by unfold maxLen; omega) (Maps.keyOf_int_mk Tryz.underlying23 (lit_wf hk)) (plainElem_string Tryz.underlying9 (by unfold maxLen; omega))
set_option maxRecDepth 100000 in
set_option maxHeartbeats 2000000 in
theorem words_any (w : World) : Calls Tryz.prog 73 #[] w fun e w' => e = .returned (.map (some w.heap.size)) ∧ MapE w' w.heap.size ∧ Below w.heap.size w w' := by
 have hmm := @run_makeMap Tryz.prog
 have hm0 := World.ownsMap_made w Tryz.prog 23 (plainElem (H := Unit) Tryz.prog 9)
 have hb0 := below_alloc w (.map #[] 0)
 obtain ⟨w1, hr1, hm1, hg1⟩ := ins_E hm0 (by omega) (k := 1) (by unfold Rng; omega) (s := ⟨#[115, 112, 97, 119, 110]⟩) (by decide)
 obtain ⟨w2, hr2, hm2, hg2⟩ := ins_E hm1 (by omega) (k := 2) (by unfold Rng; omega) (s := ⟨#[99, 104, 97, 110]⟩) (by decide)
 obtain ⟨w3, hr3, hm3, hg3⟩ := ins_E hm2 (by omega) (k := 3) (by unfold Rng; omega) (s := ⟨#[99, 111, 110, 100]⟩) (by decide)
 obtain ⟨w4, hr4, hm4, hg4⟩ := ins_E hm3 (by omega) (k := 4) (by unfold Rng; omega) (s := ⟨#[98, 101, 103, 105, 110]⟩) (by decide)
 obtain ⟨w5, hr5, hm5, hg5⟩ := ins_E hm4 (by omega) (k := 5) (by unfold Rng; omega) (s := ⟨#[99, 111, 109, 109, 105, 116]⟩) (by decide)
 obtain ⟨w6, hr6, hm6, hg6⟩ := ins_E hm5 (by omega) (k := 6) (by unfold Rng; omega) (s := ⟨#[102, 105, 114, 101]⟩) (by decide)
 obtain ⟨w7, hr7, hm7, hg7⟩ := ins_E hm6 (by omega) (k := 7) (by unfold Rng; omega) (s := ⟨#[114, 101, 116, 117, 114, 110]⟩) (by decide)
 obtain ⟨w8, hr8, hm8, hg8⟩ := ins_E hm7 (by omega) (k := 8) (by unfold Rng; omega) (s := ⟨#[111, 118, 101, 114]⟩) (by decide)
 obtain ⟨w9, hr9, hm9, hg9⟩ := ins_E hm8 (by omega) (k := 9) (by unfold Rng; omega) (s := ⟨#[119, 114, 111, 110, 103]⟩) (by decide)
 have hb1 := hb0.trans (grown_belowE hg1 (B := w.heap.size) hb0.size (fun g hg => by injection hg; omega))
 have hb2 := hb1.trans (grown_belowE hg2 (B := w.heap.size) hb1.size (fun g hg => by injection hg; omega))
 have hb3 := hb2.trans (grown_belowE hg3 (B := w.heap.size) hb2.size (fun g hg => by injection hg; omega))
 have hb4 := hb3.trans (grown_belowE hg4 (B := w.heap.size) hb3.size (fun g hg => by injection hg; omega))
 have hb5 := hb4.trans (grown_belowE hg5 (B := w.heap.size) hb4.size (fun g hg => by injection hg; omega))
 have hb6 := hb5.trans (grown_belowE hg6 (B := w.heap.size) hb5.size (fun g hg => by injection hg; omega))
 have hb7 := hb6.trans (grown_belowE hg7 (B := w.heap.size) hb6.size (fun g hg => by injection hg; omega))
 have hb8 := hb7.trans (grown_belowE hg8 (B := w.heap.size) hb7.size (fun g hg => by injection hg; omega))
 have hb9 := hb8.trans (grown_belowE hg9 (B := w.heap.size) hb8.size (fun g hg => by injection hg; omega))
 have hM : MapE w9 w.heap.size := ⟨_, hm9, E9_at⟩
 clear hm0 hm1 hm2 hm3 hm4 hm5 hm6 hm7 hm8 hm9 hg1 hg2 hg3 hg4 hg5 hg6 hg7 hg8 hg9 hb0 hb1 hb2 hb3 hb4 hb5 hb6 hb7 hb8
 go_enter Tryz.func73, Tryz.ntmps73
 go_wp2_with fail
 go_ret
 exact ⟨rfl, hM, hb9⟩

/-- The table lies in a block. -/
structure TabT (w : World) (b mb : Nat) : Prop where
 c : w.heap[b]? = some (.cells #[.string ⟨#[115, 121, 110, 99]⟩, .int .i64 0, .func (.func 69) #[] #[], .string ⟨#[98, 114, 97, 110, 99, 104]⟩, .int .i64 0, .func (.func 70) #[] #[], .string ⟨#[112, 97, 114, 116, 110, 101, 114]⟩, .int .i64 (-1), .func (.func 71) #[] #[],
  .string ⟨#[110]⟩, .int .i64 0, .func (.func 72) #[] #[], .string ⟨#[118, 97, 108]⟩, .int .i64 0, Value.nilFunc, .map (some mb)] 130 (0, 0))
 m : MapE w mb
section
variable {w w' : World} {b mb : Nat}
theorem TabT.lt (h : TabT w b mb) : b < w.heap.size := (Array.getElem?_eq_some_iff.1 h.c).1
theorem TabT.below {B : Nat} (h : TabT w b mb) (hb : Below B w w') (h1 : b < B) (h2 : mb < B) : TabT w' b mb := ⟨(hb.block _ h1).trans h.c, h.m.block (hb.block _ h2)⟩
theorem TabT.belowAll (h : TabT w b mb) (hb : Below w.heap.size w w') : TabT w' b mb := h.below hb h.lt h.m.lt
theorem TabT.drew (h : TabT w b mb) : TabT w.drew b mb := h.belowAll ⟨rfl, rfl, rfl, Nat.le_refl _, fun _ _ => rfl⟩
end
set_option maxRecDepth 100000 in
set_option maxHeartbeats 2000000 in
theorem tables_any (w : World) : Calls Tryz.prog 34 #[] w fun e w' => ∃ b mb, e = .returned (.pointer (some ⟨b, 0, none⟩)) ∧ w.heap.size ≤ b ∧ w.heap.size ≤ mb ∧ TabT w' b mb ∧ Below w.heap.size w w' := by
 go_enter Tryz.func34, Tryz.ntmps34
 go_wp2_with fail
 refine (words_any _).mono ?_
 rintro e w1 ⟨rfl, hm, hb⟩
 go_wp2_with fail
 go_ret
 refine ⟨_, w.heap.size, rfl, hb.size, Nat.le_refl _, ⟨heap_alloc_new _ _, hm.block (Below.heap_alloc _ _ _ hm.lt)⟩, hb.trans ((below_alloc _ _).mono hb.size)⟩
/-- The fields that a Kind lists. -/
def rowE (k : Int) : List Nat := if k = 1 ∨ k = 2 ∨ k = 3 then [3] else if k = 4 then [0] else if k = 5 then [0, 1, 2, 3, 4] else if k = 6 then [0, 3] else if k = 7 then [0, 4] else if k = 8 then [4] else []
/-- A row lies in memory. -/
def RowM (w : World) (l : List Nat) (v : Value) : Prop := (l = [] ∧ v = .slice none 0 0) ∨ (l ≠ [] ∧ ∃ g, v = .slice (some ⟨g, 0, none⟩) l.length l.length ∧ w.heap[g]? = some (.cells (l.map fun j => Value.int .i64 (j : Nat)).toArray 3 (0, 0)))
theorem RowM.below {w w' : World} {l : List Nat} {v : Value} {B : Nat} (h : RowM w l v) (hb : Below B w w') (hv : ∀ g, v.ownBlock = some g → g < B) : RowM w' l v := by
 rcases h with h | ⟨h1, g, rfl, h2⟩
 ·exact .inl h
 ·exact .inr ⟨h1, g, rfl, (hb.block g (hv g rfl)).trans h2⟩
theorem RowM.lt {w : World} {l : List Nat} {v : Value} (h : RowM w l v) : ∀ g, v.ownBlock = some g → g < w.heap.size := by
 rcases h with ⟨_, rfl⟩ | ⟨h1, g, rfl, h2⟩
 ·intro g h; cases h
 ·intro g' h
  have : g = g' := by simpa [Value.ownBlock] using h
  subst this
  exact (Array.getElem?_eq_some_iff.1 h2).1
theorem RowM.belowAll {w w' : World} {l : List Nat} {v : Value} (h : RowM w l v) (hb : Below w.heap.size w w') : RowM w' l v := h.below hb h.lt
theorem RowM.form {w : World} {l : List Nat} {v : Value} (h : RowM w l v) : ∃ a, v = .slice a l.length l.length := by
 rcases h with ⟨rfl, rfl⟩ | ⟨h1, g, rfl, h2⟩
 ·exact ⟨none, rfl⟩
 ·exact ⟨_, rfl⟩
theorem RowM.at_ {w : World} {l : List Nat} {a : Option Addr} {len cap : Nat} (h : RowM w l (.slice a len cap)) {j : Nat} (hj : j < l.length) : ∃ g, a = some ⟨g, 0, none⟩ ∧ g < w.heap.size ∧ w.cell? ⟨g, j, none⟩ = some (.int .i64 (l[j] : Nat)) := by
 rcases h with ⟨rfl, _⟩ | ⟨h1, g, he, h2⟩
 ·simp at hj
 ·injection he with h3 h4 h5
  subst h3
  refine ⟨g, rfl, (Array.getElem?_eq_some_iff.1 h2).1, ?_⟩
  simp [World.cell?, h2, hj]
set_option maxHeartbeats 2000000 in
theorem row_any (k : Int) (w : World) : Calls Tryz.prog 77 #[.int .i64 k] w fun e w' => (∃ v, e = .returned v ∧ RowM w' (rowE k) v ∧ ∀ g, v.ownBlock = some g → w.heap.size ≤ g) ∧ Below w.heap.size w w' := by
 have hnil : ∀ W : World, RowM W [] (.slice none 0 0) ∧ ∀ g, (Value.slice none 0 0).ownBlock = some g → w.heap.size ≤ g := fun W => ⟨.inl ⟨rfl, rfl⟩, fun g h => by cases h⟩
 have HNIL := Lib.hid hnil
 clear hnil
 have hown : ∀ (n c : Nat) (g : Nat), (Value.slice (some ⟨w.heap.size, 0, none⟩) n c).ownBlock = some g → w.heap.size ≤ g := fun n c g h => by
  have : w.heap.size = g := by simpa [Value.ownBlock] using h
  omega
 have HOWN := Lib.hid hown
 clear hown
 by_cases h : 1 ≤ k ∧ k ≤ 8
 ·have : k = 1 ∨ k = 2 ∨ k = 3 ∨ k = 4 ∨ k = 5 ∨ k = 6 ∨ k = 7 ∨ k = 8 := by omega
  rcases this with rfl | rfl | rfl | rfl | rfl | rfl | rfl | rfl
  all_goals
   go_enter Tryz.func77, Tryz.ntmps77
   go_wp2_with fail
   go_ret
   exact ⟨⟨_, rfl, .inr ⟨by decide, _, rfl, heap_alloc_new _ _⟩, HOWN.out _ _⟩, below_alloc _ _⟩
 ·have h1 : (k == 1) = false := by simp; omega
  have h2 : (k == 2) = false := by simp; omega
  have h3 : (k == 3) = false := by simp; omega
  have h4 : (k == 4) = false := by simp; omega
  have h5 : (k == 5) = false := by simp; omega
  have h6 : (k == 6) = false := by simp; omega
  have h7 : (k == 7) = false := by simp; omega
  have h8 : (k == 8) = false := by simp; omega
  have hr : Hid (rowE k = []) := by
   show _ = _
   unfold rowE
   rw [if_neg (by omega), if_neg (by omega), if_neg (by omega), if_neg (by omega), if_neg (by omega), if_neg (by omega)]
  clear h
  go_enter Tryz.func77, Tryz.ntmps77
  go_wp2_with fail
  go_ret
  rw [hr.out]
  exact ⟨⟨_, rfl, HNIL.out _⟩, Below.refl _ _⟩
end Go.Proofs.YtjldbbcdhdfliaaGreatDoor
