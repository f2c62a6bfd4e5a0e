/-
 Checksums of bytes that lie anywhere.
-/
import Derived.Test.YtjldbbcdhdfliaaGreatDoorVh
import Derived.Test.YtjldbbcdhdfliaaGreatDoorTtTu
import Derived.Deep.RegionHeld3
namespace Go.Proofs.YtjldbbcdhdfliaaGreatDoor
open Go.RowKit Go.Sort

/-- These bytes lie there. -/
def Cel (w : World) (g o : Nat) (l : List UInt8) : Prop := ∀ i c, l[i]? = some c → w.cell? ⟨g, o + i, none⟩ = some (.int .u8 (c.toNat : Nat))
theorem Cel.below {B g o : Nat} {w w' : World} {l : List UInt8} (h : Cel w g o l) (hb : Below B w w') (hg : g < B) : Cel w' g o l := fun i c hi => (hb.cell (p := ⟨g, o + i, none⟩) hg).trans (h i c hi)
theorem Cel.take {g o : Nat} {w : World} {l : List UInt8} (h : Cel w g o l) (n : Nat) : Cel w g o (l.take n) := fun i c hi => h i c (by
 rw [List.getElem?_take] at hi
 split at hi
 ·exact hi
 ·cases hi)
set_option maxRecDepth 100000 in
set_option maxHeartbeats 2000000 in
theorem isumC_any (s0 : Nat) (hs : s0 < 4294967296) (g o cap : Nat) (l : List UInt8) (hl : l.length ≤ 100000000000) (w : World) (h : Cel w g o l) : Calls Tryz.prog 120 #[.int .u32 (s0 : Nat), .slice (some ⟨g, o, none⟩) l.length cap] w fun e w' => e = .returned (.int .u32 (sumF s0 l : Nat)) ∧ w = w' := by
 go_enter Tryz.func120, Tryz.ntmps120
 go_wp2_with fail
 go_loop [0, 9] (fun s i => ∃ k : Nat, i = .int .i64 (k : Nat) ∧ k ≤ l.length ∧ s = .int .u32 (sumF s0 (l.take k) : Nat)) (fun _ i => l.length - (intOf i).toNat)
 case atStart => exact ⟨0, rfl, Nat.zero_le _, rfl⟩
 case round =>
  obtain ⟨k, rfl, hk, rfl⟩ := hrel
  by_cases hlt : k < l.length
  ·have hd1 : decide (k < l.length) = true := by simpa using hlt
   have hc := h k l[k] (List.getElem?_eq_getElem hlt)
   have hsn := sumF_snoc s0 (l.take k) l[k]
   rw [← List.take_succ_eq_append_getElem hlt] at hsn
   have hsl := sumF_lt (l.take k) s0 hs
   have HS := Lib.hid hsn
   obtain ⟨S, hS⟩ : ∃ S, sumF s0 (l.take k) = S := ⟨_, rfl⟩
   rw [hS] at hsl ⊢
   have HSS := Lib.hid hS
   have hc8 := l[k].toNat_lt
   obtain ⟨c, hcc⟩ : ∃ c, l[k].toNat = c := ⟨_, rfl⟩
   rw [hcc] at hc hc8
   have HC := Lib.hid hcc
   clear hsn hS hcc
   go_wp2_with fail
   go_round
   case rel => exact ⟨k + 1, by go_num, by omega, by rw [HS.out, HSS.out, HC.out]; congr 1; omega⟩
   case measure => simp [intOf]; omega
  ·have hd1 : decide (k < l.length) = false := by simpa using hlt
   go_wp2_with fail
   go_ret
   rw [List.take_of_length_le (by omega)]
   exact ⟨rfl, rfl⟩
set_option maxRecDepth 100000 in
set_option maxHeartbeats 2000000 in
theorem iSumC_any (g0 o cap : Nat) (l : List UInt8) (hl : l.length ≤ 100000000000) (g : Nat) (w : World) (h : Cel w g0 o l) (hc : w.cell? ⟨g, 0, none⟩ = some (.slice (some ⟨g0, o, none⟩) l.length cap)) : Calls Tryz.prog 88 #[.slice (some ⟨g, 0, none⟩) 1 1] w fun e w' => e = .returned (.int .u32 (sumF 1 l : Nat)) ∧ w = w' := by
 go_enter Tryz.func88, Tryz.ntmps88
 go_wp2_with fail
 go_loop [3, 8] (fun s i => (i = .int .i64 0 ∧ s = .int .u32 1) ∨ (i = .int .i64 1 ∧ s = .int .u32 (sumF 1 l : Nat))) (fun _ i => 1 - (intOf i).toNat)
 case atStart => exact .inl ⟨rfl, rfl⟩
 case round =>
  rcases hrel with ⟨rfl, rfl⟩ | ⟨rfl, rfl⟩
  ·go_wp2_with fail
   refine (isumC_any 1 (by omega) g0 o cap l hl _ h).mono ?_
   rintro e w' ⟨rfl, rfl⟩
   go_wp2_with fail
   go_round
   case rel => exact .inr ⟨by go_num, rfl⟩
   case measure => simp [intOf]
  ·go_wp2_with fail
   go_ret
   exact ⟨rfl, rfl⟩
set_option maxRecDepth 100000 in
set_option maxHeartbeats 2000000 in
theorem tsumC_any (g o cap : Nat) (l : List UInt8) (hl : l.length ≤ 100000000000) (w : World) (hg : g < w.heap.size) (h : Cel w g o l) : Calls Tryz.prog 57 #[.slice (some ⟨g, o, none⟩) l.length cap] w fun e w' => e = .returned (sum4V (sumF 1 l)) ∧ Below w.heap.size w w' := by
 have hsl := sumF_lt l 1 (by omega)
 obtain ⟨S, hS⟩ : ∃ S, sumF 1 l = S := ⟨_, rfl⟩
 rw [hS] at hsl ⊢
 have HSS := Lib.hid hS
 clear hS
 have hb1 := (below_alloc w (.cells #[.int .u8 0, .int .u8 0, .int .u8 0, .int .u8 0] 101)).alloc (by simp) (.cells #[.slice (some ⟨g, o, none⟩) l.length cap] 55)
 have h2 : Cel ((w.alloc (.cells #[.int .u8 0, .int .u8 0, .int .u8 0, .int .u8 0] 101)).alloc (.cells #[.slice (some ⟨g, o, none⟩) l.length cap] 55)) g o l := (h.below (below_alloc _ _) hg).below (below_alloc _ _) (by simp; omega)
 have hc : ((w.alloc (.cells #[.int .u8 0, .int .u8 0, .int .u8 0, .int .u8 0] 101)).alloc (.cells #[.slice (some ⟨g, o, none⟩) l.length cap] 55)).cell? ⟨w.heap.size + 1, 0, none⟩ = some (.slice (some ⟨g, o, none⟩) l.length cap) := by
  have := (B1.new (w.alloc (.cells #[.int .u8 0, .int .u8 0, .int .u8 0, .int .u8 0] 101)) 55 (.slice (some ⟨g, o, none⟩) l.length cap)).c
  rwa [show (w.alloc (.cells #[.int .u8 0, .int .u8 0, .int .u8 0, .int .u8 0] 101)).heap.size = w.heap.size + 1 by simp] at this
 have hr0 : ((w.alloc (.cells #[.int .u8 0, .int .u8 0, .int .u8 0, .int .u8 0] 101)).alloc (.cells #[.slice (some ⟨g, o, none⟩) l.length cap] 55)).heap[w.heap.size]? = some (.cells #[.int .u8 0, .int .u8 0, .int .u8 0, .int .u8 0] 101 (0, 0)) := (Below.heap_alloc _ _ _ (by simp)).trans (heap_alloc_new _ _)
 go_enter Tryz.func57, Tryz.ntmps57
 go_wp2_with fail
 generalize (w.alloc (.cells #[.int .u8 0, .int .u8 0, .int .u8 0, .int .u8 0] 101)).alloc (.cells #[.slice (some ⟨g, o, none⟩) l.length cap] 55) = w2 at *
 refine (iSumC_any g o cap l hl (w.heap.size + 1) w2 h2 hc).mono ?_
 rw [HSS.out]
 rintro e w3 ⟨rfl, rfl⟩
 have c0 : w2.cell? ⟨w.heap.size, 0, none⟩ = some (.int .u8 0) := by simp [World.cell?, hr0]
 have c1 : w2.cell? ⟨w.heap.size, 1, none⟩ = some (.int .u8 0) := by simp [World.cell?, hr0]
 have c2 : w2.cell? ⟨w.heap.size, 2, none⟩ = some (.int .u8 0) := by simp [World.cell?, hr0]
 have c3 : w2.cell? ⟨w.heap.size, 3, none⟩ = some (.int .u8 0) := by simp [World.cell?, hr0]
 have f0 : w2.frozen? ⟨w.heap.size, 0, none⟩ = false := by simp [World.frozen?, hr0]
 have f1 : w2.frozen? ⟨w.heap.size, 1, none⟩ = false := by simp [World.frozen?, hr0]
 have f2 : w2.frozen? ⟨w.heap.size, 2, none⟩ = false := by simp [World.frozen?, hr0]
 have f3 : w2.frozen? ⟨w.heap.size, 3, none⟩ = false := by simp [World.frozen?, hr0]
 have HR := Lib.hid hr0
 clear h2 hc hr0 h hg
 go_wp2_with fail
 have hfin : ((((w2.setCell ⟨w.heap.size, 0, none⟩ (.int .u8 ((S : Int) % 256))).setCell ⟨w.heap.size, 1, none⟩ (.int .u8 ((S : Int) / 256 % 256))).setCell ⟨w.heap.size, 2, none⟩ (.int .u8 ((S : Int) / 65536 % 256))).setCell ⟨w.heap.size, 3, none⟩ (.int .u8 ((S : Int) / 16777216))).heap[w.heap.size]? = some (.cells #[.int .u8 ((S : Int) % 256), .int .u8 ((S : Int) / 256 % 256), .int .u8 ((S : Int) / 65536 % 256), .int .u8 ((S : Int) / 16777216)] 101 (0, 0)) := by
  simp [World.setCell, Array.getElem?_modify, HR.out]
 have hv : sum4V S = .agg #[.int .u8 ((S : Int) % 256), .int .u8 ((S : Int) / 256 % 256), .int .u8 ((S : Int) / 65536 % 256), .int .u8 ((S : Int) / 16777216)] := by
  unfold sum4V
  rw [show (S : Int) / 16777216 % 256 = (S : Int) / 16777216 by omega]
 have hb9 := (((hb1.setCell (p := ⟨w.heap.size, 0, none⟩) (Nat.le_refl _) (.int .u8 ((S : Int) % 256))).setCell (p := ⟨w.heap.size, 1, none⟩) (Nat.le_refl _) (.int .u8 ((S : Int) / 256 % 256))).setCell (p := ⟨w.heap.size, 2, none⟩) (Nat.le_refl _) (.int .u8 ((S : Int) / 65536 % 256))).setCell (p := ⟨w.heap.size, 3, none⟩) (Nat.le_refl _) (.int .u8 ((S : Int) / 16777216))
 generalize (((w2.setCell ⟨w.heap.size, 0, none⟩ (.int .u8 ((S : Int) % 256))).setCell ⟨w.heap.size, 1, none⟩ (.int .u8 ((S : Int) / 256 % 256))).setCell ⟨w.heap.size, 2, none⟩ (.int .u8 ((S : Int) / 65536 % 256))).setCell ⟨w.heap.size, 3, none⟩ (.int .u8 ((S : Int) / 16777216)) = w9 at *
 have d0 : w9.cell? ⟨w.heap.size, 0, none⟩ = some (.int .u8 ((S : Int) % 256)) := by simp [World.cell?, hfin]
 have d1 : w9.cell? ⟨w.heap.size, 1, none⟩ = some (.int .u8 ((S : Int) / 256 % 256)) := by simp [World.cell?, hfin]
 have d2 : w9.cell? ⟨w.heap.size, 2, none⟩ = some (.int .u8 ((S : Int) / 65536 % 256)) := by simp [World.cell?, hfin]
 have d3 : w9.cell? ⟨w.heap.size, 3, none⟩ = some (.int .u8 ((S : Int) / 16777216)) := by simp [World.cell?, hfin]
 rw [hv]
 exact bodyPost_ret (v := .agg #[.int .u8 ((S : Int) % 256), .int .u8 ((S : Int) / 256 % 256), .int .u8 ((S : Int) / 65536 % 256), .int .u8 ((S : Int) / 16777216)]) (by simp [results, Tryz.results57, go_sem, d0, d1, d2, d3]) rfl ⟨rfl, hb9⟩
end Go.Proofs.YtjldbbcdhdfliaaGreatDoor
/-
 Walks over package trace: Decode.
-/
namespace Go.Proofs.YtjldbbcdhdfliaaGreatDoor
open Go.RowKit Go.Sort

/-- The events that stand in bytes. -/
def decL : Nat → List Ev → Int → List UInt8 → Option (List Ev)
 | 0, _, _, _ => none
 | f + 1, done, last, l => if l = [] then some done else match evD last l with
  | none => none
  | some (x, last', l') => decL f (done ++ [x]) last' l'
/-- A trace of bytes. -/
def decE (l : List UInt8) : Option (List Ev) := if l.length < 4 then none
 else if l.drop (l.length - 4) = sum4 (sumF 1 (l.take (l.length - 4))) then decL (l.length + 1) [] 0 (l.take (l.length - 4))
 else none
/-- How Decode ends. -/
def DcEnds (r : Option (List Ev)) (w : World) (e : Ending) (w' : World) : Prop := (match r with
 | some l => ∃ a cap, e = .returned (.tuple #[.slice a l.length cap, .int .i64 0]) ∧ l.length ≤ cap ∧ cap ≤ maxLen ∧ IsEs (fun g => w.heap.size ≤ g ∧ g < w'.heap.size) w' l a
 | none => e = .returned (.tuple #[.slice none 0 0, .int .i64 230])) ∧ Below w.heap.size w w'
set_option maxRecDepth 100000 in
set_option maxHeartbeats 2000000 in
theorem decD_fault (bb eb : Nat) (vb ve : Value) (older : List PanicEntry) (w : World) (hb : B1 w bb 38 vb) (he : B1 w eb 30 ve) (hne : bb ≠ eb) :
  CallsD Tryz.prog 56 #[.pointer (some ⟨eb, 0, none⟩), .pointer (some ⟨bb, 0, none⟩)] (.panicking (FaultE false :: older)) w fun e u' w' =>
   e = .returned (.tuple #[]) ∧ u' = .panicking (FaultE true :: older) ∧ B1 w' bb 38 (.slice none 0 0) ∧ B1 w' eb 30 (.int .i64 230) ∧ ∀ B, B ≤ bb → B ≤ eb → B ≤ w.heap.size → Below B w w' := by
 unfold FaultE
 refine callsD_of_wpS Tryz.func56 rfl fun c₀ cs hu => ?_
 apply wpS_seq
 apply wpS_region
 simp [wpOpsS, go_sem, recoverD, hu, Tryz.ntmps56, Exit.thenS]
 refine (catch_fault eb ve w he).mono ?_
 rintro e w1 ⟨rfl, he1, hg1⟩
 have hb1 := hb.gr hg1 hne
 have c0 := he1.c
 have c1 := hb1.c
 have f1 := hb1.fz 0
 refine wpS_of_wp ?_
 simp only [Array.replicate_succ, Array.replicate_zero, List.push_toArray, List.append_toArray, List.nil_append, List.cons_append, List.setIfInBounds_toArray, List.set_cons_succ, List.set_cons_zero]
 go_wp2_with fail
 refine ⟨rfl, _, rfl, .tuple #[], results_none rfl _ _ _, rfl, rfl, hb1.set _, he1.far (fun e => hne e.symm) _, fun B h1 h2 h3 => ?_⟩
 exact (hg1.belowOf h2 h3).setCell (p := ⟨bb, 0, none⟩) h1 _
set_option maxRecDepth 100000 in
set_option maxHeartbeats 1000000 in
theorem decD_none (bb eb : Nat) (w : World) (he : B1 w eb 30 (.int .i64 0)) :
  CallsD Tryz.prog 56 #[.pointer (some ⟨eb, 0, none⟩), .pointer (some ⟨bb, 0, none⟩)] .returning w fun e u' w' => e = .returned (.tuple #[]) ∧ u' = .returning ∧ w' = w := by
 refine callsD_of_wpS Tryz.func56 rfl fun c₀ cs hu => ?_
 apply wpS_seq
 apply wpS_region
 simp [wpOpsS, go_sem, recoverD, hu, Tryz.ntmps56, Exit.thenS]
 refine (catch_nil _ w).mono ?_
 rintro e w1 ⟨rfl, rfl⟩
 have c0 := he.c
 refine wpS_of_wp ?_
 simp only [Array.replicate_succ, Array.replicate_zero, List.push_toArray, List.append_toArray, List.nil_append, List.cons_append, List.setIfInBounds_toArray, List.set_cons_succ, List.set_cons_zero]
 go_wp2_with fail
 cases c₀
 refine ⟨rfl, _, rfl, .tuple #[], results_none rfl _ _ _, rfl, ?_, rfl⟩
 exact hu
theorem sum_eq {l : List UInt8} {S : Nat} {b0 b1 b2 b3 : UInt8} (_hS : S < 4294967296) (h : l = [b0, b1, b2, b3]) : (l = sum4 S) = (((S : Int) % 256 = (b0.toNat : Nat) ∧ (S : Int) / 256 % 256 = (b1.toNat : Nat)) ∧ (S : Int) / 65536 % 256 = (b2.toNat : Nat) ∧ (S : Int) / 16777216 % 256 = (b3.toNat : Nat)) := by
 subst h
 unfold sum4
 have q : ∀ (b : UInt8) (n : Nat), (b = UInt8.ofNat n) = (n % 256 = b.toNat) := fun b n => by
  apply propext
  constructor
  ·intro e
   rw [e]
   simp
  ·intro e
   have := u8_lt b
   apply UInt8.toNat_inj.1
   simp
   omega
 simp only [List.cons.injEq, and_true, q]
 apply propext
 constructor
 ·rintro ⟨e0, e1, e2, e3⟩
  omega
 ·rintro ⟨⟨e0, e1⟩, e2, e3⟩
  omega
set_option maxHeartbeats 1000000 in
theorem neq4 (s0 s1 s2 s3 t0 t1 t2 t3 : Int) (w : World) : (binOp .neq 101 (.agg #[.int .u8 s0, .int .u8 s1, .int .u8 s2, .int .u8 s3]) (.agg #[.int .u8 t0, .int .u8 t1, .int .u8 t2, .int .u8 t3])).run Tryz.prog w = .ok (.bool (!(decide ((s0 = t0 ∧ s1 = t1) ∧ s2 = t2 ∧ s3 = t3)))) w := by
 have u3 := Tryz.underlying5
 have a3 := Tryz.isAgg5
 have z3 := Tryz.sizeOf5
 simp only [go_sem]
 rw [show (10000 : Nat) = 9999 + 1 from rfl, Op.equalIn]
 simp only [Sem.run_bind, run_underlying Tryz.underlying101, Result.andThen_ok]
 simp only [Std.Legacy.Range.forIn_eq_forIn_range', Std.Legacy.Range.size, Nat.sub_zero, Nat.add_sub_cancel, Nat.div_one, List.range'_succ, List.range'_zero, List.forIn_cons, List.forIn_nil]
 go_simp
 by_cases h1 : s0 = t0 <;> by_cases h2 : s1 = t1 <;> by_cases h3 : s2 = t2 <;> by_cases h4 : s3 = t3 <;> simp [h1, h2, h3, h4]
/-- What is held in the statement that compares the checksums. -/
theorem heldD {w W : World} {g o n : Nat} {b0 b1 b2 b3 : UInt8} (hg : g < w.heap.size) (hc : Cel w g (o + n) [b0, b1, b2, b3]) (h : Below w.heap.size w W) : Below w.heap.size w W ∧ W.cell? ⟨g, o + n, none⟩ = some (.int .u8 (b0.toNat : Nat)) ∧ W.cell? ⟨g, o + n + 1, none⟩ = some (.int .u8 (b1.toNat : Nat)) ∧ W.cell? ⟨g, o + n + 2, none⟩ = some (.int .u8 (b2.toNat : Nat)) ∧ W.cell? ⟨g, o + n + 3, none⟩ = some (.int .u8 (b3.toNat : Nat)) :=
 have h2 := hc.below h hg
 ⟨h, h2 0 b0 rfl, h2 1 b1 rfl, h2 2 b2 rfl, h2 3 b3 rfl⟩
theorem Cel.drop {g o : Nat} {w : World} {l : List UInt8} (h : Cel w g o l) (n : Nat) : Cel w g (o + n) (l.drop n) := fun i c hi => by
 rw [List.getElem?_drop] at hi
 have := h _ _ hi
 rwa [show o + (n + i) = o + n + i by omega] at this
theorem four_of {l : List UInt8} (h : l.length = 4) : ∃ b0 b1 b2 b3, l = [b0, b1, b2, b3] := by
 match l, h with
 | [b0, b1, b2, b3], _ => exact ⟨b0, b1, b2, b3, rfl⟩
theorem arrayAt4 (a : Option Addr) (m c : Nat) (h : 4 ≤ m) (w : World) : (Instr.arrayAt 101 (.slice a m c)).run Tryz.prog w = .ok (.pointer a) w := by
 have h' : ¬ m < 4 := by omega
 unfold Instr.arrayAt
 simp only [Sem.run_bind, run_underlying Tryz.underlying101, Result.andThen_ok]
 rw [if_neg h']
 rfl
/-- What stands in Decode's loop. -/
structure DcI (w : World) (lb eb lo b mb rb g : Nat) (last : Int) (l : List UInt8) (done : List Ev) (v : Value) (xs : List Value) (W : World) : Prop where
 bb : Below w.heap.size w W
 lc : B1 W lb 38 v
 ec : B1 W eb 30 (.int .i64 0)
 acc : AccE lo W done v xs
 rd : Rdr W rb b g last W l
 tt : TabT W b mb
 en : EnvT W
 o1 : w.heap.size ≤ lb
 o2 : lb < eb
 o3 : eb < b
 o4 : eb < mb
 o5 : b < rb
 o6 : mb < rb
 o7 : rb < lo
 o8 : 5 ≤ w.heap.size
 o9 : g < w.heap.size
theorem DcI.new {w W : World} {lb eb b mb g o n : Nat} {l : List UInt8} (hb : Below w.heap.size w W) (hl : B1 W lb 38 (.slice none 0 0)) (he : B1 W eb 30 (.int .i64 0)) (hT : TabT W b mb) (hE : EnvT w) (hg : g < w.heap.size) (hc : Cel w g o l) (hn : l.length = n) (o1 : w.heap.size ≤ lb) (o2 : lb < eb) (o3 : eb < b) (o4 : eb < mb) :
  DcI w lb eb (W.heap.size + 1) b mb W.heap.size g 0 l [] (.slice none 0 0) [] (W.alloc (.cells #[.slice (some ⟨g, o, none⟩) n n, .pointer (some ⟨b, 0, none⟩), .int .i64 0] 107)) := by
 subst hn
 have ha := below_alloc W (.cells #[.slice (some ⟨g, o, none⟩) l.length l.length, .pointer (some ⟨b, 0, none⟩), .int .i64 0] 107)
 have hb2 := hb.trans (ha.mono hb.size)
 have hs := hb.size
 have hs5 := hE.env.size
 exact ⟨hb2, hl.belowAll ha, he.belowAll ha, AccE.nil (by simp), ⟨⟨o, heap_alloc_new _ _, fun i c hi => hc.below hb2 hg i c hi⟩, Below.refl _ _, by omega⟩, hT.belowAll ha, hE.belowAll hb2, o1, o2, o3, o4, hT.lt, hT.m.lt, by omega, hs5, hg⟩
theorem AccE.grown {lo rb : Nat} {w w' : World} {l : List Ev} {v : Value} {xs : List Value} (h : AccE lo w l v xs) (hb : w.grownBy w' (some rb)) (hr : rb < lo) : AccE lo w' l v xs := by
 have hle := h.le
 have hsz := hb.size
 have hne : ∀ q, lo ≤ q → q < w.heap.size → w'.heap[q]? = w.heap[q]? := fun q h1 h2 => hb.block q h2 (by intro e; injection e; omega)
 refine ⟨?_, (h.kids.keep ?_).more ?_, by omega⟩
 ·obtain ⟨h1, h2⟩ := h.row
  refine ⟨h1, ?_⟩
  rcases h2 with h2 | ⟨g, cap, cur, e1, e2, e3, e4⟩
  ·exact .inl h2
  ·exact .inr ⟨g, cap, cur, e1, e2, (hne g e2 (lt_of_heap e3)).trans e3, e4⟩
 ·intro j ⟨g1, g2, _⟩ o
  exact World.cell?_of_block (w := w) (hne j g1 g2)
 ·intro j ⟨g1, g2, g3⟩
  exact ⟨g1, by omega, g3⟩
section
variable {w W W' : World} {lb eb lo b mb rb g : Nat} {last last' : Int} {l l' : List UInt8} {done : List Ev} {v : Value} {xs : List Value}
theorem DcI.grown (h : DcI w lb eb lo b mb rb g last l done v xs W) (hg : W.grownBy W' (some rb)) (hR : Rdr W rb b g last' W' l') : DcI w lb eb lo b mb rb g last' l' done v xs W' := by
 have o1 := h.o1
 have o2 := h.o2
 have o3 := h.o3
 have o5 := h.o5
 have o8 := h.o8
 exact ⟨h.bb.trans (hR.bel.mono (by omega)), (hg.block lb h.lc.lt (by intro e; injection e; omega)).trans h.lc, (hg.block eb h.ec.lt (by intro e; injection e; omega)).trans h.ec, h.acc.grown hg h.o7, ⟨hR.ex, Below.refl _ _, hR.ne⟩, h.tt.below hR.bel h.o5 h.o6, h.en.below hR.bel (by omega), o1, o2, o3, h.o4, o5, h.o6, h.o7, o8, h.o9⟩
theorem DcI.drew (h : DcI w lb eb lo b mb rb g last l done v xs W) : Rdr W rb b g last W.drew l := h.rd.belowB (B := W.heap.size) ⟨rfl, rfl, rfl, Nat.le_refl _, fun _ _ => rfl⟩ h.rd.lt
/-- The row has grown, and is stored. -/
theorem DcI.push {W1 : World} {x : Ev} {v' : Value} {xs' : List Value} (h : DcI w lb eb lo b mb rb g last l done v xs W) (hg : W.grownBy W1 v.ownBlock) (ha : AccE lo W1 (done ++ [x]) v' xs') : DcI w lb eb lo b mb rb g last l (done ++ [x]) v' xs' (W1.setCell ⟨lb, 0, none⟩ v') := by
 have o1 := h.o1
 have o2 := h.o2
 have o3 := h.o3
 have o4 := h.o4
 have o5 := h.o5
 have o6 := h.o6
 have o7 := h.o7
 have hlo := h.acc.le
 have hb : Below lo W W1 := belowG hg hlo fun q hq => (World.ownsRow.lt h.acc.row q hq).1
 have hl1 : B1 W1 lb 38 v := (hb.block lb (by omega)).trans h.lc
 have hs : Below lb W1 (W1.setCell ⟨lb, 0, none⟩ v') := (Below.refl lb W1).setCell (p := ⟨lb, 0, none⟩) (Nat.le_refl _) _
 have hf : ∀ q, q ≠ lb → (W1.setCell ⟨lb, 0, none⟩ v').heap[q]? = W1.heap[q]? := fun q hq => Below.heap_setCell _ _ _ _ hq
 have hk : ∀ q, q < lo → q ≠ lb → (W1.setCell ⟨lb, 0, none⟩ v').heap[q]? = W.heap[q]? := fun q h1 h2 => (hf q h2).trans (hb.block q h1)
 have o8 := h.o8
 have o9 := h.o9
 have hW : Below lb W (W1.setCell ⟨lb, 0, none⟩ v') := (hb.mono (by omega)).trans hs
 obtain ⟨o, hB, hc⟩ := h.rd.ex
 exact ⟨h.bb.trans (hW.mono o1), hl1.set _, (hk eb (by omega) (by omega)).trans h.ec, ha.hi (by simp [World.setCell]) (fun q hq => hf q (by omega)),
  ⟨⟨o, (hk rb o7 (by omega)).trans hB, fun i c hi => (World.cell?_of_block (w := W) (a := ⟨g, o + i, none⟩) (hk g (by omega) (by omega))).trans (hc i c hi)⟩, Below.refl _ _, h.rd.ne⟩,
  ⟨(hk b (by omega) (by omega)).trans h.tt.c, h.tt.m.block (hk mb (by omega) (by omega))⟩, h.en.below hW (by omega), o1, o2, o3, o4, o5, o6, o7, o8, o9⟩
theorem fldD_len {y z : Ev} {i : Nat} {l l' : List UInt8} (h : fldD y i l = some (z, l')) : l'.length ≤ l.length := by
 by_cases h4 : i = 4
 ·subst h4
  unfold fldD at h
  rw [if_pos rfl] at h
  rcases hn : numO 0 0 l with _ | ⟨n, r1⟩
  ·rw [hn] at h
   cases h
  ·rw [hn] at h
   dsimp only at h
   have := congrArg List.length (num_iff.1 hn).1
   simp at this
   split at h
   ·split at h
    ·injection h with h
     injection h with _ h
     rw [← h]
     simp
     omega
    ·cases h
   ·cases h
 ·rw [fldD_num y i l h4] at h
  rcases hn : atD (if i = 2 then 1 else 0) l with _ | ⟨v, r⟩
  ·rw [hn] at h
   cases h
  ·rw [hn] at h
   injection h with h
   injection h with _ h
   rw [← h]
   exact (atD_some hn).2.2
theorem rowD_len : ∀ (is : List Nat) {y z : Ev} {l l' : List UInt8}, rowD y is l = some (z, l') → l'.length ≤ l.length
 | [], y, z, l, l', h => by
  rw [rowD] at h
  injection h with h
  injection h with _ h
  rw [h]
  exact Nat.le_refl _
 | i :: is, y, z, l, l', h => by
  rw [rowD_cons] at h
  rcases hf : fldD y i l with _ | ⟨z2, l2⟩
  ·rw [hf] at h
   cases h
  ·rw [hf] at h
   exact Nat.le_trans (rowD_len is h) (fldD_len hf)
theorem evD_some {x : Ev} {c : UInt8} (h : evD last (c :: l) = some (x, last', l')) (h0 : 0 ≤ last) (h1 : last ≤ 9223372036854775807) : l'.length ≤ l.length ∧ 0 ≤ last' ∧ last' ≤ 9223372036854775807 := by
 rw [evD] at h
 split at h
 ·rcases ha : atD 0 l with _ | ⟨d, l2⟩
  ·rw [ha] at h
   cases h
  ·rw [ha] at h
   obtain ⟨d0, d1, d2⟩ := atD_some ha
   unfold evT at h
   dsimp only at h
   split at h
   ·cases h
   ·rcases hb : atD 0 l2 with _ | ⟨th, l3⟩
    ·rw [hb] at h
     cases h
    ·rw [hb] at h
     obtain ⟨_, _, d3⟩ := atD_some hb
     unfold evR at h
     dsimp only at h
     rcases hr : rowD { k := (c.toNat : Nat), st := last + d, th := th, sy := 0, br := 0, pa := 0, n := 0, v := zeroT } (rowE (c.toNat : Nat)) l3 with _ | ⟨y, l4⟩
     ·rw [hr] at h
      cases h
     ·rw [hr] at h
      have d4 := rowD_len _ hr
      unfold evW at h
      injection h with h
      injection h with _ h
      injection h with h5 h6
      subst h5 h6
      omega
 ·cases h
end
/-- How much is left, out of the reader's cell. -/
def leftN (w : World) (rb : Nat) : Nat := match w.cell? ⟨rb, 0, none⟩ with
 | some (.slice _ n _) => n
 | _ => 0
theorem leftN_of {w W : World} {rb b g : Nat} {last : Int} {l : List UInt8} (h : Rdr w rb b g last W l) : leftN W rb = l.length := by
 obtain ⟨o, hB, _⟩ := h.ex
 unfold RdB at hB
 simp [leftN, World.cell?, hB]
def d11K : List Key := [(some 44, .load 38 (.tmp 2), none), (some 45, .move (.tmp 5), none),
  (some 46, .call { callee := .value (.func 58), args := #[.tmp 45], argTypes := #[103] }, none),
  (some 47, .buildSlice 38 1 #[(0, .tmp 46)], none),
  (some 48, .call { callee := .builtin .append, args := #[.tmp 44, .tmp 47], argTypes := #[38, 38] }, none),
  (none, .store 38 (.tmp 2) (.tmp 48), none)]
def d11E : List (List Nat) := [[], [], [1], [2], [0, 3, 2], [4, 4, 0, 1, 2, 3, 4]]
theorem d11_shape : Shape (ropsOf Tryz.f22 11) d11K d11E := ⟨by kernel_rfl, by kernel_rfl⟩
structure D11I (a0 : Act) (rb : Nat) (W0 : World) (D : Nat → Bool) (a : Act) (W : World) : Prop where
 fr : Upd a0 a 44 5
 sl : Slots [(1, 45, .pointer (some ⟨rb, 0, none⟩))] D a
 w : W = W0
 d2 : D 2 = false
set_option maxRecDepth 100000 in
set_option maxHeartbeats 8000000 in
/-- The statement that appends an event, where there is none. -/
theorem d11_none {ops : Array Oper} {Q : Exit → Act → World → Prop} {a0 : Act} {id rb lb : Nat} {u : Value} {R : World → Prop} {W : World} (hsh : Shape ops d11K d11E) (hsz : 49 ≤ a0.tmps.size) (h2 : a0.eval (.tmp 2) = .pointer (some ⟨lb, 0, none⟩)) (h5 : a0.eval (.tmp 5) = .pointer (some ⟨rb, 0, none⟩))
  (hl : W.drew.cell? ⟨lb, 0, none⟩ = some u) (hev : Calls Tryz.prog 58 #[.pointer (some ⟨rb, 0, none⟩)] W.drew fun e w' => e = Fault ∧ R w')
  (hF : ∀ a w', Upd a0 a 44 5 → R w' → Q (.panic [{ v := .iface 119 (.agg #[.int .i64 230]), recovered := false }]) a w') : (Code.region id ops true).wp Tryz.prog Q a0 W := by
 refine wp_region_inv (by kernel_rfl) (hsh.edged (by decide)) (D11I a0 rb W.drew) ?_ ?_ ?_
 ·exact ⟨Upd.refl _ _ _, fun x _ h => by simp at h, rfl, by simp⟩
 ·rintro D a wr j o hI ho hD hdep
  have hk_ := hsh.key_at ho
  have hasz : a.tmps.size = a0.tmps.size := hI.fr.size
  have hj : j < 6 := by
   rcases Nat.lt_or_ge j 6 with hlt | hge
   ·exact hlt
   ·rw [List.getElem?_eq_none (by simpa [d11K] using hge)] at hk_; cases hk_
  have hdp := fun es => hsh.dep_at ho hdep (es := es)
  clear hdep
  obtain rfl := hI.w
  have hcases : j = 0 ∨ j = 1 ∨ j = 2 ∨ j = 3 ∨ j = 4 ∨ j = 5 := by omega
  rcases hcases with rfl | rfl | rfl | rfl | rfl | rfl
  ·obtain ⟨odst, oop, oty, opos, oaft, ogd⟩ := o
   simp only [key, d11K, List.getElem?_cons_zero, Option.some.injEq, Prod.mk.injEq] at hk_
   obtain ⟨rfl, rfl, rfl⟩ := hk_
   have t2 : a.eval (.tmp 2) = .pointer (some ⟨lb, 0, none⟩) := (hI.fr.eval (by omega)).trans h2
   refine wpOp_of ho rfl (op_load1 rfl t2 (by kernel_rfl) hl ?_)
   exact ⟨hI.fr.put (by omega) (by omega) _, hI.sl.put 0 44 _ (by omega) (by simp), rfl, by rw [upd_ne D (by decide)]; exact hI.d2⟩
  ·obtain ⟨odst, oop, oty, opos, oaft, ogd⟩ := o
   simp only [key, d11K, List.getElem?_cons_zero, List.getElem?_cons_succ, Option.some.injEq, Prod.mk.injEq] at hk_
   obtain ⟨rfl, rfl, rfl⟩ := hk_
   refine wpOp_of ho rfl (op_move rfl ((hI.fr.eval (by omega)).trans h5) ?_)
   exact ⟨hI.fr.put (by omega) (by omega) _, hI.sl.put 1 45 _ (by omega) (by simp), rfl, by rw [upd_ne D (by decide)]; exact hI.d2⟩
  ·obtain ⟨odst, oop, oty, opos, oaft, ogd⟩ := o
   simp only [key, d11K, List.getElem?_cons_zero, List.getElem?_cons_succ, Option.some.injEq, Prod.mk.injEq] at hk_
   obtain ⟨rfl, rfl, rfl⟩ := hk_
   have p1_ : D 1 = true := hdp _ rfl 1 (by decide)
   have s45 : a.eval (.tmp 45) = .pointer (some ⟨rb, 0, none⟩) := hI.sl (1, 45, .pointer (some ⟨rb, 0, none⟩)) (by simp) p1_
   refine wpOp_of ho rfl (op_run (n := .enter 58 #[.pointer (some ⟨rb, 0, none⟩)]) (w' := W.drew) ?_ ?_)
   ·have e1 : a.eval (.func 58) = .func (.func 58) #[] #[] := rfl
    generalize a.eval = ev at *
    unfold execOp
    simp [go_sem, s45, e1]
   ·refine hev.mono ?_
    rintro e w1 ⟨rfl, hr⟩
    exact hF a w1 hI.fr hr
  ·have p2_ : D 2 = true := hdp _ rfl 2 (by decide)
   have := hI.d2
   rw [p2_] at this
   cases this
  ·have p2_ : D 2 = true := hdp _ rfl 2 (by decide)
   have := hI.d2
   rw [p2_] at this
   cases this
  ·have p2_ : D 2 = true := hdp _ rfl 2 (by decide)
   have := hI.d2
   rw [p2_] at this
   cases this
 ·intro D a W' hI hall
  have p2_ : D 2 = true := hall 2 (by rw [hsh.size]; decide)
  have := hI.d2
  rw [p2_] at this
  cases this
end Go.Proofs.YtjldbbcdhdfliaaGreatDoor
