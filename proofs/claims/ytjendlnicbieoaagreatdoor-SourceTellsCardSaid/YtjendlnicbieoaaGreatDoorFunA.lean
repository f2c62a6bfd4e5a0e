/-
  Blocks, frames, and how programs lie in memory (rows of numbers, of nodes, of functions). Plain, no walk.
-/
import Derived.Test.YtjendlnicbieoaaGreatDoorRows
import Derived.WalkKit
import Derived.WalkSpells
import Derived.WalkLawsBesides
import Derived.WalkSmall
import Derived.Laws.Rows
import Derived.OneCell
import Derived.Deep.Cut
import Derived.Deep.CutBlock
import Derived.Deep.CutRange
import Derived.Deep.QuietTactic
import Derived.BigQuiet
import Derived.LoopTactic
import Derived.RegionTactic
import Derived.Lib.QuietBelow
import Derived.Test.YtjendlnicbieoaaGreatDoorPlA
namespace Go.Proofs.YtjendlnicbieoaaGreatDoor
open Go.RowKit

def Rng (n : Int) : Prop := -9223372036854775808 ≤ n ∧ n ≤ 9223372036854775807
theorem ret_bool {a b : Bool} (h : a = b) : Ending.returned (.bool a) = .returned (.bool b) := by rw [h]
theorem lt_of_heap {w : World} {b : Nat} {o : Obj} (h : w.heap[b]? = some o) : b < w.heap.size := by
  rcases Nat.lt_or_ge b w.heap.size with h' | h'
  · exact h'
  · simp [Array.getElem?_eq_none h'] at h
/-- What a call may turn: the blocks of S, and what is new. -/
structure Fr (S : Nat → Prop) (w w' : World) : Prop where
  os : w'.os = w.os
  tape : w'.tape = w.tape
  output : w'.output = w.output
  size : w.heap.size ≤ w'.heap.size
  block : ∀ k, k < w.heap.size → ¬ S k → w'.heap[k]? = w.heap[k]?
section
variable {S S' : Nat → Prop} {w w1 w2 : World}
theorem Fr.refl (S : Nat → Prop) (w : World) : Fr S w w := ⟨rfl, rfl, rfl, Nat.le_refl _, fun _ _ _ => rfl⟩
/-- One call behind another: what the second one may turn, the first one may, or it is new. -/
theorem Fr.trans (h : Fr S w w1) (h' : Fr S' w1 w2) (hS : ∀ k, k < w.heap.size → S' k → S k) : Fr S w w2 :=
  ⟨h'.os.trans h.os, h'.tape.trans h.tape, h'.output.trans h.output, Nat.le_trans h.size h'.size, fun k h1 h2 => (h'.block k (Nat.lt_of_lt_of_le h1 h.size) (fun e => h2 (hS k h1 e))).trans (h.block k h1 h2)⟩
theorem Fr.same (h : Fr S w w1) (h' : Fr S w1 w2) : Fr S w w2 := h.trans h' fun _ _ e => e
theorem Fr.more (h : Fr S w w1) (hS : ∀ k, k < w.heap.size → S k → S' k) : Fr S' w w1 := ⟨h.os, h.tape, h.output, h.size, fun k h1 h2 => h.block k h1 fun e => h2 (hS k h1 e)⟩
theorem Fr.alloc (o : Obj) : Fr S w (w.alloc o) := ⟨rfl, rfl, rfl, by simp, fun _ h1 _ => Below.heap_alloc _ _ _ h1⟩
theorem Fr.set {q : Addr} {u : Value} (hq : S q.block ∨ w.heap.size ≤ q.block) : Fr S w (w.setCell q u) :=
  ⟨rfl, rfl, rfl, by simp [World.setCell], fun k h1 h2 => Below.heap_setCell _ _ _ _ (by rcases hq with h | h; (intro e; subst e; exact h2 h); omega)⟩
theorem Fr.drew : Fr S w w.drew := ⟨rfl, rfl, rfl, Nat.le_refl _, fun _ _ _ => rfl⟩
theorem Fr.drewN (n : Nat) : Fr S w (w.drewN n) := ⟨rfl, rfl, rfl, Nat.le_refl _, fun _ _ _ => rfl⟩
theorem Fr.below {B : Nat} (h : Below B w w1) (hB : ∀ k, B ≤ k → k < w.heap.size → S k) : Fr S w w1 :=
  ⟨h.os, h.tape, h.output, h.size, fun k h1 h2 => h.block k (by rcases Nat.lt_or_ge k B with h3 | h3; (exact h3); exact absurd (hB k h3 h1) h2)⟩
theorem Fr.belowAll (h : Below w.heap.size w w1) : Fr S w w1 := Fr.below h fun k h1 h2 => by omega
theorem Fr.toBelow (h : Fr S w w1) (B : Nat) (hS : ∀ k, k < B → ¬ S k) (hB : B ≤ w.heap.size) : Below B w w1 := ⟨h.os, h.tape, h.output, h.size, fun k h1 => h.block k (by omega) (hS k h1)⟩
theorem Fr.grown {row : Option Nat} (h : w.grownBy w1 row) (hr : ∀ g, row = some g → S g ∨ w.heap.size ≤ g) : Fr S w w1 :=
  ⟨h.os, h.tape, h.output, h.size, fun k h1 h2 => h.block k h1 (fun e => by rcases hr k e.symm with h3 | h3; (exact h2 h3); omega)⟩
theorem Fr.cell {k o : Nat} (h : Fr S w w1) (h1 : k < w.heap.size) (h2 : ¬ S k) : w1.cell? ⟨k, o, none⟩ = w.cell? ⟨k, o, none⟩ := World.cell?_of_block (w := w) (h.block k h1 h2)
end
/-- A block of cells. -/
def Blk (w : World) (g : Nat) (t : TypeId) (cs : List Value) : Prop := w.heap[g]? = some (.cells cs.toArray t (0, 0))
section
variable {w w' : World} {g : Nat} {t : TypeId} {cs : List Value}
theorem Blk.lt (h : Blk w g t cs) : g < w.heap.size := lt_of_heap h
theorem Blk.new (w : World) (t : TypeId) (cs : List Value) : Blk (w.alloc (.cells cs.toArray t)) w.heap.size t cs := heap_alloc_new w _
theorem Blk.c (h : Blk w g t cs) (i : Nat) {v : Value} (hi : cs[i]? = some v) : w.cell? ⟨g, i, none⟩ = some v := by
  unfold Blk at h
  unfold World.cell?
  simp only [h]
  simpa using hi
theorem Blk.fz (h : Blk w g t cs) (o : Nat) : w.frozen? ⟨g, o, none⟩ = false := by unfold Blk at h; simp [World.frozen?, h]
theorem Blk.drew (h : Blk w g t cs) : Blk w.drew g t cs := h
theorem Blk.drewN (h : Blk w g t cs) (n : Nat) : Blk (w.drewN n) g t cs := h
theorem Blk.alloc (h : Blk w g t cs) (o : Obj) : Blk (w.alloc o) g t cs := (Below.heap_alloc w o g h.lt).trans h
theorem Blk.set (h : Blk w g t cs) (i : Nat) (u : Value) : Blk (w.setCell ⟨g, i, none⟩ u) g t (cs.set i u) := by
  unfold Blk at h ⊢
  simp [World.setCell, Array.getElem?_modify, h]
theorem Blk.far (h : Blk w g t cs) {q : Addr} (hq : g ≠ q.block) (u : Value) : Blk (w.setCell q u) g t cs := (Below.heap_setCell w q u g hq).trans h
theorem Blk.fr {S : Nat → Prop} (h : Blk w g t cs) (hf : Fr S w w') (hg : ¬ S g) : Blk w' g t cs := (hf.block g h.lt hg).trans h
theorem Blk.below {B : Nat} (h : Blk w g t cs) (hb : Below B w w') (hg : g < B) : Blk w' g t cs := (hb.block g hg).trans h
theorem Blk.belowAll (h : Blk w g t cs) (hb : Below w.heap.size w w') : Blk w' g t cs := (hb.block g h.lt).trans h
end

/-- A row of numbers. -/
def IsI (ok : Nat → Prop) (w : World) (l : List Int) (a : Option Addr) : Prop := ∀ (j : Nat) (x : Int), l[j]? = some x → ∃ g o : Nat, a = some ⟨g, o, none⟩ ∧ ok g ∧ w.cell? ⟨g, o + j, none⟩ = some (.int .i64 x) ∧ Rng x
/-- A row of nodes. -/
def IsNs (ok : Nat → Prop) (w : World) (l : List Nd) (a : Option Addr) : Prop := ∀ (j : Nat) (x : Nd), l[j]? = some x → ∃ (g o : Nat) (la : Option Addr) (cap : Nat), a = some ⟨g, o, none⟩ ∧ ok g ∧
  w.cell? ⟨g, o + j * 3, none⟩ = some (.int .i64 x.op) ∧ w.cell? ⟨g, o + j * 3 + 1, none⟩ = some (.int .i64 x.n) ∧ w.cell? ⟨g, o + j * 3 + 2, none⟩ = some (.slice la x.l.length cap) ∧
  x.l.length ≤ cap ∧ cap ≤ maxLen ∧ IsI ok w x.l la ∧ Rng x.op ∧ Rng x.n
/-- A row of functions. -/
def IsFs (ok : Nat → Prop) (w : World) (l : List Fn) (a : Option Addr) : Prop := ∀ (j : Nat) (f : Fn), l[j]? = some f → ∃ (g o : Nat) (na : Option Addr) (cap : Nat), a = some ⟨g, o, none⟩ ∧ ok g ∧
  w.cell? ⟨g, o + j * 2, none⟩ = some (.int .i64 f.ps) ∧ w.cell? ⟨g, o + j * 2 + 1, none⟩ = some (.slice na f.ns.length cap) ∧
  f.ns.length ≤ cap ∧ cap ≤ maxLen ∧ IsNs ok w f.ns na ∧ Rng f.ps
section
variable {ok ok' : Nat → Prop} {w w' : World}
theorem IsI.keep (h : ∀ g, ok g → ∀ o, w'.cell? ⟨g, o, none⟩ = w.cell? ⟨g, o, none⟩) {l : List Int} {a : Option Addr} (hi : IsI ok w l a) : IsI ok w' l a := by
  intro j x hx
  obtain ⟨g, o, h1, h2, h3, h4⟩ := hi j x hx
  exact ⟨g, o, h1, h2, (h g h2 _).trans h3, h4⟩
theorem IsI.more (h : ∀ g, ok g → ok' g) {l : List Int} {a : Option Addr} (hi : IsI ok w l a) : IsI ok' w l a := by
  intro j x hx
  obtain ⟨g, o, h1, h2, h3, h4⟩ := hi j x hx
  exact ⟨g, o, h1, h g h2, h3, h4⟩
theorem IsNs.keep (h : ∀ g, ok g → ∀ o, w'.cell? ⟨g, o, none⟩ = w.cell? ⟨g, o, none⟩) {l : List Nd} {a : Option Addr} (hi : IsNs ok w l a) : IsNs ok w' l a := by
  intro j x hx
  obtain ⟨g, o, la, cap, h1, h2, h3, h4, h5, h6, h7, h8, h9⟩ := hi j x hx
  exact ⟨g, o, la, cap, h1, h2, (h g h2 _).trans h3, (h g h2 _).trans h4, (h g h2 _).trans h5, h6, h7, h8.keep h, h9⟩
theorem IsNs.more (h : ∀ g, ok g → ok' g) {l : List Nd} {a : Option Addr} (hi : IsNs ok w l a) : IsNs ok' w l a := by
  intro j x hx
  obtain ⟨g, o, la, cap, h1, h2, h3, h4, h5, h6, h7, h8, h9⟩ := hi j x hx
  exact ⟨g, o, la, cap, h1, h g h2, h3, h4, h5, h6, h7, h8.more h, h9⟩
theorem IsFs.keep (h : ∀ g, ok g → ∀ o, w'.cell? ⟨g, o, none⟩ = w.cell? ⟨g, o, none⟩) {l : List Fn} {a : Option Addr} (hi : IsFs ok w l a) : IsFs ok w' l a := by
  intro j x hx
  obtain ⟨g, o, la, cap, h1, h2, h3, h4, h5, h6, h7, h8⟩ := hi j x hx
  exact ⟨g, o, la, cap, h1, h2, (h g h2 _).trans h3, (h g h2 _).trans h4, h5, h6, h7.keep h, h8⟩
theorem IsFs.more (h : ∀ g, ok g → ok' g) {l : List Fn} {a : Option Addr} (hi : IsFs ok w l a) : IsFs ok' w l a := by
  intro j x hx
  obtain ⟨g, o, la, cap, h1, h2, h3, h4, h5, h6, h7, h8⟩ := hi j x hx
  exact ⟨g, o, la, cap, h1, h g h2, h3, h4, h5, h6, h7.more h, h8⟩
/-- What a frame keeps: the blocks read lie outside what may turn. -/
theorem IsNs.fr {S : Nat → Prop} {l : List Nd} {a : Option Addr} (hi : IsNs ok w l a) (hf : Fr S w w') (h : ∀ g, ok g → g < w.heap.size ∧ ¬ S g) : IsNs ok w' l a := hi.keep fun g hg _ => hf.cell (h g hg).1 (h g hg).2
theorem IsI.fr {S : Nat → Prop} {l : List Int} {a : Option Addr} (hi : IsI ok w l a) (hf : Fr S w w') (h : ∀ g, ok g → g < w.heap.size ∧ ¬ S g) : IsI ok w' l a := hi.keep fun g hg _ => hf.cell (h g hg).1 (h g hg).2
theorem IsFs.fr {S : Nat → Prop} {l : List Fn} {a : Option Addr} (hi : IsFs ok w l a) (hf : Fr S w w') (h : ∀ g, ok g → g < w.heap.size ∧ ¬ S g) : IsFs ok w' l a := hi.keep fun g hg _ => hf.cell (h g hg).1 (h g hg).2
theorem IsNs.below {B : Nat} {l : List Nd} {a : Option Addr} (hi : IsNs (· < B) w l a) (hb : Below B w w') : IsNs (· < B) w' l a := hi.keep fun g hg o => hb.cell (p := ⟨g, o, none⟩) hg
theorem IsI.below {B : Nat} {l : List Int} {a : Option Addr} (hi : IsI (· < B) w l a) (hb : Below B w w') : IsI (· < B) w' l a := hi.keep fun g hg o => hb.cell (p := ⟨g, o, none⟩) hg
theorem IsFs.below {B : Nat} {l : List Fn} {a : Option Addr} (hi : IsFs (· < B) w l a) (hb : Below B w w') : IsFs (· < B) w' l a := hi.keep fun g hg o => hb.cell (p := ⟨g, o, none⟩) hg
end
end Go.Proofs.YtjendlnicbieoaaGreatDoor
/-
  Walks over package fun and the reference of layer 6: what an Op may have beneath it, which number a node may have.
-/
namespace Go.Proofs.YtjendlnicbieoaaGreatDoor
open Go.RowKit

/-- The least and the greatest number of children of an Op; is it one? -/
def kidsR (op : Int) : Int × Int × Bool :=
  if op = 1 ∨ op = 2 ∨ op = 15 ∨ op = 19 ∨ op = 3 then (0, 0, true)
  else if op = 11 ∨ op = 12 ∨ op = 17 ∨ op = 18 ∨ op = 24 then (1, 1, true)
  else if op = 4 ∨ op = 6 ∨ op = 7 ∨ op = 8 ∨ op = 9 ∨ op = 10 ∨ op = 16 then (2, 2, true)
  else if op = 5 then (3, 3, true)
  else if op = 13 ∨ op = 14 ∨ op = 22 ∨ op = 23 then (0, 8, true)
  else if op = 20 then (0, 16, true)
  else if op = 21 then (1, 9, true)
  else (0, 0, false)
theorem kidsR_ok (op : Int) (m : Nat) : kidsOk op m = ((kidsR op).2.2 && decide ((kidsR op).1 ≤ (m : Int)) && decide ((m : Int) ≤ (kidsR op).2.1)) := by
  unfold kidsOk kidsR
  repeat' split
  all_goals first
    | omega
    | (rw [Bool.eq_iff_iff]; simp; omega)
    | (rw [Bool.eq_iff_iff]; simp)
set_option maxRecDepth 100000 in
set_option maxHeartbeats 4000000 in
theorem children_any (op : Int) (w : World) : Calls Tryz.prog 93 #[.int .i64 op] w fun e w' => e = .returned (.tuple #[.int .i64 (kidsR op).1, .int .i64 (kidsR op).2.1, .bool (kidsR op).2.2]) ∧ w = w' := by
  go_enter Tryz.func93, Tryz.ntmps93
  go_wp2_with fail
  all_goals go_ret3
  all_goals refine ⟨?_, rfl⟩
  all_goals simp_all [kidsR]
set_option maxHeartbeats 1000000 in
theorem fnames_any (op : Int) (w : World) : Calls Tryz.prog 107 #[.int .i64 op] w fun e w' => e = .returned (.bool (namesOp op)) ∧ w = w' := by
  go_enter Tryz.func107, Tryz.ntmps107
  go_wp2_with fail
  all_goals go_ret
  all_goals refine ⟨ret_bool ?_, rfl⟩
  all_goals (simp_all [namesOp]) <;> first
    | omega
    | (rw [Bool.eq_iff_iff]; simp; done)
    | (rw [Bool.eq_iff_iff]; simp; omega)
set_option maxHeartbeats 1000000 in
theorem rnames_any (op : Int) (w : World) : Calls Tryz.prog 129 #[.int .i64 op] w fun e w' => e = .returned (.bool (namesOp op)) ∧ w = w' := by
  go_enter Tryz.func129, Tryz.ntmps129
  go_wp2_with fail
  all_goals go_ret
  all_goals refine ⟨ret_bool ?_, rfl⟩
  all_goals (simp_all [namesOp]) <;> first
    | omega
    | (rw [Bool.eq_iff_iff]; simp; done)
    | (rw [Bool.eq_iff_iff]; simp; omega)
set_option maxRecDepth 100000 in
set_option maxHeartbeats 4000000 in
theorem beneath_any (op : Int) (m : Nat) (w : World) : Calls Tryz.prog 116 #[.int .i64 op, .int .i64 (m : Nat)] w fun e w' => e = .returned (.bool (kidsOk op m)) ∧ w = w' := by
  go_enter Tryz.func116, Tryz.ntmps116
  go_wp2_with fail
  all_goals go_ret
  all_goals refine ⟨ret_bool ?_, rfl⟩
  all_goals (simp_all [kidsOk]) <;> first
    | omega
    | (rw [Bool.eq_iff_iff]; simp; done)
    | (rw [Bool.eq_iff_iff]; simp; omega)
/-- A node as a value. -/
def ndV (x : Nd) (la : Option Addr) (cap : Nat) : Value := .agg #[.int .i64 x.op, .int .i64 x.n, .slice la x.l.length cap]
theorem bnd_box (w : World) (v : Value) (b0 b1 b2 : Value) (_hv : v = .agg #[b0, b1, b2]) : Blk (w.alloc (.cells #[b0, b1, b2] 59)) w.heap.size 59 [b0, b1, b2] := Blk.new w _ [b0, b1, b2]
set_option maxRecDepth 100000 in
set_option maxHeartbeats 4000000 in
theorem fnumber_any (x : Nd) (la : Option Addr) (cap : Nat) (d : Int) (w : World) : Calls Tryz.prog 94 #[ndV x la cap, .int .i64 d] w fun e w' => e = .returned (.bool (numOk x.op x.n d)) ∧ Below w.heap.size w w' := by
  have hb := Blk.new w 59 [.int .i64 x.op, .int .i64 x.n, .slice la x.l.length cap]
  have c0 := hb.c 0 rfl
  have c1 := hb.c 1 rfl
  have c2 := hb.c 2 rfl
  have hbl : Below w.heap.size w (w.alloc (.cells #[.int .i64 x.op, .int .i64 x.n, .slice la x.l.length cap] 59)) := (Below.refl _ _).alloc (Nat.le_refl _) _
  unfold ndV
  obtain ⟨op, n, l⟩ := x
  dsimp only at *
  go_enter Tryz.func94, Tryz.ntmps94
  go_wp2_with (go_at_call 107; refine (fnames_any op _).mono ?_; rintro e w1 ⟨rfl, rfl⟩)
  all_goals go_ret
  all_goals refine ⟨ret_bool ?_, hbl⟩
  all_goals (simp_all [numOk]) <;> first
    | omega
    | (rw [Bool.eq_iff_iff]; simp; done)
    | (rw [Bool.eq_iff_iff]; simp; omega)
end Go.Proofs.YtjendlnicbieoaaGreatDoor
/-
  Walks over the reference of layers 6 and 7 and package program: numbers of nodes, what fits a function.
-/
namespace Go.Proofs.YtjendlnicbieoaaGreatDoor
open Go.RowKit

theorem wrap64_id {n : Int} (h1 : -9223372036854775808 ≤ n) (h2 : n ≤ 9223372036854775807) : wrap64 n = n := by
  unfold wrap64
  omega

set_option maxRecDepth 100000 in
set_option maxHeartbeats 4000000 in
theorem rnumber_any (op n d : Int) (w : World) : Calls Tryz.prog 117 #[.int .i64 op, .int .i64 n, .int .i64 d] w fun e w' => e = .returned (.bool (numOk op n d)) ∧ w = w' := by
  obtain ⟨x, hx⟩ : ∃ x, namesOp op = x := ⟨_, rfl⟩
  go_enter Tryz.func117, Tryz.ntmps117
  go_wp2_with (go_at_call 129; refine (rnames_any op _).mono ?_; rintro e w1 ⟨rfl, rfl⟩; rw [hx])
  all_goals go_ret
  all_goals refine ⟨ret_bool ?_, rfl⟩
  all_goals
    have h1 : op = 1 → namesOp op = false := by rintro rfl; rfl
    have h3 : op = 3 → namesOp op = false := by rintro rfl; rfl
    unfold numOk
    by_cases q1 : op = 1 <;> by_cases q3 : op = 3
  all_goals (simp_all) <;> first
    | omega
    | (rw [Bool.eq_iff_iff]; simp; done)
    | (rw [Bool.eq_iff_iff]; simp; omega)
/-- How many parameters the function that a node names has. -/
def wantN (x : Nd) : Int := if x.op = 23 then (x.l.length : Int) + 1 else (x.l.length : Int)
theorem fitN_want (x : Nd) (ps : Int) : fitN x ps = (ps == wantN x) := by
  unfold fitN wantN
  split <;> rfl
set_option maxRecDepth 100000 in
set_option maxHeartbeats 4000000 in
theorem fits_any (x : Nd) (hx : x.l.length ≤ 1000000) (la : Option Addr) (cap : Nat) (ps : Int) (w : World) : Calls Tryz.prog 92 #[ndV x la cap, .int .i64 ps] w fun e w' => e = .returned (.bool (fitN x ps)) ∧ Below w.heap.size w w' := by
  have hb := Blk.new w 59 [.int .i64 x.op, .int .i64 x.n, .slice la x.l.length cap]
  have c0 := hb.c 0 rfl
  have c1 := hb.c 1 rfl
  have c2 := hb.c 2 rfl
  have hbl : Below w.heap.size w (w.alloc (.cells #[.int .i64 x.op, .int .i64 x.n, .slice la x.l.length cap] 59)) := (Below.refl _ _).alloc (Nat.le_refl _) _
  unfold ndV
  obtain ⟨op, n, l⟩ := x
  have hwr : wrap64 ((l.length : Int) + 1) = (l.length : Int) + 1 := wrap64_id (by omega) (by dsimp only at hx; omega)
  dsimp only at *
  go_enter Tryz.func92, Tryz.ntmps92
  go_wp2_with fail
  all_goals go_ret
  all_goals refine ⟨ret_bool ?_, hbl⟩
  all_goals simp_all [fitN]
set_option maxRecDepth 100000 in
set_option maxHeartbeats 4000000 in
theorem rpnames_any (x : Nd) (hx : x.l.length ≤ 1000000) (la : Option Addr) (cap : Nat) (w : World) : Calls Tryz.prog 82 #[ndV x la cap] w fun e w' => e = .returned (.tuple #[.int .i64 (if namesOp x.op = true then wantN x else 0), .bool (namesOp x.op)]) ∧ Below w.heap.size w w' := by
  have hb := Blk.new w 59 [.int .i64 x.op, .int .i64 x.n, .slice la x.l.length cap]
  have c0 := hb.c 0 rfl
  have c1 := hb.c 1 rfl
  have c2 := hb.c 2 rfl
  have hbl : Below w.heap.size w (w.alloc (.cells #[.int .i64 x.op, .int .i64 x.n, .slice la x.l.length cap] 59)) := (Below.refl _ _).alloc (Nat.le_refl _) _
  unfold ndV
  obtain ⟨op, n, l⟩ := x
  have hwr : wrap64 ((l.length : Int) + 1) = (l.length : Int) + 1 := wrap64_id (by omega) (by dsimp only at hx; omega)
  dsimp only at *
  go_enter Tryz.func82, Tryz.ntmps82
  go_wp2_with fail
  all_goals go_ret2
  all_goals refine ⟨?_, hbl⟩
  all_goals simp_all [wantN, namesOp]
end Go.Proofs.YtjendlnicbieoaaGreatDoor
