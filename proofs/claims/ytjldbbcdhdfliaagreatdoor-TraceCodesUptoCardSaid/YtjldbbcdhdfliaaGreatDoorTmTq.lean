/-
 Walks over package trace: Parse.
-/
import Derived.Test.YtjldbbcdhdfliaaGreatDoorTj
import Derived.Test.YtjldbbcdhdfliaaGreatDoorTkTl
import Derived.Deep.QuietTactic
import Derived.BigQuiet
import Derived.IntWalk
namespace Go.Proofs.YtjldbbcdhdfliaaGreatDoor
open Go.RowKit Go.Sort

set_option maxRecDepth 100000 in
set_option maxHeartbeats 2000000 in
theorem parseD_fault (xb eb : Nat) (c0 c1 c2 c3 c4 c5 c6 c7 c8 c9 ve : Value) (older : List PanicEntry) (w : World) (hx : BE w xb #[c0, c1, c2, c3, c4, c5, c6, c7, c8, c9]) (he : B1 w eb 30 ve) (hne : xb ≠ eb) :
  CallsD Tryz.prog 32 #[.pointer (some ⟨eb, 0, none⟩), .pointer (some ⟨xb, 0, none⟩)] (.panicking (FaultE false :: older)) w fun e u' w' =>
   e = .returned (.tuple #[]) ∧ u' = .panicking (FaultE true :: older) ∧ BE w' xb zeroC ∧ B1 w' eb 30 (.int .i64 230) ∧ ∀ B, B ≤ xb → B ≤ eb → B ≤ w.heap.size → Below B w w' := by
 unfold FaultE
 refine callsD_of_wpS Tryz.func32 rfl fun c₀ cs hu => ?_
 apply wpS_seq
 apply wpS_region
 simp [wpOpsS, go_sem, recoverD, hu, Tryz.ntmps32, Exit.thenS]
 refine (catch_fault eb ve w he).mono ?_
 rintro e w1 ⟨rfl, he1, hg1⟩
 have hx1 := hx.gr hg1 hne
 have c0 := he1.c
 obtain ⟨x0, x1, x2, x3, x4, x5, x6, x7, x8, x9⟩ := hx1.c
 have f0 := hx1.fz 0
 have f1 := hx1.fz 1
 have f2 := hx1.fz 2
 have f3 := hx1.fz 3
 have f4 := hx1.fz 4
 have f5 := hx1.fz 5
 have f6 := hx1.fz 6
 have f7 := hx1.fz 7
 have f8 := hx1.fz 8
 have f9 := hx1.fz 9
 refine wpS_of_wp ?_
 simp only [Array.replicate_succ, Array.replicate_zero, List.push_toArray, List.append_toArray, List.nil_append, List.cons_append, List.setIfInBounds_toArray, List.set_cons_succ, List.set_cons_zero]
 go_wp2_with fail
 refine ⟨rfl, _, rfl, .tuple #[], results_none rfl _ _ _, rfl, rfl, hx1.put _ _ _ _ _ _ _ _ _ _, ?_, fun B h1 h2 h3 => ?_⟩
 ·exact (put10_block (Ne.symm hne) _ _ _ _ _ _ _ _ _ _).trans he1
 ·exact (hg1.belowOf h2 h3).trans (put10_below h1 _ _ _ _ _ _ _ _ _ _)
set_option maxRecDepth 100000 in
set_option maxHeartbeats 1000000 in
theorem parseD_none (xb eb : Nat) (w : World) (he : B1 w eb 30 (.int .i64 0)) :
  CallsD Tryz.prog 32 #[.pointer (some ⟨eb, 0, none⟩), .pointer (some ⟨xb, 0, none⟩)] .returning w fun e u' w' => e = .returned (.tuple #[]) ∧ u' = .returning ∧ w' = w := by
 refine callsD_of_wpS Tryz.func32 rfl fun c₀ cs hu => ?_
 apply wpS_seq
 apply wpS_region
 simp [wpOpsS, go_sem, recoverD, hu, Tryz.ntmps32, Exit.thenS]
 refine (catch_nil _ w).mono ?_
 rintro e w1 ⟨rfl, rfl⟩
 have c0 := he.c
 refine wpS_of_wp ?_
 simp only [Array.replicate_succ, Array.replicate_zero, List.push_toArray, List.append_toArray, List.nil_append, List.cons_append, List.setIfInBounds_toArray, List.set_cons_succ, List.set_cons_zero]
 go_wp2_with fail
 cases c₀
 refine ⟨rfl, _, rfl, .tuple #[], results_none rfl _ _ _, rfl, ?_, rfl⟩
 exact hu
/-- How Parse ends. -/
def TPEnds (r : Option Ev) (w : World) (e : Ending) (w' : World) : Prop := (match r with
 | some x => ∃ v, e = .returned (.tuple #[v, .int .i64 0]) ∧ IsE (fun g => w.heap.size ≤ g ∧ g < w'.heap.size) w' x v
 | none => e = .returned (.tuple #[.agg zeroC, .int .i64 230])) ∧ Below w.heap.size w w'
set_option maxRecDepth 100000 in
set_option maxHeartbeats 4000000 in
theorem TParse_any (s : ByteArray) (hs : s.size ≤ 10000000) (w : World) (hE : EnvT w) : Calls Tryz.prog 9 #[.string s] w (TPEnds (parseE s) w) := by
 have hmf : ∀ (fn : Fn) (first cap : Array Value) (w : World), (Instr.makeFunc fn first cap).run Tryz.prog w = .ok (.func fn first cap) w := fun _ _ _ _ => rfl
 have h0 : Below w.heap.size w ((w.alloc (.cells zeroC 29)).alloc (.cells #[.int .i64 0] 30)) := (below_alloc _ _).alloc (by simp) _
 have s1 : (w.alloc (.cells zeroC 29)).heap.size = w.heap.size + 1 := by simp
 have hx : BE ((w.alloc (.cells zeroC 29)).alloc (.cells #[.int .i64 0] 30)) w.heap.size zeroC := by
  unfold BE
  rw [Below.heap_alloc _ _ _ (by simp)]
  exact heap_alloc_new _ _
 have he : B1 ((w.alloc (.cells zeroC 29)).alloc (.cells #[.int .i64 0] 30)) (w.heap.size + 1) 30 (.int .i64 0) := by
  have := B1.new (w.alloc (.cells zeroC 29)) 30 (.int .i64 0)
  rwa [s1] at this
 unfold zeroC at h0 hx he
 clear s1
 go_enter_defers Tryz.func9, Tryz.ntmps9
 go_wp2_with fail
 generalize (w.alloc (.cells #[.int .i64 0, .int .i64 0, .int .i64 0, .int .i64 0, .int .i64 0, .int .i64 0, .int .i64 0, .int .i64 0, .int .i64 0, .slice none 0 0] 29)).alloc (.cells #[.int .i64 0] 30) = w1 at *
 refine (tables_any _).mono ?_
 rintro e w2 ⟨b, mb, rfl, hb1, hb2, hT, hb3⟩
 have hbw := h0.trans (hb3.mono h0.size)
 have hx2 := hx.belowAll hb3
 have he2 := he.belowAll hb3
 have hE2 := hE.below hbw hE.env.size
 clear h0 hb3 hx he hE
 go_wp2_with fail
 refine (tparse_any b mb s hs _ hT hE2).mono ?_
 obtain ⟨r, hr⟩ : ∃ r, parseE s = r := ⟨_, rfl⟩
 have HR := Lib.hid hr
 rw [hr]
 clear hr
 rintro e w3 ⟨hp, hb4⟩
 have hbw3 := hbw.trans (hb4.mono hbw.size)
 have hx3 := hx2.belowAll hb4
 have he3 := he2.belowAll hb4
 have hsz2 := he2.lt
 clear hbw hT hx2 he2 hE2
 cases r with
 | none =>
  obtain rfl : e = Fault := hp
  show bodyPostD _ _ _ _ _ _
  refine leaves_cons (f := 32) (args := #[.pointer (some ⟨w.heap.size + 1, 0, none⟩), .pointer (some ⟨w.heap.size, 0, none⟩)]) (by simp) (by simp [go_sem]) ?_
  refine (parseD_fault w.heap.size (w.heap.size + 1) _ _ _ _ _ _ _ _ _ _ _ [] _ hx3 he3 (by omega)).mono ?_
  rintro e u' w5 ⟨rfl, rfl, hx5, he5, hb5⟩
  obtain ⟨x0, x1, x2, x3, x4, x5, x6, x7, x8, x9⟩ := BE.c hx5
  refine ⟨.tuple #[.agg zeroC, .int .i64 230], by simp [results, Tryz.results9, go_sem, x0, x1, x2, x3, x4, x5, x6, x7, x8, x9, he5.c, zeroC], ?_⟩
  exact ⟨rfl, hbw3.trans (hb5 _ (by omega) (by omega) hbw3.size)⟩
 | some x =>
  obtain ⟨v, rfl, hv⟩ := hp
  obtain ⟨kk, nn, a, len, cap, rfl, hv, hrg⟩ := hv
  obtain ⟨x0, x1, x2, x3, x4, x5, x6, x7, x8, x9⟩ := hx3.c
  have f0 := hx3.fz 0
  have f1 := hx3.fz 1
  have f2 := hx3.fz 2
  have f3 := hx3.fz 3
  have f4 := hx3.fz 4
  have f5 := hx3.fz 5
  have f6 := hx3.fz 6
  have f7 := hx3.fz 7
  have f8 := hx3.fz 8
  have f9 := hx3.fz 9
  have g0 := he3.c
  have g1 := he3.fz 0
  unfold evC
  go_wp2_with fail
  have he8 : B1 (put10 w3 w.heap.size (.int .i64 x.k) (.int .i64 x.st) (.int .i64 x.th) (.int .i64 x.sy) (.int .i64 x.br) (.int .i64 x.pa) (.int .i64 x.n) (.int .i64 kk) (.int .i64 nn) (.slice a len cap)) (w.heap.size + 1) 30 (.int .i64 0) := (put10_block (by omega) _ _ _ _ _ _ _ _ _ _).trans he3
  have he9 := he8.set (.int .i64 0)
  have hb9 := (hbw3.trans (put10_below (Nat.le_refl _) (.int .i64 x.k) (.int .i64 x.st) (.int .i64 x.th) (.int .i64 x.sy) (.int .i64 x.br) (.int .i64 x.pa) (.int .i64 x.n) (.int .i64 kk) (.int .i64 nn) (.slice a len cap))).setCell (p := ⟨w.heap.size + 1, 0, none⟩) (by simp) (.int .i64 0)
  have hv9 : IsV (fun g => w.heap.size ≤ g ∧ g < ((put10 w3 w.heap.size (.int .i64 x.k) (.int .i64 x.st) (.int .i64 x.th) (.int .i64 x.sy) (.int .i64 x.br) (.int .i64 x.pa) (.int .i64 x.n) (.int .i64 kk) (.int .i64 nn) (.slice a len cap)).setCell ⟨w.heap.size + 1, 0, none⟩ (.int .i64 0)).heap.size) ((put10 w3 w.heap.size (.int .i64 x.k) (.int .i64 x.st) (.int .i64 x.th) (.int .i64 x.sy) (.int .i64 x.br) (.int .i64 x.pa) (.int .i64 x.n) (.int .i64 kk) (.int .i64 nn) (.slice a len cap)).setCell ⟨w.heap.size + 1, 0, none⟩ (.int .i64 0)) x.v (.agg #[.int .i64 kk, .int .i64 nn, .slice a len cap]) := by
   refine (hv.keep fun g hg o => World.cell?_of_block (w := w3) ((Below.heap_setCell _ ⟨w.heap.size + 1, 0, none⟩ _ g (by simp; omega)).trans (put10_block (j := g) (by omega) _ _ _ _ _ _ _ _ _ _))).more fun g hg => ⟨by omega, ?_⟩
   rw [show ∀ (W : World) (q : Addr) (u : Value), (W.setCell q u).heap.size = W.heap.size from fun W q u => by simp [World.setCell], put10_size]
   exact hg.2
  refine leaves_cons (f := 32) (args := #[.pointer (some ⟨w.heap.size + 1, 0, none⟩), .pointer (some ⟨w.heap.size, 0, none⟩)]) (by simp) (by simp [go_sem]) ?_
  refine (parseD_none w.heap.size (w.heap.size + 1) _ he9).mono ?_
  rintro e u' w5 ⟨rfl, rfl, rfl⟩
  obtain ⟨x0, x1, x2, x3, x4, x5, x6, x7, x8, x9⟩ := BE.c (hx3.put (.int .i64 x.k) (.int .i64 x.st) (.int .i64 x.th) (.int .i64 x.sy) (.int .i64 x.br) (.int .i64 x.pa) (.int .i64 x.n) (.int .i64 kk) (.int .i64 nn) (.slice a len cap))
  refine ⟨.tuple #[.agg (evC x kk nn a len cap), .int .i64 0], by simp [results, Tryz.results9, go_sem, x0, x1, x2, x3, x4, x5, x6, x7, x8, x9, he9.c, evC], ?_⟩
  show TPEnds (parseE s) w _ _
  rw [HR.out]
  exact ⟨⟨_, rfl, kk, nn, a, len, cap, rfl, hv9, hrg⟩, hb9⟩
end Go.Proofs.YtjldbbcdhdfliaaGreatDoor
/-
 Walks over package trace: Read.
-/
namespace Go.Proofs.YtjldbbcdhdfliaaGreatDoor
open Go.RowKit Go.Sort

set_option maxRecDepth 100000 in
set_option maxHeartbeats 2000000 in
theorem readD_fault (lb nb eb ab : Nat) (vl vn ve : Value) (n : Int) (older : List PanicEntry) (w : World) (hl : B1 w lb 38 vl) (hn : B1 w nb 3 vn) (he : B1 w eb 30 ve) (ha : B1 w ab 3 (.int .i64 n)) (h1 : lb < nb) (h2 : nb < eb) (h3 : eb < ab) :
  CallsD Tryz.prog 53 #[.pointer (some ⟨eb, 0, none⟩), .pointer (some ⟨ab, 0, none⟩), .pointer (some ⟨lb, 0, none⟩), .pointer (some ⟨nb, 0, none⟩)] (.panicking (FaultE false :: older)) w fun e u' w' =>
   e = .returned (.tuple #[]) ∧ u' = .panicking (FaultE true :: older) ∧ B1 w' lb 38 (.slice none 0 0) ∧ B1 w' nb 3 (.int .i64 n) ∧ B1 w' eb 30 (.int .i64 230) ∧ ∀ B, B ≤ lb → B ≤ w.heap.size → Below B w w' := by
 unfold FaultE
 refine callsD_of_wpS Tryz.func53 rfl fun c₀ cs hu => ?_
 apply wpS_seq
 apply wpS_region
 simp [wpOpsS, go_sem, recoverD, hu, Tryz.ntmps53, Exit.thenS]
 refine (catch_fault eb ve w he).mono ?_
 rintro e w1 ⟨rfl, he1, hg1⟩
 have hl1 := hl.gr hg1 (by omega)
 have hn1 := hn.gr hg1 (by omega)
 have ha1 := ha.gr hg1 (by omega)
 have c0 := he1.c
 have c1 := hl1.c
 have c2 := hn1.c
 have c3 := ha1.c
 have f1 := hl1.fz 0
 have f2 := hn1.fz 0
 refine wpS_of_wp ?_
 simp only [Array.replicate_succ, Array.replicate_zero, List.push_toArray, List.append_toArray, List.nil_append, List.cons_append, List.setIfInBounds_toArray, List.set_cons_succ, List.set_cons_zero]
 go_wp2_with fail
 refine ⟨rfl, _, rfl, .tuple #[], results_none rfl _ _ _, rfl, rfl, (hl1.set _).far (by simp; omega) _, (hn1.far (by simp; omega) _).set _, (he1.far (by simp; omega) _).far (by simp; omega) _, fun B b1 b2 => ?_⟩
 exact ((hg1.belowOf (by omega) b2).setCell (p := ⟨lb, 0, none⟩) b1 _).setCell (p := ⟨nb, 0, none⟩) (by simp; omega) _
set_option maxRecDepth 100000 in
set_option maxHeartbeats 1000000 in
theorem readD_none (lb nb eb ab : Nat) (w : World) (he : B1 w eb 30 (.int .i64 0)) :
  CallsD Tryz.prog 53 #[.pointer (some ⟨eb, 0, none⟩), .pointer (some ⟨ab, 0, none⟩), .pointer (some ⟨lb, 0, none⟩), .pointer (some ⟨nb, 0, none⟩)] .returning w fun e u' w' => e = .returned (.tuple #[]) ∧ u' = .returning ∧ w' = w := by
 refine callsD_of_wpS Tryz.func53 rfl fun c₀ cs hu => ?_
 apply wpS_seq
 apply wpS_region
 simp [wpOpsS, go_sem, recoverD, hu, Tryz.ntmps53, Exit.thenS]
 refine (catch_nil _ w).mono ?_
 rintro e w1 ⟨rfl, rfl⟩
 have c0 := he.c
 refine wpS_of_wp ?_
 simp only [Array.replicate_succ, Array.replicate_zero, List.push_toArray, List.append_toArray, List.nil_append, List.cons_append, List.setIfInBounds_toArray, List.set_cons_succ, List.set_cons_zero]
 go_wp2_with fail
 cases c₀
 refine ⟨rfl, _, rfl, .tuple #[], results_none rfl _ _ _, rfl, ?_, rfl⟩
 exact hu
/-- How Read ends. -/
def RdEnds (r : Except Nat (List Ev)) (w : World) (e : Ending) (w' : World) : Prop := (match r with
 | .ok l => ∃ a cap, e = .returned (.tuple #[.slice a l.length cap, .int .i64 0, .int .i64 0]) ∧ l.length ≤ cap ∧ cap ≤ maxLen ∧ IsEs (fun g => w.heap.size ≤ g ∧ g < w'.heap.size) w' l a
 | .error j => e = .returned (.tuple #[.slice none 0 0, .int .i64 (j : Nat), .int .i64 230])) ∧ Below w.heap.size w w'
theorem AccE.hi {lo : Nat} {w w' : World} {l : List Ev} {v : Value} {xs : List Value} (h : AccE lo w l v xs) (hsz : w'.heap.size = w.heap.size) (hne : ∀ g, lo ≤ g → w'.heap[g]? = w.heap[g]?) : AccE lo w' l v xs := by
 refine ⟨?_, (h.kids.keep ?_).more ?_, by rw [hsz]; exact h.le⟩
 ·obtain ⟨h1, h2⟩ := h.row
  refine ⟨h1, ?_⟩
  rcases h2 with h2 | ⟨g, cap, cur, e1, e2, e3, e4⟩
  ·exact .inl h2
  ·exact .inr ⟨g, cap, cur, e1, e2, (hne g e2).trans e3, e4⟩
 ·intro j ⟨g1, _, _⟩ o
  exact World.cell?_of_block (w := w) (hne j g1)
 ·intro j ⟨g1, g2, g3⟩
  exact ⟨g1, by omega, g3⟩
/-- What stands in Read's loop. -/
structure RdI (s : ByteArray) (lb nb eb ab b mb lo : Nat) (w W : World) (r : ByteArray) (done : List Ev) (v : Value) (xs : List Value) : Prop where
 l : B1 W lb 38 v
 a : B1 W ab 3 (.int .i64 (done.length : Nat))
 n : B1 W nb 3 (.int .i64 0)
 e : B1 W eb 30 (.int .i64 0)
 acc : AccE lo W done v xs
 tt : TabT W b mb
 bb : Below w.heap.size w W
 en : EnvT W
 rd : readE s = readL done (linesS r)
 z1 : r.size ≤ s.size
 z2 : done.length + r.size ≤ s.size
 o0 : w.heap.size = lb
 o1 : lb + 1 = nb
 o2 : nb + 1 = eb
 o3 : eb + 1 = ab
 o4 : ab < lo
 o5 : b < lo
 o6 : mb < lo
 o7 : ab < b
 o8 : ab < mb
 o9 : 5 ≤ w.heap.size
section
variable {s : ByteArray} {lb nb eb ab b mb lo : Nat} {w W W' : World} {r : ByteArray} {done : List Ev} {v : Value} {xs : List Value}
theorem RdI.below (h : RdI s lb nb eb ab b mb lo w W r done v xs) (hb : Below W.heap.size W W') : RdI s lb nb eb ab b mb lo w W' r done v xs :=
 ⟨h.l.belowAll hb, h.a.belowAll hb, h.n.belowAll hb, h.e.belowAll hb, h.acc.below hb, h.tt.belowAll hb, h.bb.trans (hb.mono h.bb.size), h.en.belowAll hb, h.rd, h.z1, h.z2, h.o0, h.o1, h.o2, h.o3, h.o4, h.o5, h.o6, h.o7, h.o8, h.o9⟩
end
section
variable {s : ByteArray} {lb nb eb ab b mb lo : Nat} {w W : World} {r : ByteArray} {done : List Ev} {v : Value} {xs : List Value}
/-- An event is appended. -/
theorem RdI.next {W1 : World} {r2 : ByteArray} {x : Ev} {v' u : Value} {xs' : List Value} (h : RdI s lb nb eb ab b mb lo w W r done v xs) (hgr : W.grownBy W1 v.ownBlock) (hacc : AccE lo W1 (done ++ [x]) v' xs') (hrd : readE s = readL (done ++ [x]) (linesS r2)) (hz : r2.size < r.size) (hu : u = .int .i64 ((done ++ [x]).length : Nat)) :
  RdI s lb nb eb ab b mb lo w ((W1.setCell ⟨lb, 0, none⟩ v').setCell ⟨ab, 0, none⟩ u) r2 (done ++ [x]) v' xs' := by
 subst hu
 have e0 := h.o0
 have e1 := h.o1
 have e2 := h.o2
 have e3 := h.o3
 have e4 := h.o4
 have e5 := h.o5
 have e6 := h.o6
 have e7 := h.o7
 have e8 := h.o8
 have hle := h.acc.le
 have hf : ∀ j, j < lo → W1.heap[j]? = W.heap[j]? := fun j hj => hgr.block j (by omega) (fun e => by have := (World.ownsRow.lt h.acc.row j e.symm).1; omega)
 have hf2 : ∀ j, j < lo → j ≠ lb → j ≠ ab → ((W1.setCell ⟨lb, 0, none⟩ v').setCell ⟨ab, 0, none⟩ (.int .i64 ((done ++ [x]).length : Nat))).heap[j]? = W.heap[j]? := fun j hj h1 h2 => ((Below.heap_setCell _ ⟨ab, 0, none⟩ _ j h2).trans (Below.heap_setCell _ ⟨lb, 0, none⟩ _ j h1)).trans (hf j hj)
 have hbb : Below w.heap.size W ((W1.setCell ⟨lb, 0, none⟩ v').setCell ⟨ab, 0, none⟩ (.int .i64 ((done ++ [x]).length : Nat))) := ((grown_belowE hgr h.bb.size fun g hg => by have := (World.ownsRow.lt h.acc.row g hg).1; omega).setCell (p := ⟨lb, 0, none⟩) (by simp; omega) _).setCell (p := ⟨ab, 0, none⟩) (by simp; omega) _
 have hl1 : B1 W1 lb 38 v := (hf lb (by omega)).trans h.l
 have ha1 : B1 W1 ab 3 (.int .i64 (done.length : Nat)) := (hf ab (by omega)).trans h.a
 have hz1 := h.z1
 have hz2 := h.z2
 refine ⟨(hl1.set _).far (by simp; omega) _, (ha1.far (by simp; omega) _).set _, (hf2 nb (by omega) (by omega) (by omega)).trans h.n, (hf2 eb (by omega) (by omega) (by omega)).trans h.e, ?_, ⟨(hf2 b (by omega) (by omega) (by omega)).trans h.tt.c, h.tt.m.block (hf2 mb (by omega) (by omega) (by omega))⟩, h.bb.trans hbb, h.en.below hbb h.o9, hrd, by omega, by simp; omega, h.o0, h.o1, h.o2, h.o3, h.o4, h.o5, h.o6, h.o7, h.o8, h.o9⟩
 exact hacc.hi (by simp [World.setCell]) fun g hg => (Below.heap_setCell _ ⟨ab, 0, none⟩ _ g (by simp; omega)).trans (Below.heap_setCell _ ⟨lb, 0, none⟩ _ g (by simp; omega))
theorem RdI.far {W1 : World} (h : RdI s lb nb eb ab b mb lo w W r done v xs) (hgr : W.grownBy W1 v.ownBlock) : B1 W1 lb 38 v ∧ B1 W1 ab 3 (.int .i64 (done.length : Nat)) := by
 have e1 := h.o1
 have e2 := h.o2
 have e3 := h.o3
 have e4 := h.o4
 have hle := h.acc.le
 have hf : ∀ j, j < lo → W1.heap[j]? = W.heap[j]? := fun j hj => hgr.block j (by omega) (fun e => by have := (World.ownsRow.lt h.acc.row j e.symm).1; omega)
 exact ⟨(hf lb (by omega)).trans h.l, (hf ab (by omega)).trans h.a⟩
theorem late_at {x y : Ev} {m : Nat} (hy : done[m]? = some y) (hm : done.length = m + 1) : lateE done x = decide (x.st < y.st) := by
 unfold lateE
 rw [List.getLast?_eq_getElem?, hm, Nat.add_sub_cancel, hy]
/-- Read's last statement. -/
theorem RdI.fin (h : RdI s lb nb eb ab b mb lo w W r done v xs) : B1 (((W.setCell ⟨lb, 0, none⟩ v).setCell ⟨nb, 0, none⟩ (.int .i64 0)).setCell ⟨eb, 0, none⟩ (.int .i64 0)) lb 38 v ∧ B1 (((W.setCell ⟨lb, 0, none⟩ v).setCell ⟨nb, 0, none⟩ (.int .i64 0)).setCell ⟨eb, 0, none⟩ (.int .i64 0)) nb 3 (.int .i64 0) ∧
  B1 (((W.setCell ⟨lb, 0, none⟩ v).setCell ⟨nb, 0, none⟩ (.int .i64 0)).setCell ⟨eb, 0, none⟩ (.int .i64 0)) eb 30 (.int .i64 0) ∧ RdEnds (.ok done) w (.returned (.tuple #[v, .int .i64 0, .int .i64 0])) (((W.setCell ⟨lb, 0, none⟩ v).setCell ⟨nb, 0, none⟩ (.int .i64 0)).setCell ⟨eb, 0, none⟩ (.int .i64 0)) := by
 have e0 := h.o0
 have e1 := h.o1
 have e2 := h.o2
 have e3 := h.o3
 have e4 := h.o4
 obtain ⟨va, vcap, hvf, hc1, hc2, hes⟩ := h.acc.isEs
 refine ⟨((h.l.set _).far (by simp; omega) _).far (by simp; omega) _, ((h.n.far (by simp; omega) _).set _).far (by simp; omega) _, ((h.e.far (by simp; omega) _).far (by simp; omega) _).set _, ⟨va, vcap, by rw [hvf], hc1, hc2, ?_⟩, ?_⟩
 ·refine (hes.keep fun g hg _ => World.cell?_of_block (w := W) (((Below.heap_setCell _ ⟨eb, 0, none⟩ _ g (by simp; omega)).trans (Below.heap_setCell _ ⟨nb, 0, none⟩ _ g (by simp; omega))).trans (Below.heap_setCell _ ⟨lb, 0, none⟩ _ g (by simp; omega)))).more fun g hg => ⟨by omega, ?_⟩
  simpa [World.setCell] using hg.2
 ·exact ((h.bb.setCell (p := ⟨lb, 0, none⟩) (by simp; omega) _).setCell (p := ⟨nb, 0, none⟩) (by simp; omega) _).setCell (p := ⟨eb, 0, none⟩) (by simp; omega) _
end
theorem four_new (w : World) (t0 t1 t2 t3 : TypeId) (v0 v1 v2 v3 : Value) : B1 ((((w.alloc (.cells #[v0] t0)).alloc (.cells #[v1] t1)).alloc (.cells #[v2] t2)).alloc (.cells #[v3] t3)) w.heap.size t0 v0 ∧ B1 ((((w.alloc (.cells #[v0] t0)).alloc (.cells #[v1] t1)).alloc (.cells #[v2] t2)).alloc (.cells #[v3] t3)) (w.heap.size + 1) t1 v1 ∧
  B1 ((((w.alloc (.cells #[v0] t0)).alloc (.cells #[v1] t1)).alloc (.cells #[v2] t2)).alloc (.cells #[v3] t3)) (w.heap.size + 1 + 1) t2 v2 ∧ B1 ((((w.alloc (.cells #[v0] t0)).alloc (.cells #[v1] t1)).alloc (.cells #[v2] t2)).alloc (.cells #[v3] t3)) (w.heap.size + 1 + 1 + 1) t3 v3 ∧
  Below w.heap.size w ((((w.alloc (.cells #[v0] t0)).alloc (.cells #[v1] t1)).alloc (.cells #[v2] t2)).alloc (.cells #[v3] t3)) := by
 have s1 : (w.alloc (.cells #[v0] t0)).heap.size = w.heap.size + 1 := by simp
 have s2 : ((w.alloc (.cells #[v0] t0)).alloc (.cells #[v1] t1)).heap.size = w.heap.size + 1 + 1 := by simp
 have s3 : (((w.alloc (.cells #[v0] t0)).alloc (.cells #[v1] t1)).alloc (.cells #[v2] t2)).heap.size = w.heap.size + 1 + 1 + 1 := by simp
 have h1 := ((B1.new (w.alloc (.cells #[v0] t0)) t1 v1).alloc (.cells #[v2] t2)).alloc (.cells #[v3] t3)
 have h2 := (B1.new ((w.alloc (.cells #[v0] t0)).alloc (.cells #[v1] t1)) t2 v2).alloc (.cells #[v3] t3)
 have h3 := B1.new (((w.alloc (.cells #[v0] t0)).alloc (.cells #[v1] t1)).alloc (.cells #[v2] t2)) t3 v3
 rw [s1] at h1
 rw [s2] at h2
 rw [s3] at h3
 exact ⟨(((B1.new w t0 v0).alloc _).alloc _).alloc _, h1, h2, h3, (((below_alloc _ _).alloc (by simp) _).alloc (by simp; omega) _).alloc (by simp; omega) _⟩
set_option maxRecDepth 100000 in
set_option maxHeartbeats 8000000 in
theorem Read_any (s : ByteArray) (hs : s.size ≤ 1000000) (w : World) (hE : EnvT w) : Calls Tryz.prog 20 #[.string s] w (RdEnds (readE s) w) := by
 have hmf : ∀ (fn : Fn) (first cap : Array Value) (w : World), (Instr.makeFunc fn first cap).run Tryz.prog w = .ok (.func fn first cap) w := fun _ _ _ _ => rfl
 obtain ⟨hl0, hn0, he0, ha0, hb0⟩ := four_new w 38 3 30 3 (.slice none 0 0) (.int .i64 0) (.int .i64 0) (.int .i64 0)
 obtain ⟨i0, hi0, hz0, hz1, hz2⟩ := info_parts ev_info
 obtain ⟨RE, hre⟩ : ∃ RE, readE s = RE := ⟨_, rfl⟩
 have HRE := Lib.hid hre
 rw [hre]
 have hd : decide (4194304 < (s.size : Int)) = false := by simp; omega
 have hd2 : decide (4194304 < s.size) = false := by simp; omega
 clear hre
 go_enter_defers Tryz.func20, Tryz.ntmps20
 go_wp2_with fail
 generalize (((w.alloc (.cells #[.slice none 0 0] 38)).alloc (.cells #[.int .i64 0] 3)).alloc (.cells #[.int .i64 0] 30)).alloc (.cells #[.int .i64 0] 3) = w1 at *
 refine (tables_any _).mono ?_
 rintro e w2 ⟨b, mb, rfl, hb1, hb2, hT, hb3⟩
 have hI0 : RdI s w.heap.size (w.heap.size + 1) (w.heap.size + 1 + 1) (w.heap.size + 1 + 1 + 1) b mb w2.heap.size w w2 s [] (.slice none 0 0) [] :=
  ⟨hl0.belowAll hb3, ha0.belowAll hb3, hn0.belowAll hb3, he0.belowAll hb3, AccE.nil (Nat.le_refl _), hT, hb0.trans (hb3.mono hb0.size), hE.belowAll (hb0.trans (hb3.mono hb0.size)), rfl, Nat.le_refl _, by simp, rfl, rfl, rfl, rfl, (ha0.belowAll hb3).lt, hT.lt, hT.m.lt, Nat.lt_of_lt_of_le ha0.lt hb1, Nat.lt_of_lt_of_le ha0.lt hb2, hE.env.size⟩
 clear hl0 hn0 he0 ha0 hb0 hT hb1 hb2 hb3 hE
 generalize w2.heap.size = lo at hI0
 go_wp2_with fail
 go_loopw [0] (fun sv wr => ∃ (r : ByteArray) (done : List Ev) (v : Value) (xs : List Value), sv = .string r ∧ RdI s w.heap.size (w.heap.size + 1) (w.heap.size + 1 + 1) (w.heap.size + 1 + 1 + 1) b mb lo w wr r done v xs) (fun sv _ => strSize sv)
 case atStart => exact ⟨s, [], _, _, rfl, hI0⟩
 case round =>
  clear hI0
  obtain ⟨r, done, v, xs, rfl, hI⟩ := hrel
  obtain ⟨va, vcap, hvf⟩ := hI.acc.form
  subst hvf
  by_cases hr0 : r.size = 0
  ·obtain rfl : r = ⟨#[]⟩ := by
    obtain ⟨d⟩ := r
    have : d = #[] := Array.eq_empty_of_size_eq_zero hr0
    rw [this]
   have HJ : Hid (RE = .ok done) := by
    show _ = _
    rw [← HRE.out, hI.rd, lines_nil rfl]
    rfl
   obtain ⟨hl9, hn9, he9, hfin⟩ := hI.fin
   have c0 := hI.l.c
   have f0 := hI.l.fz 0
   have c1 := hI.n.c
   have f1 := hI.n.fz 0
   have c2 := hI.e.c
   have f2 := hI.e.fz 0
   clear hI
   go_wp2_with fail
   show bodyPostD Tryz.prog Tryz.f20 (RdEnds RE w) .ret _ _
   refine leaves_cons (f := 53) (args := #[.pointer (some ⟨w.heap.size + 1 + 1, 0, none⟩), .pointer (some ⟨w.heap.size + 1 + 1 + 1, 0, none⟩), .pointer (some ⟨w.heap.size, 0, none⟩), .pointer (some ⟨w.heap.size + 1, 0, none⟩)]) (by simp) (by simp [go_sem]) ?_
   refine (readD_none w.heap.size (w.heap.size + 1) (w.heap.size + 1 + 1) (w.heap.size + 1 + 1 + 1) _ he9).mono ?_
   rintro e u' w5 ⟨rfl, rfl, rfl⟩
   refine ⟨.tuple #[.slice va done.length vcap, .int .i64 0, .int .i64 0], by simp [results, Tryz.results20, go_sem, hl9.c, hn9.c, he9.c], ?_⟩
   show RdEnds RE w _ _
   rw [HJ.out]
   exact hfin
  ·have he1 : r.toList.isEmpty = false := by
    rw [ByteArray.toList_eq]
    simpa using fun e => hr0 (by rw [← ByteArray.size_data]; simp [e])
   have he2 : ¬ r.toList = [] := by intro e; rw [e] at he1; simp at he1
   have hsz := cutA_size r (by omega)
   have HLN := Lib.hid (lines_cons hr0)
   have hzr := hI.z1
   have hzd := hI.z2
   go_wp2_with fail
   refine (cut_any r (by omega) _ hI.en.env).mono ?_
   rintro e w3 ⟨⟨bb, rfl⟩, n1, rfl⟩
   have hI1 := hI.below (W' := wr.drewN n1) ⟨rfl, rfl, rfl, Nat.le_refl _, fun _ _ => rfl⟩
   obtain ⟨A, hA⟩ : ∃ A, A = cutA r := ⟨_, rfl⟩
   obtain ⟨B, hB⟩ : ∃ B, B = cutB r := ⟨_, rfl⟩
   rw [← hA, ← hB] at hsz ⊢
   have HA := Lib.hid hA
   have HB := Lib.hid hB
   clear hA hB hI
   generalize wr.drewN n1 = w3 at *
   go_wp2_with fail
   refine (tparse_any b mb A (by omega) _ hI1.tt hI1.en).mono ?_
   rintro e w4 ⟨hp, hb4⟩
   have hI2 := hI1.below hb4
   rcases hP : parseE A with _ | x
   ·rw [hP] at hp
    obtain rfl : e = Fault := hp
    have HJ : Hid (RE = .error done.length) := by
     show _ = _
     rw [← HRE.out, hI1.rd, HLN.out, readL, ← HA.out, hP]
    show bodyPostD Tryz.prog Tryz.f20 (RdEnds RE w) (.panic [{ v := .iface 119 (.agg #[.int .i64 230]), recovered := false }]) _ _
    refine leaves_cons (f := 53) (args := #[.pointer (some ⟨w.heap.size + 1 + 1, 0, none⟩), .pointer (some ⟨w.heap.size + 1 + 1 + 1, 0, none⟩), .pointer (some ⟨w.heap.size, 0, none⟩), .pointer (some ⟨w.heap.size + 1, 0, none⟩)]) (by simp) (by simp [go_sem]) ?_
    refine (readD_fault w.heap.size (w.heap.size + 1) (w.heap.size + 1 + 1) (w.heap.size + 1 + 1 + 1) _ _ _ _ [] _ hI2.l hI2.n hI2.e hI2.a (by omega) (by omega) (by omega)).mono ?_
    rintro e u' w5 ⟨rfl, rfl, hl5, hn5, he5, hb5⟩
    refine ⟨.tuple #[.slice none 0 0, .int .i64 (done.length : Nat), .int .i64 230], by simp [results, Tryz.results20, go_sem, hl5.c, hn5.c, he5.c], ?_⟩
    show RdEnds RE w _ _
    rw [HJ.out]
    exact ⟨rfl, hI2.bb.trans (hb5 _ (Nat.le_refl _) hI2.bb.size)⟩
   ·rw [hP] at hp
    obtain ⟨v4, rfl, hv4⟩ := hp
    obtain ⟨kk, nn, a, len, cap, rfl, hv4, hrg⟩ := hv4
    have hI3 := hI2.below (below_alloc w4 (.cells (evC x kk nn a len cap) 29))
    have hbe : BE (w4.alloc (.cells (evC x kk nn a len cap) 29)) w4.heap.size (evC x kk nn a len cap) := heap_alloc_new _ _
    have hw4 := hb4.size
    have HRL : Hid (RE = if lateE done x then .error done.length else readL (done ++ [x]) (linesS B)) := by
     show _ = _
     rw [← HRE.out, hI1.rd, HLN.out, readL, ← HA.out, hP, ← HB.out]
    have hkb : ∀ g, some g = (Value.slice va done.length vcap).ownBlock → g < w3.heap.size := fun g hg => (World.ownsRow.lt hI1.acc.row g hg.symm).2
    have hlo3 := hI1.acc.le
    have hv5 : IsV (fun g => lo ≤ g ∧ g < w4.heap.size ∧ some g ≠ (Value.slice va done.length vcap).ownBlock) (w4.alloc (.cells (evC x kk nn a len cap) 29)) x.v (.agg #[.int .i64 kk, .int .i64 nn, .slice a len cap]) :=
     (hv4.keep fun g hg _ => World.cell?_of_block (w := w4) (Below.heap_alloc _ _ _ hg.2)).more fun g hg => ⟨by omega, hg.2, fun e => by have := hkb g e; omega⟩
    clear hP hI1 hI2 hb4 hv4 hkb
    unfold evC at hI3 hbe hv5 ⊢
    go_upto_region 10 with fail
    generalize w4.alloc (.cells #[.int .i64 x.k, .int .i64 x.st, .int .i64 x.th, .int .i64 x.sy, .int .i64 x.br, .int .i64 x.pa, .int .i64 x.n, .int .i64 kk, .int .i64 nn, .slice a len cap] 29) = w5 at *
    obtain ⟨xb, hxb⟩ : ∃ xb, w4.heap.size = xb := ⟨_, rfl⟩
    rw [hxb] at hbe hv5 ⊢
    have HXB := Lib.hid hxb
    obtain ⟨c0, c1, c2, c3, c4, c5, c6, c7, c8, c9⟩ := hbe.c
    have ca := hI3.a.c
    have cl := hI3.l.c
    obtain ⟨n, hn⟩ : ∃ n, done.length = n := ⟨_, rfl⟩
    rw [hn] at ca cl
    have HN := Lib.hid hn
    have HLATE : Hid (lateE done x = (if h : 0 < n then decide (x.st < (done[n - 1]'(by omega)).st) else false)) := by
     show _ = _
     by_cases h : 0 < n
     ·rw [dif_pos h]
      exact late_at (m := n - 1) (List.getElem?_eq_getElem _) (by omega)
     ·rw [dif_neg h]
      have : done = [] := List.eq_nil_of_length_eq_zero (by omega)
      rw [this]
      rfl
    go_cut [41] from 29 to 47 (fun s41 wx => s41 = .bool (lateE done x) ∧ ∃ q, wx = w5.drewN q)
    case first =>
     rcases Nat.eq_zero_or_pos n with h0 | hpos
     ·have hd3 : decide (0 < n) = false := by simp; omega
      have hd4 : decide (0 < (n : Int)) = false := by simp; omega
      have HL2 : Hid (lateE done x = false) := by
       show _ = _
       rw [HLATE.out, dif_neg (by omega)]
      subst h0
      clear hn hxb hd hd2 HLATE
      go_quiet (fail)
      go_wp2_with fail
      go_meet
      exact ⟨by rw [HL2.out], _, rfl⟩
     ·have hd3 : decide (0 < n) = true := by simpa using hpos
      have hd4 : decide (0 < (n : Int)) = true := by simp; omega
      obtain ⟨m, hm⟩ : ∃ m, n = m + 1 := ⟨n - 1, by omega⟩
      have hsub : IntKind.i64.wrap ((n : Int) - 1) = (m : Int) := by rw [hm]; exact (IntWalk.i64_in _ (by omega)).trans (by omega)
      have hmn : m < n := by omega
      have hmn2 : (m : Int) < (n : Int) := by omega
      obtain ⟨y, hy⟩ : ∃ y, done[m]? = some y := ⟨done[m]'(by omega), List.getElem?_eq_getElem _⟩
      have HL2 := Lib.hid (late_at (x := x) hy (by omega))
      obtain ⟨g, cap2, kk2, nn2, a2, len2, cp2, hva, hcel⟩ := hI3.acc.cells hy
      injection hva with hva _ _
      subst hva
      have cy := hcel 1 (.int .i64 y.st) rfl
      rw [Nat.zero_add] at cy
      clear hn hxb hd hd2 hcel hm hy HLATE
      go_quiet (fail)
      go_wp2_with fail
      go_meet
      exact ⟨by rw [HL2.out], _, rfl⟩
    case rest =>
     obtain ⟨rfl, q, rfl⟩ := hcut
     have hI4 := hI3.below (W' := w5.drewN q) ⟨rfl, rfl, rfl, Nat.le_refl _, fun _ _ => rfl⟩
     have hbe4 : BE (w5.drewN q) xb _ := hbe
     clear hI3 hbe c0 c1 c2 c3 c4 c5 c6 c7 c8 c9 ca cl HLATE
     rcases hL : lateE done x with _ | _
     ·have HRD : Hid (readE s = readL (done ++ [x]) (linesS B)) := by
       show _ = _
       rw [HRE.out, HRL.out, hL]
       rfl
      clear hL hn hxb HRL
      have hxlt := hbe4.lt
      have hv6 : IsV (fun g => lo ≤ g ∧ g < (w5.drewN q).heap.size ∧ some g ≠ (Value.slice va done.length vcap).ownBlock) (w5.drewN q) x.v (.agg #[.int .i64 kk, .int .i64 nn, .slice a len cap]) :=
       (IsV.keep (w := w5) (w' := w5.drewN q) (fun g hg _ => rfl) hv5).more fun g hg => ⟨hg.1, Nat.lt_trans hg.2.1 hxlt, hg.2.2⟩
      generalize w5.drewN q = w6 at *
      clear hv5
      obtain ⟨c0, c1, c2, c3, c4, c5, c6, c7, c8, c9⟩ := hbe4.c
      have cl := hI4.l.c
      have hb6 := below_alloc w6 (.cells #[.int .i64 x.k, .int .i64 x.st, .int .i64 x.th, .int .i64 x.sy, .int .i64 x.br, .int .i64 x.pa, .int .i64 x.n, .int .i64 kk, .int .i64 nn, .slice a len cap] 29)
      have hI6 := hI4.below hb6
      have hnb := heap_alloc_new w6 (.cells #[.int .i64 x.k, .int .i64 x.st, .int .i64 x.th, .int .i64 x.sy, .int .i64 x.br, .int .i64 x.pa, .int .i64 x.n, .int .i64 kk, .int .i64 nn, .slice a len cap] 29)
      have hv7 : IsV (fun g => lo ≤ g ∧ g < (w6.alloc (.cells #[.int .i64 x.k, .int .i64 x.st, .int .i64 x.th, .int .i64 x.sy, .int .i64 x.br, .int .i64 x.pa, .int .i64 x.n, .int .i64 kk, .int .i64 nn, .slice a len cap] 29)).heap.size ∧ some g ≠ (Value.slice va done.length vcap).ownBlock) (w6.alloc (.cells #[.int .i64 x.k, .int .i64 x.st, .int .i64 x.th, .int .i64 x.sy, .int .i64 x.br, .int .i64 x.pa, .int .i64 x.n, .int .i64 kk, .int .i64 nn, .slice a len cap] 29)) x.v (.agg #[.int .i64 kk, .int .i64 nn, .slice a len cap]) :=
       (hv6.keep fun g hg _ => World.cell?_of_block (w := w6) (Below.heap_alloc _ _ _ hg.2.1)).more fun g hg => ⟨hg.1, by simp; omega, hg.2.2⟩
      clear hI4 hbe4 hb6 hv6
      go_wp2_with (at_builtin; refine wpList_append_lies _ rfl (.tmp 43) (.tmp 45) 38 rfl lo 29 i0 _ 10 96 Tryz.underlying38 hi0 hz0 hz1 hz2 rfl (by decide) (.slice va done.length vcap) done.length xs rfl hI6.acc.row ⟨w6.heap.size, 0, none⟩ 1 1 [.int .i64 x.k, .int .i64 x.st, .int .i64 x.th, .int .i64 x.sy, .int .i64 x.br, .int .i64 x.pa, .int .i64 x.n, .int .i64 kk, .int .i64 nn, .slice a len cap] rfl rfl (World.news_of_block hnb) (by simp [Value.oneCell']) (by omega) (by unfold maxLen; omega) (by omega) hI6.acc.le _ rfl ?_; intro g cap9 w13 hown hgrow hat hglt; obtain ⟨hl13, ha13⟩ := hI6.far hgrow; have d0 := hl13.c; have d1 := hl13.fz 0; have d2 := ha13.c; have d3 := ha13.fz 0)
      have hI9 := hI6.next (u := .int .i64 ((done.length : Int) + 1)) hgrow (hI6.acc.push hv7 hrg hown hgrow hat) HRD.out (by omega) (by simp)
      go_roundw
      case rel => first | exact ⟨B, done ++ [x], _, _, rfl, hI9⟩ | ((repeat apply Exists.intro); exact ⟨⟨B, done ++ [x], _, _, rfl, hI9⟩, rfl⟩)
      case measure => simp [strSize]; omega
     ·have HJ : Hid (RE = .error done.length) := by
       show _ = _
       rw [HRL.out, hL]
       rfl
      clear hL hn hxb
      go_wp2_with fail
      refine (raise_any _).mono ?_
      rintro e w6 ⟨rfl, rfl⟩
      show bodyPostD Tryz.prog Tryz.f20 (RdEnds RE w) (.panic [{ v := .iface 119 (.agg #[.int .i64 230]), recovered := false }]) _ _
      refine leaves_cons (f := 53) (args := #[.pointer (some ⟨w.heap.size + 1 + 1, 0, none⟩), .pointer (some ⟨w.heap.size + 1 + 1 + 1, 0, none⟩), .pointer (some ⟨w.heap.size, 0, none⟩), .pointer (some ⟨w.heap.size + 1, 0, none⟩)]) (by simp) (by simp [go_sem]) ?_
      refine (readD_fault w.heap.size (w.heap.size + 1) (w.heap.size + 1 + 1) (w.heap.size + 1 + 1 + 1) _ _ _ _ [] _ hI4.l hI4.n hI4.e hI4.a (by omega) (by omega) (by omega)).mono ?_
      rintro e u' w6 ⟨rfl, rfl, hl5, hn5, he5, hb5⟩
      refine ⟨.tuple #[.slice none 0 0, .int .i64 (done.length : Nat), .int .i64 230], by simp [results, Tryz.results20, go_sem, hl5.c, hn5.c, he5.c], ?_⟩
      show RdEnds RE w _ _
      rw [HJ.out]
      exact ⟨rfl, hI4.bb.trans (hb5 _ (Nat.le_refl _) hI4.bb.size)⟩
end Go.Proofs.YtjldbbcdhdfliaaGreatDoor
/-
 A row of events that is being made: an event behind the others.
-/
namespace Go.Proofs.YtjldbbcdhdfliaaGreatDoor
open Go.RowKit Go.Sort

theorem AccE.fin {lo : Nat} {w w' : World} {l : List Ev} {v : Value} {xs : List Value} (h : AccE lo w' l v xs) (hlo : w.heap.size ≤ lo) (hb : Below w.heap.size w w') : RdEnds (.ok l) w (.returned (.tuple #[v, .int .i64 0, .int .i64 0])) w' := by
 obtain ⟨a, cap, rfl, h1, h2, h3⟩ := h.isEs
 exact ⟨⟨a, cap, rfl, h1, h2, h3.more fun g hg => ⟨by omega, hg.2⟩⟩, hb⟩
/-- A value that lies beside a row of events. -/
def AccV (lo : Nat) (w : World) (v : Value) (t : VT) (u : Value) : Prop := IsV (fun g => lo ≤ g ∧ g < w.heap.size ∧ some g ≠ v.ownBlock) w t u
theorem AccV.below {lo : Nat} {w w' : World} {v u : Value} {t : VT} (h : AccV lo w v t u) (hb : Below w.heap.size w w') : AccV lo w' v t u :=
 (IsV.keep (fun g hg _ => World.cell?_of_block (w := w) (hb.block g hg.2.1)) h).more fun _ hg => ⟨hg.1, Nat.lt_of_lt_of_le hg.2.1 hb.size, hg.2.2⟩
theorem AccE.pushV {lo n : Nat} {w W1 : World} {l : List Ev} {v : Value} {xs : List Value} {x : Ev} {kk nn : Int} {a : Option Addr} {len cp : Nat} {g cap : Nat} (h : AccE lo w l v xs) (hn : n = l.length) (ht : AccV lo w v x.v (.agg #[.int .i64 kk, .int .i64 nn, .slice a len cp])) (hr : RngE x)
  (hown : W1.ownsRow lo 29 10 (.slice (some ⟨g, 0, none⟩) (n + 1) cap) (n + 1) (xs ++ (evC x kk nn a len cp).toList))
  (hgr : w.grownBy W1 v.ownBlock) (hat : v.ownBlock = some g ∨ g = w.heap.size) : AccE lo W1 (l ++ [x]) (.slice (some ⟨g, 0, none⟩) (n + 1) cap) (xs ++ (evC x kk nn a len cp).toList) := by
 subst hn
 exact AccE.push h ht hr hown hgr hat
end Go.Proofs.YtjldbbcdhdfliaaGreatDoor
