/-
 Walks over package trace: catch, Text.
-/
import Derived.Test.YtjldbbcdhdfliaaGreatDoorTf
import Derived.Lib.SplitLaws
import Derived.Deep.RegionHeld3
namespace Go.Proofs.YtjldbbcdhdfliaaGreatDoor
open Go.RowKit Go.Sort

def FaultE (r : Bool) : PanicEntry := { v := .iface 119 (.agg #[.int .i64 230]), recovered := r }
theorem assert_fault (w : World) : (Instr.typeAssert (.iface 119 (.agg #[.int .i64 230])) 20 119 true).run Tryz.prog w = .ok (.tuple #[.agg #[.int .i64 230], .bool true]) w := by kernel_rfl
set_option maxRecDepth 100000 in
set_option maxHeartbeats 1000000 in
theorem catch_fault (eb : Nat) (v : Value) (w : World) (he : B1 w eb 30 v) : Calls Tryz.prog 33 #[.iface 119 (.agg #[.int .i64 230]), .pointer (some ⟨eb, 0, none⟩)] w fun e w' =>
  e = .returned (.tuple #[]) ∧ B1 w' eb 30 (.int .i64 230) ∧ Gr eb w w' := by
 have hta := assert_fault
 have hlt := he.lt
 have c0 := (he.alloc (.cells #[.int .i64 230] 119)).c
 have f0 := (he.alloc (.cells #[.int .i64 230] 119)).fz
 go_enter Tryz.func33, Tryz.ntmps33
 go_wp2_with fail
 go_end0
 refine ⟨rfl, (he.set _).alloc _, ?_⟩
 exact ((Gr.refl eb w).set 0 _).alloc _
set_option maxHeartbeats 400000 in
theorem catch_nil (p : Value) (w : World) : Calls Tryz.prog 33 #[.nilIface, p] w fun e w' => e = .returned (.tuple #[]) ∧ w = w' := by
 go_enter Tryz.func33, Tryz.ntmps33
 go_wp2_with fail
 exact bodyPost_ret (results_none rfl _ _ _) rfl ⟨rfl, rfl⟩
set_option maxRecDepth 100000 in
set_option maxHeartbeats 1000000 in
theorem textD_fault (sb eb : Nat) (vs ve : Value) (older : List PanicEntry) (w : World) (hs : B1 w sb 9 vs) (he : B1 w eb 30 ve) (hne : sb ≠ eb) :
  CallsD Tryz.prog 49 #[.pointer (some ⟨eb, 0, none⟩), .pointer (some ⟨sb, 0, none⟩)] (.panicking (FaultE false :: older)) w fun e u' w' =>
   e = .returned (.tuple #[]) ∧ u' = .panicking (FaultE true :: older) ∧ B1 w' sb 9 (.string ⟨#[]⟩) ∧ B1 w' eb 30 (.int .i64 230) ∧ ∀ B, B ≤ sb → B ≤ eb → B ≤ w.heap.size → Below B w w' := by
 unfold FaultE
 refine callsD_of_wpS Tryz.func49 rfl fun c₀ cs hu => ?_
 apply wpS_seq
 apply wpS_region
 simp [wpOpsS, go_sem, recoverD, hu, Tryz.ntmps49, Exit.thenS]
 refine (catch_fault eb ve w he).mono ?_
 rintro e w1 ⟨rfl, he1, hg1⟩
 have hs1 := hs.gr hg1 hne
 have c0 := he1.c
 have c1 := hs1.c
 have f1 := hs1.fz
 refine wpS_of_wp ?_
 simp only [Array.replicate_succ, Array.replicate_zero, List.push_toArray, List.append_toArray, List.nil_append, List.cons_append, List.setIfInBounds_toArray, List.set_cons_succ, List.set_cons_zero]
 go_wp2_with fail
 refine ⟨rfl, _, rfl, .tuple #[], results_none rfl _ _ _, rfl, rfl, hs1.set _, he1.far (fun e => hne e.symm) _, fun B h1 h2 h3 => ?_⟩
 exact (hg1.belowOf h2 h3).setCell (p := ⟨sb, 0, none⟩) h1 _
set_option maxRecDepth 100000 in
set_option maxHeartbeats 1000000 in
theorem textD_none (sb eb : Nat) (w : World) (he : B1 w eb 30 (.int .i64 0)) :
  CallsD Tryz.prog 49 #[.pointer (some ⟨eb, 0, none⟩), .pointer (some ⟨sb, 0, none⟩)] .returning w fun e u' w' => e = .returned (.tuple #[]) ∧ u' = .returning ∧ w' = w := by
 refine callsD_of_wpS Tryz.func49 rfl fun c₀ cs hu => ?_
 apply wpS_seq
 apply wpS_region
 simp [wpOpsS, go_sem, recoverD, hu, Tryz.ntmps49, Exit.thenS]
 refine (catch_nil _ w).mono ?_
 rintro e w1 ⟨rfl, rfl⟩
 have c0 := he.c
 refine wpS_of_wp ?_
 simp only [Array.replicate_succ, Array.replicate_zero, List.push_toArray, List.append_toArray, List.nil_append, List.cons_append, List.setIfInBounds_toArray, List.set_cons_succ, List.set_cons_zero]
 go_wp2_with fail
 cases c₀
 refine ⟨rfl, _, rfl, .tuple #[], results_none rfl _ _ _, rfl, ?_, rfl⟩
 exact hu
theorem Byt.conv {B : Nat} {w : World} {v : Value} {l : List UInt8} (h : Byt B w v l) (hl : l ≠ []) : (convert 55 9 v).run Tryz.prog w = .ok (.string ⟨l.toArray⟩) w := by
 have h0 := h
 rcases h.2 with ⟨_, h1⟩ | ⟨g, cap, cur, rfl, h2, h3, _⟩
 ·exact absurd (List.eq_nil_of_length_eq_zero h1) hl
 ·refine run_convert_bytes_back w _ _ _ _ cap l Tryz.underlying55 Tryz.underlying5 Tryz.underlying9 fun j hj => ?_
  refine World.ownsRow.cells h0 rfl j _ ?_
  unfold Lib.byteCells
  simp [hj]
theorem itoa_ne (n : Int) : Lib.itoa n ≠ [] := by
 rcases Int.lt_or_le n 0 with h | h
 ·obtain ⟨m, rfl⟩ : ∃ m : Nat, n = -(m : Int) := ⟨n.natAbs, by omega⟩
  rw [itoa_neg (by omega)]
  simp
 ·rw [itoa_pos h]
  exact dec_ne _
theorem textE_ne (x : Ev) : textE x ≠ [] := by
 unfold textE
 intro h
 exact itoa_ne x.st (List.append_eq_nil_iff.1 h).1
/-- What Text hands back. -/
def ttV (x : Ev) : Value := if rightE x then .tuple #[.string ⟨(textE x).toArray⟩, .int .i64 0] else .tuple #[.string ⟨#[]⟩, .int .i64 230]
set_option maxRecDepth 100000 in
set_option maxHeartbeats 4000000 in
theorem TText_any (x : Ev) (v : Value) (w : World) (hx : IsE (· < w.heap.size) w x v) (hE : Env w) : Calls Tryz.prog 18 #[v] w fun e w' => e = .returned (ttV x) ∧ Below w.heap.size w w' := by
 have hx0 := hx
 obtain ⟨kk, nn, a, len, cap, rfl, hv, hrg⟩ := hx
 have hmf : ∀ (fn : Fn) (first cap : Array Value) (w : World), (Instr.makeFunc fn first cap).run Tryz.prog w = .ok (.func fn first cap) w := fun _ _ _ _ => rfl
 have h0 : Below w.heap.size w (((w.alloc (.cells (evC x kk nn a len cap) 29)).alloc (.cells #[.string ⟨#[]⟩] 9)).alloc (.cells #[.int .i64 0] 30)) := ((below_alloc _ _).alloc (by simp) _).alloc (by simp; omega) _
 have s1 : (w.alloc (.cells (evC x kk nn a len cap) 29)).heap.size = w.heap.size + 1 := by simp
 have s2 : ((w.alloc (.cells (evC x kk nn a len cap) 29)).alloc (.cells #[.string ⟨#[]⟩] 9)).heap.size = w.heap.size + 1 + 1 := by simp
 have hev : (((w.alloc (.cells (evC x kk nn a len cap) 29)).alloc (.cells #[.string ⟨#[]⟩] 9)).alloc (.cells #[.int .i64 0] 30)).heap[w.heap.size]? = some (.cells (evC x kk nn a len cap) 29 (0, 0)) := by
  rw [Below.heap_alloc _ _ _ (by simp; omega), Below.heap_alloc _ _ _ (by simp)]
  exact heap_alloc_new _ _
 have hs : B1 (((w.alloc (.cells (evC x kk nn a len cap) 29)).alloc (.cells #[.string ⟨#[]⟩] 9)).alloc (.cells #[.int .i64 0] 30)) (w.heap.size + 1) 9 (.string ⟨#[]⟩) := by
  have := (B1.new (w.alloc (.cells (evC x kk nn a len cap) 29)) 9 (.string ⟨#[]⟩)).alloc (.cells #[.int .i64 0] 30)
  rwa [s1] at this
 have he : B1 (((w.alloc (.cells (evC x kk nn a len cap) 29)).alloc (.cells #[.string ⟨#[]⟩] 9)).alloc (.cells #[.int .i64 0] 30)) (w.heap.size + 1 + 1) 30 (.int .i64 0) := by
  have := B1.new ((w.alloc (.cells (evC x kk nn a len cap) 29)).alloc (.cells #[.string ⟨#[]⟩] 9)) 30 (.int .i64 0)
  rwa [s2] at this
 unfold evC at h0 hev hs he ⊢
 clear s1 s2
 go_enter_defers Tryz.func18, Tryz.ntmps18
 go_wp2_with fail
 generalize ((w.alloc (.cells #[.int .i64 x.k, .int .i64 x.st, .int .i64 x.th, .int .i64 x.sy, .int .i64 x.br, .int .i64 x.pa, .int .i64 x.n, .int .i64 kk, .int .i64 nn, .slice a len cap] 29)).alloc (.cells #[.string ⟨#[]⟩] 9)).alloc (.cells #[.int .i64 0] 30) = w1 at *
 refine (tables_any _).mono ?_
 rintro e w2 ⟨b, mb, rfl, hb1, hb2, hT, hb3⟩
 have hbw := h0.trans (hb3.mono h0.size)
 have hev2 := (hb3.block _ (lt_of_heap hev)).trans hev
 have hs2 := hs.belowAll hb3
 have he2 := he.belowAll hb3
 have hx2 := hx0.later hbw
 clear h0 hb3 hev hs he
 have c : w2.cell? ⟨w.heap.size, 0, none⟩ = some (.int .i64 x.k) ∧ w2.cell? ⟨w.heap.size, 1, none⟩ = some (.int .i64 x.st) ∧ w2.cell? ⟨w.heap.size, 2, none⟩ = some (.int .i64 x.th) ∧ w2.cell? ⟨w.heap.size, 3, none⟩ = some (.int .i64 x.sy) ∧ w2.cell? ⟨w.heap.size, 4, none⟩ = some (.int .i64 x.br) ∧ w2.cell? ⟨w.heap.size, 5, none⟩ = some (.int .i64 x.pa) ∧ w2.cell? ⟨w.heap.size, 6, none⟩ = some (.int .i64 x.n) ∧
  w2.cell? ⟨w.heap.size, 7, none⟩ = some (.int .i64 kk) ∧ w2.cell? ⟨w.heap.size, 8, none⟩ = some (.int .i64 nn) ∧ w2.cell? ⟨w.heap.size, 9, none⟩ = some (.slice a len cap) := by
  simp [World.cell?, hev2]
 obtain ⟨c0, c1, c2, c3, c4, c5, c6, c7, c8, c9⟩ := c
 go_wp2_with fail
 refine (tvalid_any b mb x _ _ hT hx2).mono ?_
 obtain ⟨r, hr⟩ : ∃ r, rightE x = r := ⟨_, rfl⟩
 have HR := Lib.hid hr
 rw [hr]
 clear hr
 rintro e w3 ⟨rfl, hb4⟩
 have hbw3 := hbw.trans (hb4.mono hbw.size)
 have hT3 := hT.belowAll hb4
 have hev3 := (hb4.block _ (lt_of_heap hev2)).trans hev2
 have hs3 := hs2.belowAll hb4
 have he3 := he2.belowAll hb4
 have hx3 := hx2.later hb4
 have hE3 := hE.below hbw3 hE.size
 clear hbw hT hev2 hs2 he2 hx2 hb4 c0 c1 c2 c3 c4 c5 c6 c7 c8 c9
 cases r
 ·go_wp2_with fail
  refine (raise_any _).mono ?_
  rintro e w4 ⟨rfl, rfl⟩
  show bodyPostD _ _ _ _ _ _
  refine leaves_cons (f := 49) (args := #[.pointer (some ⟨w.heap.size + 1 + 1, 0, none⟩), .pointer (some ⟨w.heap.size + 1, 0, none⟩)]) (by simp) (by simp [go_sem]) ?_
  refine (textD_fault (w.heap.size + 1) (w.heap.size + 1 + 1) _ _ [] _ hs3 he3 (by omega)).mono ?_
  rintro e u' w5 ⟨rfl, rfl, hs5, he5, hb5⟩
  refine ⟨.tuple #[.string ⟨#[]⟩, .int .i64 230], by simp [results, Tryz.results18, go_sem, hs5.c, he5.c], ?_⟩
  refine ⟨?_, hbw3.trans (hb5 _ (by omega) (by omega) hbw3.size)⟩
  unfold ttV
  rw [HR.out]
  rfl
 ·have c : w3.cell? ⟨w.heap.size, 0, none⟩ = some (.int .i64 x.k) ∧ w3.cell? ⟨w.heap.size, 1, none⟩ = some (.int .i64 x.st) ∧ w3.cell? ⟨w.heap.size, 2, none⟩ = some (.int .i64 x.th) ∧ w3.cell? ⟨w.heap.size, 3, none⟩ = some (.int .i64 x.sy) ∧ w3.cell? ⟨w.heap.size, 4, none⟩ = some (.int .i64 x.br) ∧ w3.cell? ⟨w.heap.size, 5, none⟩ = some (.int .i64 x.pa) ∧ w3.cell? ⟨w.heap.size, 6, none⟩ = some (.int .i64 x.n) ∧
   w3.cell? ⟨w.heap.size, 7, none⟩ = some (.int .i64 kk) ∧ w3.cell? ⟨w.heap.size, 8, none⟩ = some (.int .i64 nn) ∧ w3.cell? ⟨w.heap.size, 9, none⟩ = some (.slice a len cap) := by
   simp [World.cell?, hev3]
  obtain ⟨c0, c1, c2, c3, c4, c5, c6, c7, c8, c9⟩ := c
  go_wp2_with fail
  refine (ttext_any w3.heap.size b mb x _ (.slice none 0 0) [] _ hT3 hT3.lt hT3.m.lt hx3 (Byt.nil _ _) (Nat.le_refl _) hE3.size (by simp) hE3 HR.out).mono ?_
  rintro e w4 ⟨v4, rfl, hby, hkp⟩
  rw [List.nil_append] at hby
  have hcv := hby.conv (textE_ne x)
  have hs4 := hs3.belowAll hkp.b
  have he4 := he3.belowAll hkp.b
  have hbw4 := hbw3.trans (hkp.b.mono hbw3.size)
  obtain ⟨S, hS⟩ : ∃ S : ByteArray, (⟨(textE x).toArray⟩ : ByteArray) = S := ⟨_, rfl⟩
  rw [hS] at hcv
  have HS := Lib.hid hS
  have qs := hs4.c
  have qsf := hs4.fz 0
  have qe := he4.c
  have qef := he4.fz 0
  clear hS hT3 hev3 hs3 he3 hx3 hE3 hby hkp hbw3 c0 c1 c2 c3 c4 c5 c6 c7 c8 c9
  go_wp2_with fail
  have hs9 := (hs4.set (.string S)).far (q := ⟨w.heap.size + 1 + 1, 0, none⟩) (by simp) (.int .i64 0)
  have he9 := (he4.far (q := ⟨w.heap.size + 1, 0, none⟩) (by simp) (.string S)).set (.int .i64 0)
  have hb9 := (hbw4.setCell (p := ⟨w.heap.size + 1, 0, none⟩) (by simp) (.string S)).setCell (p := ⟨w.heap.size + 1 + 1, 0, none⟩) (by simp; omega) (.int .i64 0)
  refine leaves_cons (f := 49) (args := #[.pointer (some ⟨w.heap.size + 1 + 1, 0, none⟩), .pointer (some ⟨w.heap.size + 1, 0, none⟩)]) (by simp) (by simp [go_sem]) ?_
  refine (textD_none (w.heap.size + 1) (w.heap.size + 1 + 1) _ he9).mono ?_
  rintro e u' w5 ⟨rfl, rfl, rfl⟩
  refine ⟨.tuple #[.string S, .int .i64 0], by simp [results, Tryz.results18, go_sem, hs9.c, he9.c], ?_⟩
  refine ⟨?_, hb9⟩
  unfold ttV
  rw [HR.out, HS.out]
  rfl
end Go.Proofs.YtjldbbcdhdfliaaGreatDoor
/-
 Walks over package trace: parse, its first part.
-/
namespace Go.Proofs.YtjldbbcdhdfliaaGreatDoor
open Go.RowKit Go.Sort

/-- A text's words, one blank between. -/
def partsS (s : ByteArray) : List ByteArray := Lib.splitB ⟨#[32]⟩ 0 (Lib.countB s ⟨#[32]⟩) s
def setF (x : Ev) (i : Nat) (n : Int) : Ev := match i with
 | 0 => { x with sy := n }
 | 1 => { x with br := n }
 | 2 => { x with pa := n }
 | _ => { x with n := n }
/-- A field is read. -/
def fldP (x : Ev) (i : Nat) (p : ByteArray) : Option Ev := if i = 4 then (match parse p with
  | .ok t => some { x with v := t }
  | .error _ => none)
 else if i = 2 ∧ p.toList = [45] then some (setF x 2 (-1))
 else match numL p.data.toList with
  | some n => some (setF x i n)
  | none => none
def rowP (x : Ev) : List Nat → List ByteArray → Option Ev
 | i :: l, p :: ps => match fldP x i p with
  | some y => rowP y l ps
  | none => none
 | _, _ => some x
/-- The event of a text. -/
def parseE (s : ByteArray) : Option Ev := match partsS s with
 | a :: b :: c :: rest => match numL a.data.toList, numL b.data.toList, kindE c with
  | some st, some th, some k => if rest.length = (rowE k).length then rowP { k := k, st := st, th := th, sy := 0, br := 0, pa := 0, n := 0, v := zeroT } (rowE k) rest else none
  | _, _, _ => none
 | _ => none
theorem parts_len (s : ByteArray) : (partsS s).length = Lib.countB s ⟨#[32]⟩ + 1 := Lib.splitB_all _ (by decide) 0 _ s rfl
theorem part_size {sep : ByteArray} : ∀ (k : Nat) (s : ByteArray), ∀ p ∈ Lib.splitB sep 0 k s, p.size ≤ s.size
 | 0, s, p, h => by
  rw [Lib.splitB_zero] at h
  simp at h
  rw [h]
  exact Nat.le_refl _
 | k + 1, s, p, h => by
  unfold Lib.splitB at h
  split at h
  ·simp at h
   rw [h]
   exact Nat.le_refl _
  ·rcases List.mem_cons.1 h with rfl | h
   ·simp
    exact Nat.min_le_right _ _
   ·have := part_size k _ p h
    simp at this
    omega
theorem parts_size (s : ByteArray) : ∀ p ∈ partsS s, p.size ≤ s.size := part_size _ s
theorem split_any (s : ByteArray) (hs : s.size ≤ 10000000) (w : World) (hE : Env w) : Calls Tryz.prog 74 #[.string s, .string ⟨#[32]⟩] w fun e w' => e = .returned (.slice (some ⟨w.heap.size, 0, none⟩) (partsS s).length (partsS s).length) ∧ w' = w.alloc (.cells ((partsS s).map Value.string).toArray 9) := by
 obtain ⟨m, hm⟩ := hE.maxl
 refine (Tryz.strings_Split s ⟨#[32]⟩ m w (by omega) hm (by decide)).mono ?_
 rintro e w' ⟨rfl, rfl⟩
 rw [parts_len]
 exact ⟨rfl, rfl⟩
/-- What stands while a text is read. -/
structure PS (b mb pb : Nat) (ps : List ByteArray) (w W : World) : Prop where
 lb : b < w.heap.size
 lm : mb < w.heap.size
 lp : w.heap.size < pb
 tt : TabT W b mb
 pp : W.heap[pb]? = some (.cells (ps.map Value.string).toArray 9 (0, 0))
 bb : Below w.heap.size w W
 env : EnvT W
 rs : W.heap[w.heap.size]? = some (.cells #[.int .i64 0, .int .i64 0, .int .i64 0, .int .i64 0, .int .i64 0, .int .i64 0, .int .i64 0, .int .i64 0, .int .i64 0, .slice none 0 0] 29 (0, 0))
 sz : 5 ≤ w.heap.size
theorem PS.belowB {b mb pb : Nat} {ps : List ByteArray} {w W W' : World} {B : Nat} (h : PS b mb pb ps w W) (hb : Below B W W') (hB : pb < B) : PS b mb pb ps w W' := by
 have h1 := h.lb
 have h2 := h.lm
 have h3 := h.lp
 have h4 := h.bb.size
 have h5 := lt_of_heap h.pp
 exact ⟨h1, h2, h3, h.tt.below hb (by omega) (by omega), (hb.block _ hB).trans h.pp, h.bb.trans (hb.mono (by omega)), h.env.below (hb.mono (B' := w.heap.size) (by omega)) h.sz, (hb.block _ (by omega)).trans h.rs, h.sz⟩
theorem PS.below {b mb pb : Nat} {ps : List ByteArray} {w W W' : World} (h : PS b mb pb ps w W) (hb : Below W.heap.size W W') : PS b mb pb ps w W' := h.belowB hb (lt_of_heap h.pp)
theorem PS.drew {b mb pb : Nat} {ps : List ByteArray} {w W : World} (h : PS b mb pb ps w W) : PS b mb pb ps w W.drew := h.below ⟨rfl, rfl, rfl, Nat.le_refl _, fun _ _ => rfl⟩
theorem PS.at_ {b mb pb : Nat} {ps : List ByteArray} {w W : World} (h : PS b mb pb ps w W) {j : Nat} (hj : j < ps.length) : W.cell? ⟨pb, j, none⟩ = some (.string ps[j]) := by
 simp [World.cell?, h.pp, hj]
section
variable {b mb pb : Nat} {ps : List ByteArray} {w0 : World}
theorem PS.three {p0 p1 p2 : ByteArray} {rest : List ByteArray} {W : World} (h : PS b mb pb (p0 :: p1 :: p2 :: rest) w0 W) : PS b mb pb (p0 :: p1 :: p2 :: rest) w0 W ∧ W.cell? ⟨pb, 0, none⟩ = some (.string p0) ∧ W.cell? ⟨pb, 1, none⟩ = some (.string p1) ∧ W.cell? ⟨pb, 2, none⟩ = some (.string p2) :=
 ⟨h, h.at_ (j := 0) (by simp), h.at_ (j := 1) (by simp), h.at_ (j := 2) (by simp)⟩
end
/-- How parse ends. -/
def PEnds (r : Option Ev) (w : World) (e : Ending) (w' : World) : Prop := (match r with
 | some x => ∃ v, e = .returned v ∧ IsE (fun g => w.heap.size ≤ g ∧ g < w'.heap.size) w' x v
 | none => e = Fault) ∧ Below w.heap.size w w'
end Go.Proofs.YtjldbbcdhdfliaaGreatDoor
