/-
  Walks over package valtext: Parse, with the panic that says where a text is wrong, recovered.
-/
import Derived.Test.YtkahboomahhdoaaDoorValue
import Derived.Defers
import Derived.Recover
import Derived.Laws.Pointers
namespace Go.Proofs.YtkahboomahhdoaaDoor
open Go.RowKit

theorem assert_wrong (i : Int) (w : World) : (Instr.typeAssert (.iface 60 (.int .i64 i)) 20 60 true).run Tryd.prog w = .ok (.tuple #[.int .i64 i, .bool true]) w := by kernel_rfl

set_option maxRecDepth 100000 in
set_option maxHeartbeats 1000000 in
theorem catch_wrong (bv ba be : Nat) (i : Nat) (older : List PanicEntry) (w : World) (v0 v1 v2 v3 v4 : Value) (hx : Bx w bv 26 v0 v1 v2) (c3 : w.cell? ⟨ba, 0, none⟩ = some v3) (f3 : w.frozen? ⟨ba, 0, none⟩ = false) (c4 : w.cell? ⟨be, 0, none⟩ = some v4) (f4 : w.frozen? ⟨be, 0, none⟩ = false) (h1 : ¬ ba = bv) (h2 : ¬ be = bv) (h3 : ¬ be = ba) :
    CallsD Tryd.prog 29 #[.pointer (some ⟨bv, 0, none⟩), .pointer (some ⟨ba, 0, none⟩), .pointer (some ⟨be, 0, none⟩)] (.panicking ({ v := .iface 60 (.int .i64 i), recovered := false } :: older)) w fun e u' w' =>
      e = .returned (.tuple #[]) ∧ u' = .panicking ({ v := .iface 60 (.int .i64 i), recovered := true } :: older) ∧ w' = ((((w.setCell ⟨bv, 0, none⟩ (.int .i64 0)).setCell ⟨bv, 1, none⟩ (.int .i64 0)).setCell ⟨bv, 2, none⟩ (.slice none 0 0)).setCell ⟨ba, 0, none⟩ (.int .i64 i)).setCell ⟨be, 0, none⟩ (.int .i64 50) := by
  have q0 := hx.c0
  have q1 := hx.c1
  have q2 := hx.c2
  have qf := hx.fz
  clear hx
  refine callsD_of_wpS Tryd.func29 rfl fun c₀ cs hu => ?_
  apply wpS_seq
  apply wpS_region
  simp [wpOpsS, go_sem, recoverD, hu, Tryd.ntmps29, Exit.thenS]
  refine wpS_of_wp ?_
  simp only [Array.replicate_succ, Array.replicate_zero, List.push_toArray, List.append_toArray, List.nil_append, List.cons_append, List.setIfInBounds_toArray, List.set_cons_succ, List.set_cons_zero]
  have hta := fun wx => assert_wrong i wx
  go_wp2_with fail
  simp [bodyPostS, results, Tryd.results29]

set_option maxRecDepth 100000 in
set_option maxHeartbeats 1000000 in
theorem catch_none (bv ba be : Nat) (w : World) :
    CallsD Tryd.prog 29 #[.pointer (some ⟨bv, 0, none⟩), .pointer (some ⟨ba, 0, none⟩), .pointer (some ⟨be, 0, none⟩)] .returning w fun e u' w' =>
      e = .returned (.tuple #[]) ∧ u' = .returning ∧ w' = w := by
  refine callsD_of_wpS Tryd.func29 rfl fun c₀ cs hu => ?_
  apply wpS_seq
  apply wpS_region
  simp [wpOpsS, go_sem, recoverD, hu, Tryd.ntmps29, Exit.thenS]
  refine wpS_of_wp ?_
  simp only [Array.replicate_succ, Array.replicate_zero, List.push_toArray, List.append_toArray, List.nil_append, List.cons_append, List.setIfInBounds_toArray, List.set_cons_succ, List.set_cons_zero]
  go_wp2_with fail
  cases c₀
  simp_all [bodyPostS, results, Tryd.results29]

/-- The value of a text, or where it is wrong. -/
def parse (s : ByteArray) : Except Nat VT :=
  match pVal s 256 mAny 0 0 with
  | .error j => .error j
  | .ok (t, i, _) => if i < s.size then .error i else .ok t
def ParseEnds (w : World) (r : Except Nat VT) (e : Ending) (w' : World) : Prop :=
  match r with
  | .error j => e = .returned (.tuple #[.agg #[.int .i64 0, .int .i64 0, .slice none 0 0], .int .i64 (j : Nat), .int .i64 50]) ∧ Below w.heap.size w w'
  | .ok t => ∃ v, e = .returned (.tuple #[v, .int .i64 0, .int .i64 0]) ∧ IsV (fun g => w.heap.size ≤ g ∧ g < w'.heap.size) w' t v ∧ Below w.heap.size w w'

/-- A block of one cell that is known whole. -/
def B1 (w : World) (g : Nat) (t : TypeId) (v : Value) : Prop := w.heap[g]? = some (.cells #[v] t (0, 0))
section
variable {w w' : World} {g : Nat} {t : TypeId} {v : Value}
theorem B1.lt (h : B1 w g t v) : g < w.heap.size := by
  rcases Nat.lt_or_ge g w.heap.size with hlt | hge
  · exact hlt
  · unfold B1 at h; rw [Array.getElem?_eq_none hge] at h; cases h
theorem B1.new (w : World) (t : TypeId) (v : Value) : B1 (w.alloc (.cells #[v] t)) w.heap.size t v := heap_alloc_new w _
theorem B1.c (h : B1 w g t v) : w.cell? ⟨g, 0, none⟩ = some v := by unfold B1 at h; simp [World.cell?, h]
theorem B1.fz (h : B1 w g t v) (o : Nat) : w.frozen? ⟨g, o, none⟩ = false := by unfold B1 at h; simp [World.frozen?, h]
theorem B1.drew (h : B1 w g t v) : B1 w.drew g t v := h
theorem B1.drewN (h : B1 w g t v) (n : Nat) : B1 (w.drewN n) g t v := h
theorem B1.alloc (h : B1 w g t v) (o : Obj) : B1 (w.alloc o) g t v := (Below.heap_alloc w o g h.lt).trans h
theorem B1.set (h : B1 w g t v) (u : Value) : B1 (w.setCell ⟨g, 0, none⟩ u) g t u := by
  unfold B1 at h ⊢
  simp [World.setCell, Array.getElem?_modify, h]
theorem B1.far (h : B1 w g t v) {q : Addr} (hq : g ≠ q.block) (u : Value) : B1 (w.setCell q u) g t v := (Below.heap_setCell w q u g hq).trans h
theorem B1.belowAll (h : B1 w g t v) (hb : Below w.heap.size w w') : B1 w' g t v := (hb.block g h.lt).trans h
theorem B1.gr {b : Nat} (h : B1 w g t v) (hb : Gr b w w') (hg : g ≠ b) : B1 w' g t v := (hb.block g h.lt (fun e => hg (by injection e))).trans h
end
theorem Gr.belowOf {b B : Nat} {w w' : World} (h : Gr b w w') (hb : B ≤ b) (hB : B ≤ w.heap.size) : Below B w w' :=
  ⟨h.os, h.tape, h.output, h.size, fun k hk => h.block k (by omega) (fun e => by injection e; omega)⟩

theorem parse_start (w : World) (s : ByteArray) (hW : HasWords w) (W0 : World) (hW0 : W0 = ((((w.alloc (.cells #[.int .i64 0, .int .i64 0, .slice none 0 0] 26)).alloc (.cells #[.int .i64 0] 3)).alloc (.cells #[.int .i64 0] 27)).alloc (.cells #[.string s, .int .i64 0, .int .i64 0] 64))) :
    Rd W0 (w.heap.size + 1 + 1 + 1) s 0 0 ∧ Bx W0 w.heap.size 26 (.int .i64 0) (.int .i64 0) (.slice none 0 0) ∧ B1 W0 (w.heap.size + 1) 3 (.int .i64 0) ∧ B1 W0 (w.heap.size + 1 + 1) 27 (.int .i64 0) ∧ Below w.heap.size w W0 ∧ HasWords W0 := by
  subst hW0
  have s1 : (w.alloc (.cells #[.int .i64 0, .int .i64 0, .slice none 0 0] 26)).heap.size = w.heap.size + 1 := by simp
  have s2 : ((w.alloc (.cells #[.int .i64 0, .int .i64 0, .slice none 0 0] 26)).alloc (.cells #[.int .i64 0] 3)).heap.size = w.heap.size + 1 + 1 := by simp
  have s3 : (((w.alloc (.cells #[.int .i64 0, .int .i64 0, .slice none 0 0] 26)).alloc (.cells #[.int .i64 0] 3)).alloc (.cells #[.int .i64 0] 27)).heap.size = w.heap.size + 1 + 1 + 1 := by simp
  refine ⟨?_, (((Bx.new w 26 _ _ _).alloc _).alloc _).alloc _, ?_, ?_, ?_, (((hW.alloc _).alloc _).alloc _).alloc _⟩
  · have := Bx.new (((w.alloc (.cells #[.int .i64 0, .int .i64 0, .slice none 0 0] 26)).alloc (.cells #[.int .i64 0] 3)).alloc (.cells #[.int .i64 0] 27)) 64 (.string s) (.int .i64 0) (.int .i64 0)
    rw [s3] at this
    exact this
  · have := ((B1.new (w.alloc (.cells #[.int .i64 0, .int .i64 0, .slice none 0 0] 26)) 3 (.int .i64 0)).alloc (.cells #[.int .i64 0] 27)).alloc (.cells #[.string s, .int .i64 0, .int .i64 0] 64)
    rw [s1] at this
    exact this
  · have := (B1.new ((w.alloc (.cells #[.int .i64 0, .int .i64 0, .slice none 0 0] 26)).alloc (.cells #[.int .i64 0] 3)) 27 (.int .i64 0)).alloc (.cells #[.string s, .int .i64 0, .int .i64 0] 64)
    rw [s2] at this
    exact this
  · exact (((below_alloc _ _).alloc (by simp) _).alloc (by simp; omega) _).alloc (by simp; omega) _

set_option maxRecDepth 100000 in
set_option maxHeartbeats 2000000 in
theorem Parse_any (s : ByteArray) (hs : s.size ≤ maxLen) (w : World) (hW : HasWords w) : Calls Tryd.prog 10 #[.string s] w (ParseEnds w (parse s)) := by
  have hs2 := hs
  unfold maxLen at hs2
  have h0 := hW.lt
  have hmf : ∀ (fn : Fn) (first cap : Array Value) (w : World), (Instr.makeFunc fn first cap).run Tryd.prog w = .ok (.func fn first cap) w := fun _ _ _ _ => rfl
  rcases hp : pVal s 256 mAny 0 0 with j | ⟨t, i, p⟩
  · have HP := Lib.hid hp
    clear hp
    have HR : Hid (parse s = .error j) := by show _ = _; unfold parse; rw [HP.out]
    go_enter_defers Tryd.func10, Tryd.ntmps10
    go_wp2_with fail
    obtain ⟨W0, hW0⟩ : ∃ W0, W0 = ((((w.alloc (.cells #[.int .i64 0, .int .i64 0, .slice none 0 0] 26)).alloc (.cells #[.int .i64 0] 3)).alloc (.cells #[.int .i64 0] 27)).alloc (.cells #[.string s, .int .i64 0, .int .i64 0] 64)) := ⟨_, rfl⟩
    obtain ⟨hr, hx, ha, he, hbl, hW1⟩ := parse_start w s hW W0 hW0
    rw [← hW0]
    clear hW0
    have hlt := hr.lt
    refine (value_any s hs 256 mAny 31 _ 0 0 _ may_any hr (by omega) (by omega) (by omega) hW1 (by omega)).mono ?_
    rw [HP.out]
    rintro e w1 ⟨rfl, hg⟩
    have hx1 := hx.gr hg (by omega)
    have ha1 := ha.gr hg (by omega)
    have he1 := he.gr hg (by omega)
    have hb1 : Below w.heap.size w w1 := hbl.trans (hg.belowOf (by omega) hbl.size)
    show bodyPostD _ _ _ _ _ _
    refine leaves_cons (f := 29) (args := #[.pointer (some ⟨w.heap.size, 0, none⟩), .pointer (some ⟨w.heap.size + 1, 0, none⟩), .pointer (some ⟨w.heap.size + 1 + 1, 0, none⟩)]) (by simp) (by simp [go_sem]) ?_
    refine (catch_wrong w.heap.size (w.heap.size + 1) (w.heap.size + 1 + 1) j [] _ _ _ _ _ _ hx1 ha1.c (ha1.fz 0) he1.c (he1.fz 0) (by omega) (by omega) (by omega)).mono ?_
    rintro e u' w2 ⟨rfl, rfl, rfl⟩
    have hx9 := ((((hx1.set0 (.int .i64 0)).set1 (.int .i64 0)).set2 (.slice none 0 0)).far (q := ⟨w.heap.size + 1, 0, none⟩) (by simp) (.int .i64 (j : Nat))).far (q := ⟨w.heap.size + 1 + 1, 0, none⟩) (by simp; omega) (.int .i64 50)
    have ha9 := (((((ha1.far (q := ⟨w.heap.size, 0, none⟩) (by simp) (.int .i64 0)).far (q := ⟨w.heap.size, 1, none⟩) (by simp) (.int .i64 0)).far (q := ⟨w.heap.size, 2, none⟩) (by simp) (.slice none 0 0)).set (.int .i64 (j : Nat))).far (q := ⟨w.heap.size + 1 + 1, 0, none⟩) (by simp) (.int .i64 50))
    have he9 := (((((he1.far (q := ⟨w.heap.size, 0, none⟩) (by simp; omega) (.int .i64 0)).far (q := ⟨w.heap.size, 1, none⟩) (by simp; omega) (.int .i64 0)).far (q := ⟨w.heap.size, 2, none⟩) (by simp; omega) (.slice none 0 0)).far (q := ⟨w.heap.size + 1, 0, none⟩) (by simp) (.int .i64 (j : Nat))).set (.int .i64 50))
    refine ⟨.tuple #[.agg #[.int .i64 0, .int .i64 0, .slice none 0 0], .int .i64 (j : Nat), .int .i64 50], by simp [results, Tryd.results10, go_sem, hx9.c0, hx9.c1, hx9.c2, ha9.c, he9.c], ?_⟩
    rw [HR.out]
    exact ⟨rfl, (((((hb1.setCell (p := ⟨w.heap.size, 0, none⟩) (Nat.le_refl _) _).setCell (p := ⟨w.heap.size, 1, none⟩) (Nat.le_refl _) _).setCell (p := ⟨w.heap.size, 2, none⟩) (Nat.le_refl _) _).setCell (p := ⟨w.heap.size + 1, 0, none⟩) (by simp) _).setCell (p := ⟨w.heap.size + 1 + 1, 0, none⟩) (by simp; omega) _)⟩
  · have HP := Lib.hid hp
    have hgo := pVal_goes s 256 mAny 0 0 t i p (by omega) (by omega) hp
    clear hp
    by_cases hi : i < s.size
    · have HR : Hid (parse s = .error i) := by show _ = _; unfold parse; rw [HP.out]; simp only; rw [if_pos hi]
      go_enter_defers Tryd.func10, Tryd.ntmps10
      go_wp2_with fail
      obtain ⟨W0, hW0⟩ : ∃ W0, W0 = ((((w.alloc (.cells #[.int .i64 0, .int .i64 0, .slice none 0 0] 26)).alloc (.cells #[.int .i64 0] 3)).alloc (.cells #[.int .i64 0] 27)).alloc (.cells #[.string s, .int .i64 0, .int .i64 0] 64)) := ⟨_, rfl⟩
      obtain ⟨hr, hx, ha, he, hbl, hW1⟩ := parse_start w s hW W0 hW0
      rw [← hW0]
      clear hW0
      have hlt := hr.lt
      refine (value_any s hs 256 mAny 31 _ 0 0 _ may_any hr (by omega) (by omega) (by omega) hW1 (by omega)).mono ?_
      rw [HP.out]
      rintro e w1 ⟨v1, rfl, hv1, hr1, hg⟩
      obtain ⟨k1, n1, a1, l1, c1, rfl⟩ := hv1.form
      have hx1 := hx.gr hg (by omega)
      have ha1 := ha.gr hg (by omega)
      have he1 := he.gr hg (by omega)
      have hb1 : Below w.heap.size w w1 := hbl.trans (hg.belowOf (by omega) hbl.size)
      have q0 := hx1.c0
      have q1 := hx1.c1
      have q2 := hx1.c2
      have qf := hx1.fz
      have d1 := hr1.c1
      have hr2 := ((hr1.far (q := ⟨w.heap.size, 0, none⟩) (by simp; omega) (.int .i64 k1)).far (q := ⟨w.heap.size, 1, none⟩) (by simp; omega) (.int .i64 n1)).far (q := ⟨w.heap.size, 2, none⟩) (by simp; omega) (.slice a1 l1 c1)
      have hx2 := ((hx1.set0 (.int .i64 k1)).set1 (.int .i64 n1)).set2 (.slice a1 l1 c1)
      have ha2 := ((ha1.far (q := ⟨w.heap.size, 0, none⟩) (by simp) (.int .i64 k1)).far (q := ⟨w.heap.size, 1, none⟩) (by simp) (.int .i64 n1)).far (q := ⟨w.heap.size, 2, none⟩) (by simp) (.slice a1 l1 c1)
      have he2 := ((he1.far (q := ⟨w.heap.size, 0, none⟩) (by simp; omega) (.int .i64 k1)).far (q := ⟨w.heap.size, 1, none⟩) (by simp; omega) (.int .i64 n1)).far (q := ⟨w.heap.size, 2, none⟩) (by simp; omega) (.slice a1 l1 c1)
      have hb2 := ((hb1.setCell (p := ⟨w.heap.size, 0, none⟩) (Nat.le_refl _) (.int .i64 k1)).setCell (p := ⟨w.heap.size, 1, none⟩) (Nat.le_refl _) (.int .i64 n1)).setCell (p := ⟨w.heap.size, 2, none⟩) (Nat.le_refl _) (.slice a1 l1 c1)
      have d2 := hr2.c1
      go_wp2_with fail
      refine (fail_any _ i _ d2).mono ?_
      rintro e w2 ⟨rfl, rfl⟩
      show bodyPostD _ _ _ _ _ _
      refine leaves_cons (f := 29) (args := #[.pointer (some ⟨w.heap.size, 0, none⟩), .pointer (some ⟨w.heap.size + 1, 0, none⟩), .pointer (some ⟨w.heap.size + 1 + 1, 0, none⟩)]) (by simp) (by simp [go_sem]) ?_
      refine (catch_wrong w.heap.size (w.heap.size + 1) (w.heap.size + 1 + 1) i [] _ _ _ _ _ _ hx2 ha2.c (ha2.fz 0) he2.c (he2.fz 0) (by omega) (by omega) (by omega)).mono ?_
      rintro e u' w2 ⟨rfl, rfl, rfl⟩
      have hx9 := ((((hx2.set0 (.int .i64 0)).set1 (.int .i64 0)).set2 (.slice none 0 0)).far (q := ⟨w.heap.size + 1, 0, none⟩) (by simp) (.int .i64 (i : Nat))).far (q := ⟨w.heap.size + 1 + 1, 0, none⟩) (by simp; omega) (.int .i64 50)
      have ha9 := (((((ha2.far (q := ⟨w.heap.size, 0, none⟩) (by simp) (.int .i64 0)).far (q := ⟨w.heap.size, 1, none⟩) (by simp) (.int .i64 0)).far (q := ⟨w.heap.size, 2, none⟩) (by simp) (.slice none 0 0)).set (.int .i64 (i : Nat))).far (q := ⟨w.heap.size + 1 + 1, 0, none⟩) (by simp) (.int .i64 50))
      have he9 := (((((he2.far (q := ⟨w.heap.size, 0, none⟩) (by simp; omega) (.int .i64 0)).far (q := ⟨w.heap.size, 1, none⟩) (by simp; omega) (.int .i64 0)).far (q := ⟨w.heap.size, 2, none⟩) (by simp; omega) (.slice none 0 0)).far (q := ⟨w.heap.size + 1, 0, none⟩) (by simp) (.int .i64 (i : Nat))).set (.int .i64 50))
      refine ⟨.tuple #[.agg #[.int .i64 0, .int .i64 0, .slice none 0 0], .int .i64 (i : Nat), .int .i64 50], by simp [results, Tryd.results10, go_sem, hx9.c0, hx9.c1, hx9.c2, ha9.c, he9.c], ?_⟩
      rw [HR.out]
      exact ⟨rfl, (((((hb2.setCell (p := ⟨w.heap.size, 0, none⟩) (Nat.le_refl _) _).setCell (p := ⟨w.heap.size, 1, none⟩) (Nat.le_refl _) _).setCell (p := ⟨w.heap.size, 2, none⟩) (Nat.le_refl _) _).setCell (p := ⟨w.heap.size + 1, 0, none⟩) (by simp) _).setCell (p := ⟨w.heap.size + 1 + 1, 0, none⟩) (by simp; omega) _)⟩
    · have HR : Hid (parse s = .ok t) := by show _ = _; unfold parse; rw [HP.out]; simp only; rw [if_neg hi]
      go_enter_defers Tryd.func10, Tryd.ntmps10
      go_wp2_with fail
      obtain ⟨W0, hW0⟩ : ∃ W0, W0 = ((((w.alloc (.cells #[.int .i64 0, .int .i64 0, .slice none 0 0] 26)).alloc (.cells #[.int .i64 0] 3)).alloc (.cells #[.int .i64 0] 27)).alloc (.cells #[.string s, .int .i64 0, .int .i64 0] 64)) := ⟨_, rfl⟩
      obtain ⟨hr, hx, ha, he, hbl, hW1⟩ := parse_start w s hW W0 hW0
      rw [← hW0]
      clear hW0
      have hlt := hr.lt
      refine (value_any s hs 256 mAny 31 _ 0 0 _ may_any hr (by omega) (by omega) (by omega) hW1 (by omega)).mono ?_
      rw [HP.out]
      rintro e w1 ⟨v1, rfl, hv1, hr1, hg⟩
      obtain ⟨k1, n1, a1, l1, c1, rfl⟩ := hv1.form
      have hx1 := hx.gr hg (by omega)
      have ha1 := ha.gr hg (by omega)
      have he1 := he.gr hg (by omega)
      have hb1 : Below w.heap.size w w1 := hbl.trans (hg.belowOf (by omega) hbl.size)
      have q0 := hx1.c0
      have q1 := hx1.c1
      have q2 := hx1.c2
      have qf := hx1.fz
      have d1 := hr1.c1
      have qa := ha1.c
      have qaf := ha1.fz 0
      have qe := he1.c
      have qef := he1.fz 0
      go_wp2_with fail
      have hx9 := (((((((hx1.set0 (.int .i64 k1)).set1 (.int .i64 n1)).set2 (.slice a1 l1 c1)).set0 (.int .i64 k1)).set1 (.int .i64 n1)).set2 (.slice a1 l1 c1)).far (q := ⟨w.heap.size + 1, 0, none⟩) (by simp) (.int .i64 0)).far (q := ⟨w.heap.size + 1 + 1, 0, none⟩) (by simp; omega) (.int .i64 0)
      have ha9 := (((((((ha1.far (q := ⟨w.heap.size, 0, none⟩) (by simp) (.int .i64 k1)).far (q := ⟨w.heap.size, 1, none⟩) (by simp) (.int .i64 n1)).far (q := ⟨w.heap.size, 2, none⟩) (by simp) (.slice a1 l1 c1)).far (q := ⟨w.heap.size, 0, none⟩) (by simp) (.int .i64 k1)).far (q := ⟨w.heap.size, 1, none⟩) (by simp) (.int .i64 n1)).far (q := ⟨w.heap.size, 2, none⟩) (by simp) (.slice a1 l1 c1)).set (.int .i64 0)).far (q := ⟨w.heap.size + 1 + 1, 0, none⟩) (by simp) (.int .i64 0)
      have he9 := (((((((he1.far (q := ⟨w.heap.size, 0, none⟩) (by simp; omega) (.int .i64 k1)).far (q := ⟨w.heap.size, 1, none⟩) (by simp; omega) (.int .i64 n1)).far (q := ⟨w.heap.size, 2, none⟩) (by simp; omega) (.slice a1 l1 c1)).far (q := ⟨w.heap.size, 0, none⟩) (by simp; omega) (.int .i64 k1)).far (q := ⟨w.heap.size, 1, none⟩) (by simp; omega) (.int .i64 n1)).far (q := ⟨w.heap.size, 2, none⟩) (by simp; omega) (.slice a1 l1 c1)).far (q := ⟨w.heap.size + 1, 0, none⟩) (by simp) (.int .i64 0)).set (.int .i64 0)
      have hb9 := (((((((hb1.setCell (p := ⟨w.heap.size, 0, none⟩) (Nat.le_refl _) (.int .i64 k1)).setCell (p := ⟨w.heap.size, 1, none⟩) (Nat.le_refl _) (.int .i64 n1)).setCell (p := ⟨w.heap.size, 2, none⟩) (Nat.le_refl _) (.slice a1 l1 c1)).setCell (p := ⟨w.heap.size, 0, none⟩) (Nat.le_refl _) (.int .i64 k1)).setCell (p := ⟨w.heap.size, 1, none⟩) (Nat.le_refl _) (.int .i64 n1)).setCell (p := ⟨w.heap.size, 2, none⟩) (Nat.le_refl _) (.slice a1 l1 c1)).setCell (p := ⟨w.heap.size + 1, 0, none⟩) (by simp) (.int .i64 0)).setCell (p := ⟨w.heap.size + 1 + 1, 0, none⟩) (by simp; omega) (.int .i64 0)
      refine leaves_cons (f := 29) (args := #[.pointer (some ⟨w.heap.size, 0, none⟩), .pointer (some ⟨w.heap.size + 1, 0, none⟩), .pointer (some ⟨w.heap.size + 1 + 1, 0, none⟩)]) (by simp) (by simp [go_sem]) ?_
      refine (catch_none w.heap.size (w.heap.size + 1) (w.heap.size + 1 + 1) _).mono ?_
      rintro e u' w2 ⟨rfl, rfl, rfl⟩
      refine ⟨.tuple #[.agg #[.int .i64 k1, .int .i64 n1, .slice a1 l1 c1], .int .i64 0, .int .i64 0], by simp [results, Tryd.results10, go_sem, hx9.c0, hx9.c1, hx9.c2, ha9.c, he9.c], ?_⟩
      rw [HR.out]
      refine ⟨_, rfl, (hv1.keep ?_).more ?_, hb9⟩
      · intro g hg o
        refine World.cell?_of_block (w := w1) ?_
        rw [Below.heap_setCell _ _ _ _ (by simp; omega), Below.heap_setCell _ _ _ _ (by simp; omega), Below.heap_setCell _ _ _ _ (by simp; omega), Below.heap_setCell _ _ _ _ (by simp; omega), Below.heap_setCell _ _ _ _ (by simp; omega), Below.heap_setCell _ _ _ _ (by simp; omega), Below.heap_setCell _ _ _ _ (by simp; omega), Below.heap_setCell _ _ _ _ (by simp; omega)]
      · intro g hg
        exact ⟨by omega, by simpa [World.setCell] using hg.2⟩
end Go.Proofs.YtkahboomahhdoaaDoor
