/-
  A program that came in: what is read is a list of functions. Plain.
-/
import Derived.Test.YtjendlnicbieoaaGreatDoorSs
import Derived.OpenShut
import Derived.DataReads
import Derived.ChangeArms
namespace Go.Proofs.YtjendlnicbieoaaGreatDoor
open Go.RowKit

theorem spot {w : World} {a : Addr} {v : Value} (h : w.cell? a = some v) : ∃ g o, a = ⟨g, o, none⟩ ∧ g < w.heap.size := by
  have hlt := block_lt_of_cell h
  obtain ⟨g, o, sp⟩ := a
  unfold World.cell? at h
  split at h
  · split at h
    · cases h
    · rename_i hs
      cases sp with
      | none => exact ⟨g, o, rfl, hlt⟩
      | some x => simp at hs
  · cases h
theorem addN (g o k : Nat) : (⟨g, o, none⟩ : Addr).add k = ⟨g, o + k, none⟩ := by
  by_cases h : k = 0
  · subst h; simp [Addr.add]
  · simp [Addr.add, h]
theorem addZ (a : Addr) : a.add 0 = a := by simp [Addr.add]
theorem min63 : IntKind.i64.min = -9223372036854775808 ∧ IntKind.i64.max = 9223372036854775807 := by decide
theorem rngW {n : Int} (h : (Lit.int .i64 n).wf = true) : Rng n := by
  simp only [Lit.wf, Bool.and_eq_true, decide_eq_true_eq, min63.1, min63.2] at h
  exact h
theorem list_cut {α : Type} {l : List α} {n : Nat} (h : l.length = n + 1) : ∃ x r, l = x :: r ∧ r.length = n := by
  cases l with
  | nil => simp at h
  | cons x r => exact ⟨x, r, rfl, by simpa using h⟩
/-- A slice that is read is a row of what its elements are read as. -/
theorem slice_trod {H : Type} {enc : TypeId × Value → H} {w : World} {sp : Nat → Bool} {held : Bool} {T E : TypeId} {sz : Nat} (hu : Tryz.prog.underlying T = some (.slice E)) (hc : Tryz.prog.cellsOf E = sz) (h0 : 0 < sz) {α : Type} (R : List Value → α → Prop)
    {fuel : Nat} (hone : ∀ n, n < fuel → ∀ cs x, DataW.trod enc Tryz.prog w 0 sp held n E cs = some x → ∃ y, R cs y) {cs : List Value} {x : DataW H × List MemPlace} (h : DataW.trod enc Tryz.prog w 0 sp held fuel T cs = some x) :
    ∃ (l : List α) (a : Option Addr) (cap : Nat), cs = [.slice a l.length cap] ∧ l.length ≤ cap ∧ cap ≤ maxLen ∧ ∀ (j : Nat) (y : α), l[j]? = some y → ∃ g o es, a = some ⟨g, o, none⟩ ∧ g < w.heap.size ∧ R es y ∧ es.length = sz ∧ ∀ (i : Nat) (u : Value), es[i]? = some u → w.cell? ⟨g, o + j * sz + i, none⟩ = some u := by
  rcases DataW.trod_slice hu h with ⟨e2, e2'⟩ | ⟨a, len, cap, elems, rest, n', hfu, e2, e2', _, hlc, hcm, hel, helem, _, _⟩
  · subst e2
    exact ⟨[], none, 0, rfl, Nat.le_refl _, Nat.zero_le _, fun j x hx => by simp at hx⟩
  · subst e2
    rw [hc] at helem
    have hat : ∀ i, i < len → ∃ g o es y, a = ⟨g, o, none⟩ ∧ g < w.heap.size ∧ R es y ∧ es.length = sz ∧ ∀ (q : Nat) (u : Value), es[q]? = some u → w.cell? ⟨g, o + i * sz + q, none⟩ = some u := by
      intro i hi
      obtain ⟨g, o, rfl, hlt⟩ : ∃ g o, a = ⟨g, o, none⟩ ∧ g < w.heap.size := by
        have hel2 := helem 0 (by omega)
        rw [Nat.zero_mul, addZ, List.getElem?_eq_getElem (by omega)] at hel2
        obtain ⟨cs', hcs, htr⟩ := Option.bind_eq_some_iff.1 hel2
        obtain ⟨_, hsz, hcc⟩ := World.cells?_some hcs
        have c0 := hcc 0 h0
        rw [addZ, List.getElem?_eq_getElem (by omega)] at c0
        exact spot c0
      have hel2 := helem i hi
      rw [List.getElem?_eq_getElem (by omega)] at hel2
      obtain ⟨cs', hcs, htr⟩ := Option.bind_eq_some_iff.1 hel2
      obtain ⟨y, hy⟩ := hone n' (by omega) _ _ htr
      obtain ⟨_, hsz, hcc⟩ := World.cells?_some hcs
      refine ⟨g, o, cs', y, rfl, hlt, hy, hsz, fun q u hq => ?_⟩
      have hq2 := (List.getElem?_eq_some_iff.1 hq).1
      have h1 := hcc q (by omega)
      rw [addN, addN, hq] at h1
      exact h1
    have hex : ∀ m, m ≤ len → ∃ l : List α, l.length = m ∧ ∀ (j : Nat) (y : α), l[j]? = some y → ∃ g o es, a = ⟨g, o, none⟩ ∧ g < w.heap.size ∧ R es y ∧ es.length = sz ∧ ∀ (q : Nat) (u : Value), es[q]? = some u → w.cell? ⟨g, o + j * sz + q, none⟩ = some u := by
      intro m
      induction m with
      | zero => intro _; exact ⟨[], rfl, fun j y hy => by simp at hy⟩
      | succ m ih =>
        intro hm
        obtain ⟨l, hl, hp⟩ := ih (by omega)
        obtain ⟨g, o, es, y, h1, h2, h3, h4, h5⟩ := hat m (by omega)
        refine ⟨l ++ [y], by simp [hl], fun j z hz => ?_⟩
        rcases Nat.lt_or_ge j l.length with k1 | k1
        · rw [List.getElem?_append_left k1] at hz
          exact hp j z hz
        · have hj := (List.getElem?_eq_some_iff.1 hz).1
          simp only [List.length_append, List.length_cons, List.length_nil] at hj
          obtain rfl : j = l.length := by omega
          rw [List.getElem?_append_right (Nat.le_refl _), Nat.sub_self] at hz
          injection hz with hz
          subst hz
          exact ⟨g, o, es, h1, h2, h3, h4, by rw [hl]; exact h5⟩
    obtain ⟨l, hl, hp⟩ := hex len (Nat.le_refl _)
    refine ⟨l, some a, cap, by rw [hl], by omega, hcm, fun j y hy => ?_⟩
    obtain ⟨g, o, es, h1, h2, h3, h4, h5⟩ := hp j y hy
    exact ⟨g, o, es, by rw [h1], h2, h3, h4, h5⟩
theorem nFields : ∃ f0 f1 f2 : Field, Tryz.prog.underlying 59 = some (.struct #[f0, f1, f2]) ∧ (f0.type = 48 ∧ f0.offset = 0) ∧ (f1.type = 2 ∧ f1.offset = 1) ∧ (f2.type = 57 ∧ f2.offset = 2) :=
  ⟨_, _, _, Tryz.underlying59, ⟨rfl, rfl⟩, ⟨rfl, rfl⟩, ⟨rfl, rfl⟩⟩
theorem fFields : ∃ f0 f1 : Field, Tryz.prog.underlying 46 = some (.struct #[f0, f1]) ∧ (f0.type = 3 ∧ f0.offset = 0) ∧ (f1.type = 44 ∧ f1.offset = 1) :=
  ⟨_, _, Tryz.underlying46, ⟨rfl, rfl⟩, ⟨rfl, rfl⟩⟩
theorem pFields : ∃ f0 : Field, Tryz.prog.underlying 24 = some (.struct #[f0]) ∧ (f0.type = 22 ∧ f0.offset = 0) :=
  ⟨_, Tryz.underlying24, ⟨rfl, rfl⟩⟩
theorem cIntT : Tryz.prog.cellsOf 3 = 1 := by kernel_rfl
theorem cI64T : Tryz.prog.cellsOf 2 = 1 := by kernel_rfl
theorem cOpT : Tryz.prog.cellsOf 48 = 1 := by kernel_rfl
theorem cSlI : Tryz.prog.cellsOf 57 = 1 := by kernel_rfl
theorem cSlN : Tryz.prog.cellsOf 44 = 1 := by kernel_rfl
theorem cSlF : Tryz.prog.cellsOf 22 = 1 := by kernel_rfl
theorem cNode : Tryz.prog.cellsOf 59 = 3 := by kernel_rfl
theorem cFun : Tryz.prog.cellsOf 46 = 2 := by kernel_rfl
theorem cPrg : Tryz.prog.cellsOf 24 = 1 := by kernel_rfl
section
variable {H : Type} {enc : TypeId × Value → H} {w : World} {sp : Nat → Bool} {held : Bool}
/-- A row of numbers that is read. -/
theorem isI_trod {fuel : Nat} {cs : List Value} {x : DataW H × List MemPlace} (h : DataW.trod enc Tryz.prog w 0 sp held fuel 57 cs = some x) : ∃ (l : List Int) (a : Option Addr) (cap : Nat), cs = [.slice a l.length cap] ∧ l.length ≤ cap ∧ cap ≤ maxLen ∧ IsI (· < w.heap.size) w l a := by
  obtain ⟨l, a, cap, h1, h2, h3, h4⟩ := slice_trod Tryz.underlying57 cIntT (by decide) (fun es (y : Int) => es = [.int .i64 y] ∧ Rng y) (fun n _ cs x hx => by
    obtain ⟨v, e, -, hw⟩ := DataW.trod_int Tryz.underlying3 hx
    exact ⟨v, e, rngW hw⟩) h
  refine ⟨l, a, cap, h1, h2, h3, fun j y hy => ?_⟩
  obtain ⟨g, o, es, e1, e2, ⟨rfl, e3⟩, -, e5⟩ := h4 j y hy
  have := e5 0 _ rfl
  rw [Nat.mul_one, Nat.add_zero] at this
  exact ⟨g, o, e1, e2, this, e3⟩
/-- What a node's cells are. -/
def NodeR (w : World) (es : List Value) (y : Nd) : Prop := ∃ la lc, es = [.int .i64 y.op, .int .i64 y.n, .slice la y.l.length lc] ∧ y.l.length ≤ lc ∧ lc ≤ maxLen ∧ IsI (· < w.heap.size) w y.l la ∧ Rng y.op ∧ Rng y.n
theorem node_trod {fuel : Nat} {cs : List Value} {x : DataW H × List MemPlace} (h : DataW.trod enc Tryz.prog w 0 sp held fuel 59 cs = some x) : ∃ y, NodeR w cs y := by
  obtain ⟨f0, f1, f2, hu, ⟨t0, o0⟩, ⟨t1, o1⟩, ⟨t2, o2⟩⟩ := nFields
  obtain ⟨xs, n, rfl, rfl, hl, hxl, hx⟩ := DataW.trod_struct hu h
  rw [cNode] at hl
  have x0 := hx 0 f0 rfl
  have x1 := hx 1 f1 rfl
  have x2 := hx 2 f2 rfl
  rw [t0, o0, cOpT] at x0
  rw [t1, o1, cI64T] at x1
  rw [t2, o2, cSlI] at x2
  obtain ⟨c0, r0, rfl, hl1⟩ := list_cut hl
  obtain ⟨c1, r1, rfl, hl2⟩ := list_cut hl1
  obtain ⟨c2, r2, rfl, hl3⟩ := list_cut hl2
  obtain rfl := List.eq_nil_of_length_eq_zero hl3
  obtain ⟨y0, s0, rfl, hxl1⟩ := list_cut hxl
  obtain ⟨y1, s1, rfl, hxl2⟩ := list_cut hxl1
  obtain ⟨y2, s2, rfl, hxl3⟩ := list_cut hxl2
  obtain ⟨v0, e0, _, w0⟩ := DataW.trod_int Tryz.underlying48 x0
  obtain ⟨v1, e1, _, w1⟩ := DataW.trod_int Tryz.underlying2 x1
  obtain ⟨l, la, lc, e2, k1, k2, k3⟩ := isI_trod x2
  simp only [List.drop_zero, List.take_succ_cons, List.take_zero, List.cons.injEq, and_true] at e0
  simp only [List.drop_succ_cons, List.drop_zero, List.take_succ_cons, List.take_zero, List.cons.injEq, and_true] at e1 e2
  subst e0 e1 e2
  exact ⟨⟨v0, v1, l⟩, la, lc, rfl, k1, k2, k3, rngW w0, rngW w1⟩
theorem isNs_trod {fuel : Nat} {cs : List Value} {x : DataW H × List MemPlace} (h : DataW.trod enc Tryz.prog w 0 sp held fuel 44 cs = some x) : ∃ (l : List Nd) (a : Option Addr) (cap : Nat), cs = [.slice a l.length cap] ∧ l.length ≤ cap ∧ cap ≤ maxLen ∧ IsNs (· < w.heap.size) w l a := by
  obtain ⟨l, a, cap, h1, h2, h3, h4⟩ := slice_trod Tryz.underlying44 cNode (by decide) (NodeR w) (fun n _ cs x hx => node_trod hx) h
  refine ⟨l, a, cap, h1, h2, h3, fun j y hy => ?_⟩
  obtain ⟨g, o, es, e1, e2, ⟨la, lc, rfl, k1, k2, k3, k4, k5⟩, -, e5⟩ := h4 j y hy
  exact ⟨g, o, la, lc, e1, e2, e5 0 _ rfl, e5 1 _ rfl, e5 2 _ rfl, k1, k2, k3, k4, k5⟩
def FunR (w : World) (es : List Value) (y : Fn) : Prop := ∃ la lc, es = [.int .i64 y.ps, .slice la y.ns.length lc] ∧ y.ns.length ≤ lc ∧ lc ≤ maxLen ∧ IsNs (· < w.heap.size) w y.ns la ∧ Rng y.ps
theorem fun_trod {fuel : Nat} {cs : List Value} {x : DataW H × List MemPlace} (h : DataW.trod enc Tryz.prog w 0 sp held fuel 46 cs = some x) : ∃ y, FunR w cs y := by
  obtain ⟨f0, f1, hu, ⟨t0, o0⟩, ⟨t1, o1⟩⟩ := fFields
  obtain ⟨xs, n, rfl, rfl, hl, hxl, hx⟩ := DataW.trod_struct hu h
  rw [cFun] at hl
  have x0 := hx 0 f0 rfl
  have x1 := hx 1 f1 rfl
  rw [t0, o0, cIntT] at x0
  rw [t1, o1, cSlN] at x1
  obtain ⟨c0, r0, rfl, hl1⟩ := list_cut hl
  obtain ⟨c1, r1, rfl, hl2⟩ := list_cut hl1
  obtain rfl := List.eq_nil_of_length_eq_zero hl2
  obtain ⟨y0, s0, rfl, hxl1⟩ := list_cut hxl
  obtain ⟨y1, s1, rfl, hxl2⟩ := list_cut hxl1
  obtain ⟨v0, e0, _, w0⟩ := DataW.trod_int Tryz.underlying3 x0
  obtain ⟨l, la, lc, e2, k1, k2, k3⟩ := isNs_trod x1
  simp only [List.drop_zero, List.take_succ_cons, List.take_zero, List.cons.injEq, and_true] at e0
  simp only [List.drop_succ_cons, List.drop_zero, List.take_succ_cons, List.take_zero, List.cons.injEq, and_true] at e2
  subst e0 e2
  exact ⟨⟨v0, l⟩, la, lc, rfl, k1, k2, k3, rngW w0⟩
theorem isFs_trod {fuel : Nat} {cs : List Value} {x : DataW H × List MemPlace} (h : DataW.trod enc Tryz.prog w 0 sp held fuel 22 cs = some x) : ∃ (l : List Fn) (a : Option Addr) (cap : Nat), cs = [.slice a l.length cap] ∧ l.length ≤ cap ∧ cap ≤ maxLen ∧ IsFs (· < w.heap.size) w l a := by
  obtain ⟨l, a, cap, h1, h2, h3, h4⟩ := slice_trod Tryz.underlying22 cFun (by decide) (FunR w) (fun n _ cs x hx => fun_trod hx) h
  refine ⟨l, a, cap, h1, h2, h3, fun j y hy => ?_⟩
  obtain ⟨g, o, es, e1, e2, ⟨la, lc, rfl, k1, k2, k3, k4⟩, -, e5⟩ := h4 j y hy
  exact ⟨g, o, la, lc, e1, e2, e5 0 _ rfl, e5 1 _ rfl, k1, k2, k3, k4⟩
/-- A program that is read. -/
theorem prog_trod {fuel : Nat} {cs : List Value} {x : DataW H × List MemPlace} (h : DataW.trod enc Tryz.prog w 0 sp held fuel 24 cs = some x) : ∃ (p : List Fn) (pa : Option Addr) (cap : Nat), cs = [.slice pa p.length cap] ∧ PAt (· < w.heap.size) w p pa cap := by
  obtain ⟨f0, hu, ⟨t0, o0⟩⟩ := pFields
  obtain ⟨xs, n, rfl, rfl, hl, hxl, hx⟩ := DataW.trod_struct hu h
  rw [cPrg] at hl
  have x0 := hx 0 f0 rfl
  rw [t0, o0, cSlF] at x0
  obtain ⟨c0, r0, rfl, hl1⟩ := list_cut hl
  obtain rfl := List.eq_nil_of_length_eq_zero hl1
  obtain ⟨y0, s0, rfl, hxl1⟩ := list_cut hxl
  obtain ⟨l, la, lc, e2, k1, k2, k3⟩ := isFs_trod x0
  simp only [List.drop_zero, List.take_succ_cons, List.take_zero, List.cons.injEq, and_true] at e2
  subst e2
  exact ⟨l, la, lc, rfl, ⟨k3, k1, k2⟩⟩
end
end Go.Proofs.YtjendlnicbieoaaGreatDoor
