/-
 A slice of events that came in: what is read is a list of events. Plain.
-/
import Derived.Test.YtjldbbcdhdfliaaGreatDoorOpen
import Derived.Test.YtjldbbcdhdfliaaGreatDoorTkTl
import Derived.Test.YtjldbbcdhdfliaaGreatDoorViVj
namespace Go.Proofs.YtjldbbcdhdfliaaGreatDoor
open Go.RowKit

theorem list_consO {α : Type} {l : List α} {n : Nat} (h : l.length = n + 1) : ∃ x r, l = x :: r ∧ r.length = n := by
 cases l with
 | nil => simp at h
 | cons x r => exact ⟨x, r, rfl, by simpa using h⟩
theorem eFields : ∃ f0 f1 f2 f3 f4 f5 f6 f7 : Field, Tryz.prog.underlying 29 = some (.struct #[f0, f1, f2, f3, f4, f5, f6, f7]) ∧ (f0.type = 23 ∧ f0.offset = 0) ∧ (f1.type = 3 ∧ f1.offset = 1) ∧ (f2.type = 3 ∧ f2.offset = 2) ∧ (f3.type = 3 ∧ f3.offset = 3) ∧ (f4.type = 3 ∧ f4.offset = 4) ∧ (f5.type = 3 ∧ f5.offset = 5) ∧ (f6.type = 3 ∧ f6.offset = 6) ∧ (f7.type = 27 ∧ f7.offset = 7) := by
 exact ⟨_, _, _, _, _, _, _, _, Tryz.underlying29, ⟨rfl, rfl⟩, ⟨rfl, rfl⟩, ⟨rfl, rfl⟩, ⟨rfl, rfl⟩, ⟨rfl, rfl⟩, ⟨rfl, rfl⟩, ⟨rfl, rfl⟩, ⟨rfl, rfl⟩⟩
theorem cEv : Tryz.prog.cellsOf 29 = 10 := by kernel_rfl
theorem cEK : Tryz.prog.cellsOf 23 = 1 := by kernel_rfl
theorem cInt : Tryz.prog.cellsOf 3 = 1 := by kernel_rfl
set_option maxRecDepth 4000 in
/-- An event that is read is one; its value has no more parts than the reading's bulk. -/
theorem isE_trod {H : Type} {enc : TypeId × Value → H} {w : World} {sp : Nat → Bool} {held : Bool} {fuel : Nat} {cs : List Value} {x : DataW H × List MemPlace} (h : DataW.trod enc Tryz.prog w 0 sp held fuel 29 cs = some x) :
  ∃ (e : Ev) (kk nn : Int) (a : Option Addr) (len cap : Nat), cs = (evC e kk nn a len cap).toList ∧ IsV (· < w.heap.size) w e.v (.agg #[.int .i64 kk, .int .i64 nn, .slice a len cap]) ∧ RngE e ∧ nd e.v ≤ Rows.uptoBulk x.1 := by
 obtain ⟨f0, f1, f2, f3, f4, f5, f6, f7, hu, ⟨t0, o0⟩, ⟨t1, o1⟩, ⟨t2, o2⟩, ⟨t3, o3⟩, ⟨t4, o4⟩, ⟨t5, o5⟩, ⟨t6, o6⟩, ⟨t7, o7⟩⟩ := eFields
 obtain ⟨xs, n, rfl, rfl, hl, hxl, hx⟩ := DataW.trod_struct hu h
 rw [cEv] at hl
 have x0 := hx 0 f0 rfl
 have x1 := hx 1 f1 rfl
 have x2 := hx 2 f2 rfl
 have x3 := hx 3 f3 rfl
 have x4 := hx 4 f4 rfl
 have x5 := hx 5 f5 rfl
 have x6 := hx 6 f6 rfl
 have x7 := hx 7 f7 rfl
 rw [t0, o0, cEK] at x0
 rw [t1, o1, cInt] at x1
 rw [t2, o2, cInt] at x2
 rw [t3, o3, cInt] at x3
 rw [t4, o4, cInt] at x4
 rw [t5, o5, cInt] at x5
 rw [t6, o6, cInt] at x6
 rw [t7, o7, cVal] at x7
 obtain ⟨c0, cr0, qc0, hc0⟩ := list_consO hl
 subst qc0
 obtain ⟨c1, cr1, qc1, hc1⟩ := list_consO hc0
 subst qc1
 obtain ⟨c2, cr2, qc2, hc2⟩ := list_consO hc1
 subst qc2
 obtain ⟨c3, cr3, qc3, hc3⟩ := list_consO hc2
 subst qc3
 obtain ⟨c4, cr4, qc4, hc4⟩ := list_consO hc3
 subst qc4
 obtain ⟨c5, cr5, qc5, hc5⟩ := list_consO hc4
 subst qc5
 obtain ⟨c6, cr6, qc6, hc6⟩ := list_consO hc5
 subst qc6
 obtain ⟨c7, cr7, qc7, hc7⟩ := list_consO hc6
 subst qc7
 obtain ⟨c8, cr8, qc8, hc8⟩ := list_consO hc7
 subst qc8
 obtain ⟨c9, cr9, qc9, hc9⟩ := list_consO hc8
 subst qc9
 have cn := List.eq_nil_of_length_eq_zero hc9
 subst cn
 obtain ⟨y0, yr0, qy0, hy0⟩ := list_consO hxl
 subst qy0
 obtain ⟨y1, yr1, qy1, hy1⟩ := list_consO hy0
 subst qy1
 obtain ⟨y2, yr2, qy2, hy2⟩ := list_consO hy1
 subst qy2
 obtain ⟨y3, yr3, qy3, hy3⟩ := list_consO hy2
 subst qy3
 obtain ⟨y4, yr4, qy4, hy4⟩ := list_consO hy3
 subst qy4
 obtain ⟨y5, yr5, qy5, hy5⟩ := list_consO hy4
 subst qy5
 obtain ⟨y6, yr6, qy6, hy6⟩ := list_consO hy5
 subst qy6
 obtain ⟨y7, yr7, qy7, hy7⟩ := list_consO hy6
 subst qy7
 have yn := List.eq_nil_of_length_eq_zero hy7
 subst yn
 obtain ⟨n0, e0, _, w0⟩ := DataW.trod_int Tryz.underlying23 x0
 obtain ⟨n1, e1, _, w1⟩ := DataW.trod_int Tryz.underlying3 x1
 obtain ⟨n2, e2, _, w2⟩ := DataW.trod_int Tryz.underlying3 x2
 obtain ⟨n3, e3, _, w3⟩ := DataW.trod_int Tryz.underlying3 x3
 obtain ⟨n4, e4, _, w4⟩ := DataW.trod_int Tryz.underlying3 x4
 obtain ⟨n5, e5, _, w5⟩ := DataW.trod_int Tryz.underlying3 x5
 obtain ⟨n6, e6, _, w6⟩ := DataW.trod_int Tryz.underlying3 x6
 simp only [List.drop_zero, List.take_succ_cons, List.take_zero, List.cons.injEq, and_true] at e0
 simp only [List.drop_succ_cons, List.drop_zero, List.take_succ_cons, List.take_zero, List.cons.injEq, and_true] at e1 e2 e3 e4 e5 e6
 simp only [List.drop_succ_cons, List.drop_zero, List.take_succ_cons, List.take_zero] at x7
 subst e0 e1 e2 e3 e4 e5 e6
 obtain ⟨t, hv, hnt⟩ := isV_trod n x7
 obtain ⟨kk, nn, a, len, cap, hform⟩ := hv.form
 simp only [Value.agg.injEq, Array.mk.injEq, List.cons.injEq, and_true] at hform
 obtain ⟨rfl, rfl, rfl⟩ := hform
 refine ⟨⟨n0, n1, n2, n3, n4, n5, n6, t⟩, kk, nn, a, len, cap, rfl, hv, ⟨rng_wf w0, rng_wf w1, rng_wf w2, rng_wf w3, rng_wf w4, rng_wf w5, rng_wf w6⟩, ?_⟩
 simp only [List.map_cons, List.map_nil, Rows.uptoBulk, Rows.uptoBulkAll]
 omega
theorem bulk_mem {H : Type} {y : DataW H × List MemPlace} : ∀ {l : List (DataW H × List MemPlace)}, y ∈ l → Rows.uptoBulk y.1 ≤ Rows.uptoBulkAll (l.map (·.1))
 | _ :: _, h => by
  rw [List.map_cons, Rows.uptoBulkAll]
  rcases List.mem_cons.1 h with rfl | h
  ·omega
  ·have := bulk_mem h
   omega
/-- What lies at a place of a row of events. -/
def EvAt (w : World) (a : Addr) (B : Nat) (j : Nat) (x : Ev) : Prop := (∃ (g o : Nat) (kk nn : Int) (a' : Option Addr) (len cap : Nat), some a = some ⟨g, o, none⟩ ∧ g < w.heap.size ∧
 (∀ i u, (evC x kk nn a' len cap)[i]? = some u → w.cell? ⟨g, o + j * 10 + i, none⟩ = some u) ∧ IsV (· < w.heap.size) w x.v (.agg #[.int .i64 kk, .int .i64 nn, .slice a' len cap]) ∧ RngE x) ∧ nd x.v ≤ B
/-- A slice that is read is a row of events; their values have no more parts than the reading's bulk. -/
theorem isEs_trod {H : Type} {enc : TypeId × Value → H} {w : World} {sp : Nat → Bool} {held : Bool} {fuel : Nat} {cs : List Value} {x : DataW H × List MemPlace} (h : DataW.trod enc Tryz.prog w 0 sp held fuel 38 cs = some x) :
  ∃ (l : List Ev) (a : Option Addr) (cap : Nat), cs = [.slice a l.length cap] ∧ l.length ≤ cap ∧ cap ≤ maxLen ∧ IsEs (· < w.heap.size) w l a ∧ ∀ e ∈ l, nd e.v ≤ Rows.uptoBulk x.1 := by
 rcases DataW.trod_slice Tryz.underlying38 h with ⟨e2, e2'⟩ | ⟨a, len, cap, elems, rest, n', _, e2, e2', _, hlc, hcm, hel, helem, _, _⟩
 ·subst e2
  exact ⟨[], none, 0, rfl, Nat.le_refl _, Nat.zero_le _, fun j x hx => by simp at hx, fun e he => by simp at he⟩
 ·subst e2
  have hone : ∀ i, i < len → ∃ e, EvAt w a (Rows.uptoBulkAll (elems.map (·.1))) i e := by
   intro i hi
   obtain ⟨g, o, rfl, hlt⟩ : ∃ g o, a = ⟨g, o, none⟩ ∧ g < w.heap.size := by
    have hel2 := helem 0 (by omega)
    rw [Nat.zero_mul, add_zero', List.getElem?_eq_getElem (by omega), cEv] at hel2
    obtain ⟨cs', hcs, htr⟩ := Option.bind_eq_some_iff.1 hel2
    obtain ⟨e, kk, nn, a', len', cap', rfl, -⟩ := isE_trod htr
    obtain ⟨_, _, hc⟩ := World.cells?_some hcs
    have c0 : w.cell? (a.add 0) = some (.int .i64 e.k) := hc 0 (by omega)
    rw [add_zero'] at c0
    exact cell_spot c0
   have hel2 := helem i hi
   have hg : elems[i]? = some (elems[i]'(by omega)) := List.getElem?_eq_getElem (by omega)
   rw [hg, cEv] at hel2
   obtain ⟨cs', hcs, htr⟩ := Option.bind_eq_some_iff.1 hel2
   obtain ⟨e, kk, nn, a', len', cap', rfl, hv, hr, hnd⟩ := isE_trod htr
   obtain ⟨_, _, hc⟩ := World.cells?_some hcs
   refine ⟨e, ⟨g, o, kk, nn, a', len', cap', rfl, hlt, fun q u hq => ?_, hv, hr⟩, Nat.le_trans hnd (bulk_mem (List.getElem_mem _))⟩
   have hq10 : q < 10 := (Array.getElem?_eq_some_iff.1 hq).1
   have h1 := hc q hq10
   rw [add_none, add_none] at h1
   rw [h1]
   simpa using hq
  have hex : ∀ m, m ≤ len → ∃ l : List Ev, l.length = m ∧ ∀ (j : Nat) (x : Ev), l[j]? = some x → EvAt w a (Rows.uptoBulkAll (elems.map (·.1))) j x := by
   intro m
   induction m with
   | zero => intro _; exact ⟨[], rfl, fun j x hx => by simp at hx⟩
   | succ m ih =>
    intro hm
    obtain ⟨l, hl, hp⟩ := ih (by omega)
    obtain ⟨e, he⟩ := hone m (by omega)
    refine ⟨l ++ [e], by simp [hl], fun j x hx => ?_⟩
    rcases Nat.lt_or_ge j l.length with h1 | h1
    ·rw [List.getElem?_append_left h1] at hx
     exact hp j x hx
    ·have hj := (List.getElem?_eq_some_iff.1 hx).1
     simp only [List.length_append, List.length_cons, List.length_nil] at hj
     obtain rfl : j = l.length := by omega
     rw [List.getElem?_append_right (Nat.le_refl _), Nat.sub_self] at hx
     injection hx with hx
     rw [← hx, hl]
     exact he
  obtain ⟨l, hl, hp⟩ := hex len (Nat.le_refl _)
  refine ⟨l, some a, cap, by rw [hl], by omega, hcm, fun j x hx => (hp j x hx).1, fun e he => ?_⟩
  obtain ⟨j, hj, hje⟩ := List.getElem_of_mem he
  have h1 := (hp j e (by rw [List.getElem?_eq_getElem hj, hje])).2
  rw [e2']
  simp only [Rows.uptoBulk]
  omega
end Go.Proofs.YtjldbbcdhdfliaaGreatDoor
/-
 A slice of bytes that came in: what is read is a list of bytes that lie there. Plain.
-/
namespace Go.Proofs.YtjldbbcdhdfliaaGreatDoor
open Go.RowKit

theorem cU8 : Tryz.prog.cellsOf 5 = 1 := by kernel_rfl
theorem u8_wf {n : Int} (h : (Lit.int .u8 n).wf = true) : ∃ c : UInt8, n = ((c.toNat : Nat) : Int) := by
 have h2 : 0 ≤ n ∧ n ≤ 255 := by
  simp [Lit.wf, IntKind.min, IntKind.max, IntKind.bits, IntKind.signed] at h
  omega
 exact ⟨UInt8.ofNat n.toNat, by rw [u8_of (by omega)]; omega⟩
/-- A slice that is read is a row of bytes. -/
theorem bytes_trod {H : Type} {enc : TypeId × Value → H} {w : World} {sp : Nat → Bool} {held : Bool} {fuel : Nat} {cs : List Value} {x : DataW H × List MemPlace} (h : DataW.trod enc Tryz.prog w 0 sp held fuel 55 cs = some x) :
  ∃ (l : List UInt8) (a : Option Addr) (cap : Nat), cs = [.slice a l.length cap] ∧ l.length ≤ cap ∧ cap ≤ maxLen ∧ (l ≠ [] → ∃ g o, a = some ⟨g, o, none⟩ ∧ g < w.heap.size ∧ Cel w g o l) := by
 rcases DataW.trod_slice Tryz.underlying55 h with ⟨e2, e2'⟩ | ⟨a, len, cap, elems, rest, n', _, e2, e2', _, hlc, hcm, hel, helem, _, _⟩
 ·subst e2
  exact ⟨[], none, 0, rfl, Nat.le_refl _, Nat.zero_le _, fun h => absurd rfl h⟩
 ·subst e2
  by_cases h0 : len = 0
  ·subst h0
   exact ⟨[], some a, cap, rfl, Nat.zero_le _, hcm, fun h => absurd rfl h⟩
  ·obtain ⟨g, o, rfl, hlt⟩ : ∃ g o, a = ⟨g, o, none⟩ ∧ g < w.heap.size := by
    have hel2 := helem 0 (by omega)
    rw [Nat.zero_mul, add_zero', List.getElem?_eq_getElem (by omega), cU8] at hel2
    obtain ⟨cs', hcs, htr⟩ := Option.bind_eq_some_iff.1 hel2
    obtain ⟨n0, e0, _, w0⟩ := DataW.trod_int Tryz.underlying5 htr
    obtain ⟨hsz, _, hc⟩ := World.cells?_some hcs
    have c0 := hc 0 (by omega)
    have hj : cs'[0]? = some (.int .u8 n0) := by
     rw [e0]
     rfl
    rw [add_zero', hj] at c0
    exact cell_spot c0
   have hone : ∀ i, i < len → ∃ c : UInt8, w.cell? ⟨g, o + i, none⟩ = some (.int .u8 (c.toNat : Nat)) := by
    intro i hi
    have hel2 := helem i hi
    have hg : elems[i]? = some (elems[i]'(by omega)) := List.getElem?_eq_getElem (by omega)
    rw [hg, cU8, Nat.mul_one] at hel2
    obtain ⟨cs', hcs, htr⟩ := Option.bind_eq_some_iff.1 hel2
    obtain ⟨n0, e0, _, w0⟩ := DataW.trod_int Tryz.underlying5 htr
    obtain ⟨hsz, _, hc⟩ := World.cells?_some hcs
    have c0 := hc 0 (by omega)
    have hj : cs'[0]? = some (.int .u8 n0) := by
     rw [e0]
     rfl
    rw [add_none, add_none, Nat.add_zero, hj] at c0
    obtain ⟨c, rfl⟩ := u8_wf w0
    exact ⟨c, c0⟩
   have hex : ∀ m, m ≤ len → ∃ l : List UInt8, l.length = m ∧ Cel w g o l := by
    intro m
    induction m with
    | zero => intro _; exact ⟨[], rfl, fun i c hc => by simp at hc⟩
    | succ m ih =>
     intro hm
     obtain ⟨l, hl, hp⟩ := ih (by omega)
     obtain ⟨c, hc⟩ := hone m (by omega)
     refine ⟨l ++ [c], by simp [hl], fun j d hd => ?_⟩
     rcases Nat.lt_or_ge j l.length with h1 | h1
     ·rw [List.getElem?_append_left h1] at hd
      exact hp j d hd
     ·have hj := (List.getElem?_eq_some_iff.1 hd).1
      simp only [List.length_append, List.length_cons, List.length_nil] at hj
      obtain rfl : j = l.length := by omega
      rw [List.getElem?_append_right (Nat.le_refl _), Nat.sub_self] at hd
      injection hd with hd
      rw [← hd, hl]
      exact hc
   obtain ⟨l, hl, hp⟩ := hex len (Nat.le_refl _)
   exact ⟨l, some ⟨g, o, none⟩, cap, by rw [hl], by omega, hcm, fun _ => ⟨g, o, rfl, hlt, hp⟩⟩
end Go.Proofs.YtjldbbcdhdfliaaGreatDoor
