/-
 An api.Val, and a slice of them, that came in: what is read is a tree. Plain.
-/
import Derived.Test.YtjldbbcdhdfliaaGreatDoorBText
import Derived.ChangeArms
import Derived.DataReads
namespace Go.Proofs.YtjldbbcdhdfliaaGreatDoor
open Go.RowKit

theorem vFields : ∃ f0 f1 f2 : Field, Tryz.prog.underlying 27 = some (.struct #[f0, f1, f2]) ∧ f0.type = 24 ∧ f0.offset = 0 ∧ f1.type = 2 ∧ f1.offset = 1 ∧ f2.type = 25 ∧ f2.offset = 2 := by
 exact ⟨_, _, _, Tryz.underlying27, rfl, rfl, rfl, rfl, rfl, rfl⟩
theorem cVal : Tryz.prog.cellsOf 27 = 3 := by kernel_rfl
theorem cKind : Tryz.prog.cellsOf 24 = 1 := by kernel_rfl
theorem cI64 : Tryz.prog.cellsOf 2 = 1 := by kernel_rfl
theorem cSl : Tryz.prog.cellsOf 25 = 1 := by kernel_rfl
theorem min64 : IntKind.i64.min = -9223372036854775808 := by decide
theorem rng_wf {n : Int} (h : (Lit.int .i64 n).wf = true) : Rng n := by
 simp [Lit.wf] at h
 rw [min64] at h
 unfold Rng
 omega
theorem cells3 {w : World} {base : Nat} {a : Addr} {cs : List Value} (h : w.cells? base a 3 = some cs) : ∃ c0 c1 c2, cs = [c0, c1, c2] ∧ w.cell? a = some c0 ∧ w.cell? (a.add 1) = some c1 ∧ w.cell? (a.add 2) = some c2 := by
 obtain ⟨_, hl, hc⟩ := World.cells?_some h
 match cs, hl with
 | [c0, c1, c2], _ => exact ⟨c0, c1, c2, rfl, (hc 0 (by omega)), hc 1 (by omega), hc 2 (by omega)⟩
theorem cell_spot {w : World} {a : Addr} {v : Value} (h : w.cell? a = some v) : ∃ g o, a = ⟨g, o, none⟩ ∧ g < w.heap.size := by
 have hlt := block_lt_of_cell h
 obtain ⟨g, o, sp⟩ := a
 unfold World.cell? at h
 split at h
 ·split at h
  ·cases h
  ·rename_i hs
   cases sp with
   | none => exact ⟨g, o, rfl, hlt⟩
   | some x => simp at hs
 ·cases h
theorem add_none (g o k : Nat) : (⟨g, o, none⟩ : Addr).add k = ⟨g, o + k, none⟩ := by
 by_cases h : k = 0
 ·subst h; simp [Addr.add]
 ·simp [Addr.add, h]
theorem add_zero' (a : Addr) : a.add 0 = a := by simp [Addr.add]
/-- A value that is read is a tree; it has no more parts than the reading's bulk. -/
theorem isV_trod {H : Type} {enc : TypeId × Value → H} {w : World} {sp : Nat → Bool} {held : Bool} (fuel : Nat) : ∀ {c0 c1 c2 : Value} {x : DataW H × List MemPlace}, DataW.trod enc Tryz.prog w 0 sp held fuel 27 [c0, c1, c2] = some x → ∃ t, IsV (· < w.heap.size) w t (.agg #[c0, c1, c2]) ∧ nd t ≤ Rows.uptoBulk x.1 := by
 induction fuel using Nat.strongRecOn with
 | _ fuel ih =>
  intro c0 c1 c2 x h
  obtain ⟨f0, f1, f2, hu, t0, o0, t1, o1, t2, o2⟩ := vFields
  obtain ⟨xs, n, rfl, rfl, hl, hxl, hx⟩ := DataW.trod_struct hu h
  have x0 := hx 0 f0 rfl
  have x1 := hx 1 f1 rfl
  have x2 := hx 2 f2 rfl
  rw [t0, o0, cKind] at x0
  rw [t1, o1, cI64] at x1
  rw [t2, o2, cSl] at x2
  match xs, hxl with
  | [y0, y1, y2], _ =>
   obtain ⟨k, e0, e0', w0⟩ := DataW.trod_int Tryz.underlying24 x0
   obtain ⟨m, e1, e1', w1⟩ := DataW.trod_int Tryz.underlying2 x1
   simp only [List.drop_zero, List.take_succ_cons, List.take_zero, List.cons.injEq, and_true] at e0
   simp only [List.drop_succ_cons, List.drop_zero, List.take_succ_cons, List.take_zero, List.cons.injEq, and_true] at e1
   subst e0 e1
   rcases DataW.trod_slice Tryz.underlying25 x2 with ⟨e2, e2'⟩ | ⟨a, len, cap, elems, rest, n', hn', e2, e2', _, hlc, hcm, hel, helem, _, _⟩
   ·simp only [List.drop_succ_cons, List.drop_zero, List.take_succ_cons, List.take_zero, List.cons.injEq, and_true] at e2
    subst e2
    refine ⟨.mk k m [], ?_, ?_⟩
    ·rw [IsV]
     exact ⟨none, 0, rfl, rng_wf w0, rng_wf w1, Nat.le_refl _, Nat.zero_le _, by rw [IsR]; trivial⟩
    ·rw [nd, ndL]
     simp only [Rows.uptoBulk]
     omega
   ·simp only [List.drop_succ_cons, List.drop_zero, List.take_succ_cons, List.take_zero, List.cons.injEq, and_true] at e2
    subst e2
    have ha : len = 0 ∨ ∃ g o, a = ⟨g, o, none⟩ ∧ g < w.heap.size := by
     by_cases h0 : len = 0
     ·exact .inl h0
     ·right
      have hel2 := helem 0 (by omega)
      rw [Nat.zero_mul, add_zero', List.getElem?_eq_getElem (by omega), cVal] at hel2
      obtain ⟨cs', hcs, _⟩ := Option.bind_eq_some_iff.1 hel2
      obtain ⟨d0, d1, d2, rfl, q0, q1, q2⟩ := cells3 hcs
      exact cell_spot q0
    have hex : ∀ m', m' ≤ len → ∃ l : List VT, l.length = m' ∧ IsR (· < w.heap.size) w l (some a) (len - m') ∧ ndL l ≤ Rows.uptoBulkAll ((elems.drop (len - m')).map (·.1)) := by
     intro m'
     induction m' with
     | zero => intro _; exact ⟨[], rfl, by rw [IsR]; trivial, by rw [ndL]; omega⟩
     | succ m' ih2 =>
      intro hm
      obtain ⟨l, hll, hr, hnd⟩ := ih2 (by omega)
      clear ih2
      have hi : len - (m' + 1) < len := by omega
      have hel2 := helem (len - (m' + 1)) hi
      have hg : elems[len - (m' + 1)]? = some (elems[len - (m' + 1)]'(by omega)) := List.getElem?_eq_getElem (by omega)
      rw [hg, cVal] at hel2
      obtain ⟨cs', hcs, htr⟩ := Option.bind_eq_some_iff.1 hel2
      obtain ⟨d0, d1, d2, rfl, q0, q1, q2⟩ := cells3 hcs
      obtain ⟨t, hv, hnt⟩ := ih n' (by omega) htr
      obtain ⟨g, o, rfl, hlt⟩ : ∃ g o, a = ⟨g, o, none⟩ ∧ g < w.heap.size := by
       rcases ha with h0 | h
       ·omega
       ·exact h
      clear ha
      rw [add_none] at q0 q1 q2
      rw [add_none] at q1 q2
      refine ⟨t :: l, by simp [hll], ?_, ?_⟩
      ·rw [IsR]
       refine ⟨⟨g, o, d0, d1, d2, rfl, hlt, q0, q1, q2, hv⟩, ?_⟩
       ·rwa [show len - (m' + 1) + 1 = len - m' from by omega]
      ·rw [ndL, List.drop_eq_getElem_cons (by omega), List.map_cons, Rows.uptoBulkAll, show len - (m' + 1) + 1 = len - m' from by omega]
       omega
    obtain ⟨l, hll, hr, hnd⟩ := hex len (Nat.le_refl _)
    rw [Nat.sub_self] at hr hnd
    refine ⟨.mk k m l, ?_, ?_⟩
    ·rw [IsV]
     exact ⟨some a, cap, by rw [hll], rng_wf w0, rng_wf w1, by omega, hcm, hr⟩
    ·rw [nd]
     have e3 : y2.1 = .slice (elems.map (·.1)) (rest.map (·.1)) := by
      have := congrArg Prod.fst e2'
      simpa using this
     simp only [List.map_cons, List.map_nil, Rows.uptoBulk, Rows.uptoBulkAll, e3]
     rw [List.drop_zero] at hnd
     omega
end Go.Proofs.YtjldbbcdhdfliaaGreatDoor
