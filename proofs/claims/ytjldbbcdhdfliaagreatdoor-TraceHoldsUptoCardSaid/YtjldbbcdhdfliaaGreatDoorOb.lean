/-
  A slice of bytes that came in: what is read is a list of bytes that lie there. Plain.
-/
import Derived.Test.YtjldbbcdhdfliaaGreatDoorOe
import Derived.Test.YtjldbbcdhdfliaaGreatDoorViVj
namespace Go.Proofs.YtjldbbcdhdfliaaGreatDoor
open Go.RowKit

theorem cU8 : Tryz.prog.cellsOf 5 = 1 := by kernel_rfl
theorem u8_wf {n : Int} (h : (Lit.int .u8 n).wf = true) : ∃ c : UInt8, n = ((c.toNat : Nat) : Int) := by
  have h2 : 0 ≤ n ∧ n ≤ 255 := by
    simp [Lit.wf, IntKind.min, IntKind.max, IntKind.bits, IntKind.signed] at h
    omega
  exact ⟨UInt8.ofNat n.toNat, by rw [u8_of (by omega)]; omega⟩
/-- A slice that is read is a row of bytes. -/
theorem bytes_trod {H : Type} {enc : TypeId × Value → H} {w : World} {sp : Nat → Bool} {held : Bool} {fuel : Nat} {cs : List Value} {x : DataW H × List MemPlace} (h : DataW.trod enc Tryz.prog w 0 sp held fuel 55 cs = some x) :
    ∃ (l : List UInt8) (a : Option Addr) (cap : Nat), cs = [.slice a l.length cap] ∧ l.length ≤ cap ∧ cap ≤ maxLen ∧ (l ≠ [] → ∃ g o, a = some ⟨g, o, none⟩ ∧ g < w.heap.size ∧ Cel w g o l) := by
  rcases DataW.trod_slice Tryz.underlying55 h with ⟨e2, e2'⟩ | ⟨a, len, cap, elems, rest, n', _, e2, e2', _, hlc, hcm, hel, helem, _, _⟩
  · subst e2
    exact ⟨[], none, 0, rfl, Nat.le_refl _, Nat.zero_le _, fun h => absurd rfl h⟩
  · subst e2
    by_cases h0 : len = 0
    · subst h0
      exact ⟨[], some a, cap, rfl, Nat.zero_le _, hcm, fun h => absurd rfl h⟩
    · obtain ⟨g, o, rfl, hlt⟩ : ∃ g o, a = ⟨g, o, none⟩ ∧ g < w.heap.size := by
        have hel2 := helem 0 (by omega)
        rw [Nat.zero_mul, add_zero', List.getElem?_eq_getElem (by omega), cU8] at hel2
        obtain ⟨cs', hcs, htr⟩ := Option.bind_eq_some_iff.1 hel2
        obtain ⟨n0, e0, _, w0⟩ := DataW.trod_int Tryz.underlying5 htr
        obtain ⟨hsz, _, hc⟩ := World.cells?_some hcs
        have c0 := hc 0 (by omega)
        have hj : cs'[0]? = some (.int .u8 n0) := by
          rw [e0]
          rfl
        rw [add_zero', hj] at c0
        exact cell_spot c0
      have hone : ∀ i, i < len → ∃ c : UInt8, w.cell? ⟨g, o + i, none⟩ = some (.int .u8 (c.toNat : Nat)) := by
        intro i hi
        have hel2 := helem i hi
        have hg : elems[i]? = some (elems[i]'(by omega)) := List.getElem?_eq_getElem (by omega)
        rw [hg, cU8, Nat.mul_one] at hel2
        obtain ⟨cs', hcs, htr⟩ := Option.bind_eq_some_iff.1 hel2
        obtain ⟨n0, e0, _, w0⟩ := DataW.trod_int Tryz.underlying5 htr
        obtain ⟨hsz, _, hc⟩ := World.cells?_some hcs
        have c0 := hc 0 (by omega)
        have hj : cs'[0]? = some (.int .u8 n0) := by
          rw [e0]
          rfl
        rw [add_none, add_none, Nat.add_zero, hj] at c0
        obtain ⟨c, rfl⟩ := u8_wf w0
        exact ⟨c, c0⟩
      have hex : ∀ m, m ≤ len → ∃ l : List UInt8, l.length = m ∧ Cel w g o l := by
        intro m
        induction m with
        | zero => intro _; exact ⟨[], rfl, fun i c hc => by simp at hc⟩
        | succ m ih =>
          intro hm
          obtain ⟨l, hl, hp⟩ := ih (by omega)
          obtain ⟨c, hc⟩ := hone m (by omega)
          refine ⟨l ++ [c], by simp [hl], fun j d hd => ?_⟩
          rcases Nat.lt_or_ge j l.length with h1 | h1
          · rw [List.getElem?_append_left h1] at hd
            exact hp j d hd
          · have hj := (List.getElem?_eq_some_iff.1 hd).1
            simp only [List.length_append, List.length_cons, List.length_nil] at hj
            obtain rfl : j = l.length := by omega
            rw [List.getElem?_append_right (Nat.le_refl _), Nat.sub_self] at hd
            injection hd with hd
            rw [← hd, hl]
            exact hc
      obtain ⟨l, hl, hp⟩ := hex len (Nat.le_refl _)
      exact ⟨l, some ⟨g, o, none⟩, cap, by rw [hl], by omega, hcm, fun _ => ⟨g, o, rfl, hlt, hp⟩⟩
end Go.Proofs.YtjldbbcdhdfliaaGreatDoor
