/-
  Walks over package val: count.
-/
import Derived.Test.YtkahboomahhdoaaDoorVal0
import Derived.BigQuiet
import Derived.Lib.Hide
namespace Go.Proofs.YtkahboomahhdoaaDoor
open Go.RowKit

mutual
def cnt : VT → Nat → Nat
  | .mk _ _ l, n => cntL l (n + 1)
def cntL : List VT → Nat → Nat
  | [], n => n
  | t :: r, n => if 256 < n then n else cntL r (cnt t n)
end

mutual
theorem cnt_le : ∀ (t : VT) (n : Nat), n ≤ 256 → cnt t n ≤ 257
  | .mk _ _ l, n, h => by rw [cnt]; exact cntL_le l (n + 1) (by omega)
theorem cntL_le : ∀ (l : List VT) (n : Nat), n ≤ 257 → cntL l n ≤ 257
  | [], n, h => by rw [cntL]; exact h
  | t :: r, n, h => by
    rw [cntL]
    split
    · exact h
    · exact cntL_le r _ (cnt_le t n (by omega))
end

theorem ret_int {k : IntKind} {a b : Int} (h : a = b) : Ending.returned (.int k a) = .returned (.int k b) := by rw [h]
theorem ret_bool {a b : Bool} (h : a = b) : Ending.returned (.bool a) = .returned (.bool b) := by rw [h]
theorem bcell {W w1 : World} (hb : Below W.heap.size W w1) : (∀ b o, b < W.heap.size → w1.cell? ⟨b, o, none⟩ = W.cell? ⟨b, o, none⟩) ∧ (∀ b o, b < W.heap.size → w1.frozen? ⟨b, o, none⟩ = W.frozen? ⟨b, o, none⟩) :=
  ⟨fun b o h => hb.cell (p := ⟨b, o, none⟩) h, fun b o h => hb.frozen (p := ⟨b, o, none⟩) h⟩

set_option maxHeartbeats 1000000 in
theorem count_any (k : Nat) : ∀ (t : VT) (v : Value) (n : Nat) (w : World), SizeOf.sizeOf t ≤ k → n ≤ 256 → IsV (· < w.heap.size) w t v →
    Calls Tryd.prog 45 #[v, .int .i64 n] w fun e w' => e = .returned (.int .i64 (cnt t n : Nat)) ∧ Below w.heap.size w w' := by
  induction k with
  | zero => intro t; cases t; simp
  | succ k ih =>
    intro t v n w hk hn hv
    obtain ⟨kd, nn, l⟩ := t
    rw [IsV] at hv
    obtain ⟨a, cap, rfl, hkr, hnr, hl, hcap, hrow⟩ := hv
    unfold maxLen at hcap
    go_enter Tryd.func45, Tryd.ntmps45
    go_wp2
    go_loopw [1, 12] (fun m i wr => ∃ (j m' : Nat), j ≤ l.length ∧ i = .int .i64 j ∧ m = .int .i64 m' ∧ m' ≤ 257 ∧ cntL l (n + 1) = cntL (l.drop j) m' ∧ Below w.heap.size w wr ∧ w.heap.size + 1 ≤ wr.heap.size) (fun _ i _ => l.length - (intOf i).toNat)
    case atStart => exact ⟨0, n + 1, by omega, rfl, by go_num, by omega, rfl, (Below.refl _ _).alloc (Nat.le_refl _) _, by simp⟩
    case round =>
      obtain ⟨j, m', hj, rfl, rfl, hm, hc, hb⟩ := hrel
      have HC := Lib.hid hc
      clear hc
      have hsz : w.heap.size + 1 ≤ wr.heap.size := hb.2
      have hb := hb.1
      by_cases hlt : j < l.length
      · obtain ⟨kk, n2, ll, g, o, a', cap', hlj, rfl, hg, c0, c1, c2, ht⟩ := hrow.at_ hlt
        have d0 := (hb.cell (p := ⟨g, o + j * 3, none⟩) hg).trans c0
        have d1 := (hb.cell (p := ⟨g, o + j * 3 + 1, none⟩) hg).trans c1
        have d2 := (hb.cell (p := ⟨g, o + j * 3 + 2, none⟩) hg).trans c2
        clear c0 c1 c2
        have HL := Lib.hid hlj
        clear hlj
        by_cases hm2 : 256 < m'
        · go_wp2_with fail
          go_ret
          refine ⟨ret_int ?_, (hb.alloc (by omega) _)⟩
          rw [cnt, HC.out, List.drop_eq_getElem_cons hlt, cntL, if_pos hm2]
        · go_wp2_with fail
          refine (ih (.mk kk n2 ll) _ m' _ (sz_lt (HL.out ▸ List.getElem_mem hlt) hk) (by omega) ?_).mono ?_
          · exact (ht.below (hb.alloc (by omega) _)).lift (by simp; omega)
          rintro e w1 ⟨rfl, hb1⟩
          go_wp2_with fail
          go_roundw
          case rel =>
            refine ⟨j + 1, _, by omega, by go_num, rfl, cnt_le _ _ (by omega), ?_, ?_, ?_⟩
            · rw [HC.out, List.drop_eq_getElem_cons hlt, cntL, if_neg hm2, HL.out]
            · exact (hb.alloc (by omega) _).trans (hb1.mono (by simp; omega))
            · have := hb1.size; simp at this; omega
          case measure => simp [intOf]; omega
      · go_wp2_with fail
        go_ret
        obtain rfl : j = l.length := by omega
        refine ⟨ret_int ?_, hb⟩
        rw [cnt, HC.out, List.drop_length, cntL]
end Go.Proofs.YtkahboomahhdoaaDoor
