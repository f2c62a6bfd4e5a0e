/-
  The statement ValtextTells, walked.
-/
import Derived.Test.YtkahboomahhdoaaDoorLaw1
import Derived.Test.YtkahboomahhdoaaDoorRefY
namespace Go.Proofs.YtkahboomahhdoaaDoor
open Go.RowKit

theorem textV_form (t : VT) : ∃ (S : ByteArray) (n : Int), textV t = .tuple #[.string S, .int .i64 n] := by
  unfold textV
  split
  · exact ⟨_, _, rfl⟩
  · exact ⟨_, _, rfl⟩
theorem linesV_form (l : List VT) : ∃ (S : ByteArray) (n : Int), linesV l = .tuple #[.string S, .int .i64 n] := by
  unfold linesV
  split
  · exact ⟨_, _, rfl⟩
  · exact ⟨_, _, rfl⟩

set_option maxRecDepth 100000 in
set_option maxHeartbeats 4000000 in
theorem tells_law (l : List VT) (a : Option Addr) (cap : Nat) (_hlc : l.length ≤ cap) (_hcap : cap ≤ maxLen) (w : World) (hrow : IsR (· < w.heap.size) w l a 0) (hnd : ∀ t ∈ l, nd t ≤ 2000000) (hE : Env w) :
    Calls Tryd.prog 6 #[.slice a l.length cap] w fun e w' => e = .returned (.bool true) ∧ Below w.heap.size w w' := by
  unfold maxLen at _hcap
  by_cases h8 : 8 < l.length
  · have hd : decide (8 < (l.length : Int)) = true := by simp; omega
    go_enter Tryd.func6, Tryd.ntmps6
    go_wp2_with fail
    refine (works_any _ hE).mono ?_
    rintro e w1 ⟨rfl, hb1⟩
    go_wp2_with fail
    go_ret
    exact ⟨rfl, hb1⟩
  · have hd : decide (8 < (l.length : Int)) = false := by simp; omega
    have HND := Lib.hid hnd
    clear hnd
    go_enter Tryd.func6, Tryd.ntmps6
    go_wp2_with fail
    go_loopw [3, 4, 5, 6, 7] (fun i _ _ _ _ wr => ∃ j : Nat, i = .int .i64 j ∧ j ≤ l.length ∧ Below w.heap.size w wr) (fun i _ _ _ _ _ => l.length - (intOf i).toNat)
    case atStart => exact ⟨0, rfl, by omega, Below.refl _ _⟩
    case round =>
      obtain ⟨j, rfl, hj, hb⟩ := hrel
      have hE1 := hE.below hb hE.size
      by_cases hlt : j < l.length
      · have hd1 : decide (j < l.length) = true := by simpa using hlt
        obtain ⟨kk, n2, ll, g, o, a', cap', hlj, rfl, hg, c0, c1, c2, ht⟩ := hrow.at_ hlt
        have hndt : nd (.mk kk n2 ll) ≤ 2000000 := HND.out _ (hlj ▸ List.getElem_mem hlt)
        obtain ⟨S, m, hS⟩ := textV_form (.mk kk n2 ll)
        have HS := Lib.hid hS
        clear hlj hS
        have d0 := (hb.cell (p := ⟨g, o + j * 3, none⟩) hg).trans c0
        have d1 := (hb.cell (p := ⟨g, o + j * 3 + 1, none⟩) hg).trans c1
        have d2 := (hb.cell (p := ⟨g, o + j * 3 + 2, none⟩) hg).trans c2
        have ht1 := ht.later hb
        clear c0 c1 c2
        go_wp2_with fail
        refine (Text_any _ _ _ ht1 hE1).mono ?_
        rw [HS.out]
        rintro e w1 ⟨rfl, hb1⟩
        have hb2 := hb.trans (hb1.mono hb.size)
        have hg1 : g < wr.heap.size := Nat.lt_of_lt_of_le hg hb.size
        have f0 := (hb1.cell (p := ⟨g, o + j * 3, none⟩) hg1).trans d0
        have f1 := (hb1.cell (p := ⟨g, o + j * 3 + 1, none⟩) hg1).trans d1
        have f2 := (hb1.cell (p := ⟨g, o + j * 3 + 2, none⟩) hg1).trans d2
        have ht2 := ht1.later hb1
        clear d0 d1 d2
        go_wp2_with fail
        refine (rText_any _ _ _ ht2 hndt).mono ?_
        rw [HS.out]
        rintro e w2 ⟨rfl, hb3⟩
        have hb4 := hb2.trans (hb3.mono hb2.size)
        go_wp2_with fail
        refine (num_any m _).mono ?_
        rintro e w3 ⟨rfl, rfl⟩
        go_wp2_with fail
        go_roundw
        case rel => exact ⟨j + 1, by go_num, by omega, hb4⟩
        case measure => simp [intOf]; omega
      · have hd1 : decide (j < l.length) = false := by simpa using hlt
        obtain ⟨S, m, hS⟩ := linesV_form l
        have HS := Lib.hid hS
        clear hS
        go_wp2_with fail
        refine (Lines_any l a cap _ (by omega) (hrow.below hb |>.more fun g hg => Nat.lt_of_lt_of_le hg hb.size) hE1).mono ?_
        rw [HS.out]
        rintro e w1 ⟨rfl, hb1⟩
        have hb2 := hb.trans (hb1.mono hb.size)
        have hE2 := hE.below hb2 hE.size
        go_wp2_with fail
        refine (rLines_any l a cap _ (by omega) (hrow.below hb2 |>.more fun g hg => Nat.lt_of_lt_of_le hg hb2.size) HND.out).mono ?_
        rw [HS.out]
        rintro e w2 ⟨rfl, hb3⟩
        have hb4 := hb2.trans (hb3.mono hb2.size)
        have hE4 := hE.below hb4 hE.size
        go_wp2_with fail
        refine (num_any m _).mono ?_
        rintro e w3 ⟨rfl, rfl⟩
        go_wp2_with fail
        refine (works_any _ hE4).mono ?_
        rintro e w4 ⟨rfl, hb5⟩
        go_wp2_with fail
        go_ret
        exact ⟨rfl, hb4.trans (hb5.mono hb4.size)⟩
end Go.Proofs.YtkahboomahhdoaaDoor
