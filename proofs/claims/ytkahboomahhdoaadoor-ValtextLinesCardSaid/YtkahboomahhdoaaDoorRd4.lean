/-
  Walks over package valtext's reader: word.
-/
import Derived.Test.YtkahboomahhdoaaDoorRd3
import Derived.Laws.Rows
namespace Go.Proofs.YtkahboomahhdoaaDoor
open Go.RowKit

/-- The words of the Kinds. -/
def wdl : Nat → List UInt8
  | 1 => [117, 110, 105, 116]
  | 3 => [112, 97, 105, 114]
  | 4 => [99, 104, 97, 110]
  | 5 => [115, 101, 110, 100]
  | 6 => [114, 101, 99, 118]
  | 7 => [97, 108, 119, 97, 121, 115]
  | 8 => [110, 101, 118, 101, 114]
  | 9 => [99, 104, 111, 111, 115, 101]
  | 10 => [119, 114, 97, 112]
  | 11 => [103, 117, 97, 114, 100]
  | 12 => [110, 97, 99, 107]
  | 13 => [99, 111, 110, 100]
  | _ => []
def wdB (k : Nat) : ByteArray := ⟨(wdl k).toArray⟩
def wordCells : Array Value := #[.string (wdB 0), .string (wdB 1), .string (wdB 2), .string (wdB 3), .string (wdB 4), .string (wdB 5), .string (wdB 6), .string (wdB 7), .string (wdB 8), .string (wdB 9), .string (wdB 10), .string (wdB 11), .string (wdB 12), .string (wdB 13)]
def HasWords (w : World) : Prop := ∃ t fr, w.heap[0]? = some (.cells wordCells t fr)
theorem ix0 (w : World) : (Instr.index 74 (.agg wordCells) (.int .i64 0)).run Tryd.prog w = .ok (.string (wdB 0)) w := by kernel_rfl
theorem ix1 (w : World) : (Instr.index 74 (.agg wordCells) (.int .i64 1)).run Tryd.prog w = .ok (.string (wdB 1)) w := by kernel_rfl
theorem ix2 (w : World) : (Instr.index 74 (.agg wordCells) (.int .i64 2)).run Tryd.prog w = .ok (.string (wdB 2)) w := by kernel_rfl
theorem ix3 (w : World) : (Instr.index 74 (.agg wordCells) (.int .i64 3)).run Tryd.prog w = .ok (.string (wdB 3)) w := by kernel_rfl
theorem ix4 (w : World) : (Instr.index 74 (.agg wordCells) (.int .i64 4)).run Tryd.prog w = .ok (.string (wdB 4)) w := by kernel_rfl
theorem ix5 (w : World) : (Instr.index 74 (.agg wordCells) (.int .i64 5)).run Tryd.prog w = .ok (.string (wdB 5)) w := by kernel_rfl
theorem ix6 (w : World) : (Instr.index 74 (.agg wordCells) (.int .i64 6)).run Tryd.prog w = .ok (.string (wdB 6)) w := by kernel_rfl
theorem ix7 (w : World) : (Instr.index 74 (.agg wordCells) (.int .i64 7)).run Tryd.prog w = .ok (.string (wdB 7)) w := by kernel_rfl
theorem ix8 (w : World) : (Instr.index 74 (.agg wordCells) (.int .i64 8)).run Tryd.prog w = .ok (.string (wdB 8)) w := by kernel_rfl
theorem ix9 (w : World) : (Instr.index 74 (.agg wordCells) (.int .i64 9)).run Tryd.prog w = .ok (.string (wdB 9)) w := by kernel_rfl
theorem ix10 (w : World) : (Instr.index 74 (.agg wordCells) (.int .i64 10)).run Tryd.prog w = .ok (.string (wdB 10)) w := by kernel_rfl
theorem ix11 (w : World) : (Instr.index 74 (.agg wordCells) (.int .i64 11)).run Tryd.prog w = .ok (.string (wdB 11)) w := by kernel_rfl
theorem ix12 (w : World) : (Instr.index 74 (.agg wordCells) (.int .i64 12)).run Tryd.prog w = .ok (.string (wdB 12)) w := by kernel_rfl
theorem ix13 (w : World) : (Instr.index 74 (.agg wordCells) (.int .i64 13)).run Tryd.prog w = .ok (.string (wdB 13)) w := by kernel_rfl
theorem index_words (j : Nat) (hj : j < 14) (w : World) : (Instr.index 74 (.agg wordCells) (.int .i64 (j : Int))).run Tryd.prog w = .ok (.string (wdB j)) w := by
  have h : j = 0 ∨ j = 1 ∨ j = 2 ∨ j = 3 ∨ j = 4 ∨ j = 5 ∨ j = 6 ∨ j = 7 ∨ j = 8 ∨ j = 9 ∨ j = 10 ∨ j = 11 ∨ j = 12 ∨ j = 13 := by omega
  rcases h with rfl | rfl | rfl | rfl | rfl | rfl | rfl | rfl | rfl | rfl | rfl | rfl | rfl | rfl
  · exact ix0 w
  · exact ix1 w
  · exact ix2 w
  · exact ix3 w
  · exact ix4 w
  · exact ix5 w
  · exact ix6 w
  · exact ix7 w
  · exact ix8 w
  · exact ix9 w
  · exact ix10 w
  · exact ix11 w
  · exact ix12 w
  · exact ix13 w
theorem wdB_size (j : Nat) : (wdB j).size ≤ 6 := by
  match j with
  | 0 | 1 | 2 | 3 | 4 | 5 | 6 | 7 | 8 | 9 | 10 | 11 | 12 | 13 => decide
  | n + 14 => show ([] : List UInt8).length ≤ 6; decide

/-- A function value that tells which Kinds may follow. -/
structure MayIs (f : Nat) (m : Int → Bool) : Prop where
  enters : ∀ (args : Array Value) (w : World), (callFunc f args).run Tryd.prog w = .ok (.enter f args) w
  calls : ∀ (k : Int) (w : World), Calls Tryd.prog f #[.int .i64 k] w fun e w' => e = .returned (.bool (m k)) ∧ w = w'

def cand (s : ByteArray) (st n : Nat) (m : Int → Bool) (k : Nat) : Bool :=
  decide (n < (wdB k).size) && m k && ((wdB k).extract 0 n).toList == (s.extract st (st + n)).toList && isB s (st + n) (bt (wdB k) n)
def findC (s : ByteArray) (st n : Nat) (m : Int → Bool) : Nat → Nat → Option Nat
  | 0, _ => none
  | f + 1, j => if cand s st n m j then some j else findC s st n m f (j + 1)
def wordGo (s : ByteArray) (st : Nat) (m : Int → Bool) : Nat → Nat → Except Nat (Nat × Nat)
  | 0, n => .error (st + n)
  | f + 1, n => match findC s st n m 14 0 with
    | none => .error (st + n)
    | some k => if n + 1 = (wdB k).size then .ok (k, st + n + 1) else wordGo s st m f (n + 1)
def word (s : ByteArray) (st : Nat) (m : Int → Bool) : Except Nat (Nat × Nat) := wordGo s st m 7 0

theorem quiet_same {P : Program} {f : FuncId} {args : Array Value} {w : World} {n : Nat} {v : Value}
    (h : Calls P f args (w.drewN n) fun e w' => e = .returned v ∧ w.drewN n = w') : Calls P f args (w.drewN n) fun e w'' => e = .returned v ∧ ∃ m, w'' = w.drewN m :=
  h.mono fun _ _ ⟨he, hm⟩ => ⟨he, n, hm.symm⟩

theorem next_words (b : Nat) (s : ByteArray) (i p j n : Nat) (w : World) (h : Rd w b s i p) (hs : s.size ≤ maxLen) (hi : i ≤ s.size) (ha : n < (wdB j).size) (x : Bool) (hx : isB s i (bt (wdB j) n) = x) (a : Nat) :
    Calls Tryd.prog 53 #[.pointer (some ⟨b, 0, none⟩), .int .u8 ((wdB j)[n].toNat : Int)] (w.drewN a) fun e w' => e = .returned (.bool x) ∧ ∃ m, w' = (w.drewN a).drewN m := by
  have := next_any b s i p ((wdB j)[n].toNat : Int) _ (h.drewN a) hs (by omega) hi
  rw [← bt_in ha, hx] at this
  rw [← bt_in ha]
  exact this
def WordEnds (b : Nat) (s : ByteArray) (p : Nat) (w : World) (r : Except Nat (Nat × Nat)) (e : Ending) (w' : World) : Prop :=
  match r with
  | .error i => e = Wrong i ∧ Gr b w w'
  | .ok (k, i) => e = .returned (.int .i64 k) ∧ Rd w' b s i p ∧ Gr b w w'

set_option maxRecDepth 100000 in
set_option maxHeartbeats 2000000 in
theorem word_any (b : Nat) (s : ByteArray) (st p f : Nat) (m : Int → Bool) (w : World) (h : Rd w b s st p) (hs : s.size ≤ maxLen) (hi : st ≤ s.size) (hm : MayIs f m) (hw : HasWords w) (hb0 : b ≠ 0) :
    Calls Tryd.prog 56 #[.pointer (some ⟨b, 0, none⟩), .func (.func f) #[] #[]] w (WordEnds b s p w (word s st m)) := by
  have hs2 := hs
  unfold maxLen at hs2
  have h1 := h.c1
  go_enter Tryd.func56, Tryd.ntmps56
  go_wp2_with fail
  go_loopw [6] (fun _ wr => ∃ (n : Nat), st + n ≤ s.size ∧ n ≤ 6 ∧ word s st m = wordGo s st m (7 - n) n ∧ Rd wr b s (st + n) p ∧ Gr b w wr) (fun _ wr => s.size - rdAt wr b)
  case atStart => exact ⟨0, hi, by omega, rfl, h, Gr.refl b w⟩
  case round =>
    obtain ⟨n, hn, hn6, hc, hr, hg⟩ := hrel
    have hc2 : word s st m = match findC s st n m 14 0 with
        | none => .error (st + n)
        | some k => if n + 1 = (wdB k).size then .ok (k, st + n + 1) else wordGo s st m (7 - (n + 1)) (n + 1) := by
      rw [hc, show 7 - n = (7 - (n + 1)) + 1 from by omega, wordGo]
    have HC := Lib.hid hc2
    clear hc hc2 h1 h
    obtain ⟨t, fr, hw0⟩ := hw
    have hlt0 : 0 < w.heap.size := by
      rcases Nat.lt_or_ge 0 w.heap.size with hl | hl
      · exact hl
      · rw [Array.getElem?_eq_none hl] at hw0; cases hw0
    have hw1 : wr.heap[0]? = some (.cells wordCells t fr) := (hg.block _ hlt0 (fun e => hb0 (Option.some.inj e).symm)).trans hw0
    have HW := Lib.hid hw1
    clear hw1 hw0
    go_wp2_with (refine wpList_load_row rfl 74 _ rfl 0 rfl t _ fr _ HW.out Tryd.underlying74 rfl (by kernel_rfl) ?_)
    obtain ⟨wo, hwo⟩ : ∃ wo : World, wo = wr := ⟨_, rfl⟩
    subst hwo
    have hat := Lib.hid hr.at_
    go_loopw [6, 7, 8, 9, 15] (fun fd _ _ _ i wr => ∃ (j nq : Nat), j ≤ 14 ∧ i = .int .i64 j ∧ fd = .bool false ∧ findC s st n m 14 0 = findC s st n m (14 - j) j ∧ wr = wo.drewN nq) (fun _ _ _ _ i _ => 14 - (intOf i).toNat)
    case atStart => exact ⟨0, 0, by omega, rfl, rfl, rfl, rfl⟩
    case round =>
      obtain ⟨j, n0, hj, rfl, rfl, hf, hwr⟩ := hrel
      have HF := Lib.hid hf
      clear hf
      have hrr : Rd wr b s (st + n) p := hwr ▸ hr.drewN n0
      have hgr : Gr b w wr := hwr ▸ hg.drewN n0
      have HWR := Lib.hid hwr
      clear hwr
      by_cases hj14 : j < 14
      · have hix := fun wx => index_words j hj14 wx
        have hwd := wdB_size j
        have hsub : ((st : Int) + (n : Int) - (st : Int)) = (n : Int) := by omega
        have h1 := hrr.c1
        have h0 := hrr.c0
        have hen := hm.enters
        have hf2 : findC s st n m 14 0 = if cand s st n m j then some j else findC s st n m (14 - (j + 1)) (j + 1) := by
          rw [HF.out, show 14 - j = (14 - (j + 1)) + 1 from by omega, findC]
        have HF2 := Lib.hid hf2
        clear hf2
        by_cases ha : n < (wdB j).size
        · have hd : decide ((wdB j).size ≤ n) = false := by simpa using ha
          cases hmk : m j
          · have HA : Hid (cand s st n m j = false) := by show _ = _; simp [cand, hmk]
            go_wp2_with fail
            go_quiet ((exact quiet_same (hm.calls _ _)))
            go_wp2_with fail
            go_roundw
            case rel => exact ⟨j + 1, _, by omega, by go_num, rfl, by rw [HF2.out, HA.out]; rfl, by rw [HWR.out, World.drewN_drewN]⟩
            case measure => simp [intOf]; omega
          · cases hp : ((wdB j).extract 0 n).toList == (s.extract st (st + n)).toList
            · have HA : Hid (cand s st n m j = false) := by show _ = _; simp only [cand, hp]; simp
              go_wp2_with fail
              go_quiet ((exact quiet_same (hm.calls _ _)))
              go_wp2_with fail
              go_roundw
              case rel => exact ⟨j + 1, _, by omega, by go_num, rfl, by rw [HF2.out, HA.out]; rfl, by rw [HWR.out, World.drewN_drewN]⟩
              case measure => simp [intOf]; omega
            · cases hq : isB s (st + n) (bt (wdB j) n)
              · have HA : Hid (cand s st n m j = false) := by show _ = _; simp only [cand, hq]; simp
                have HQ := Lib.hid (next_words b s (st + n) p j n wr hrr hs hn ha false hq)
                clear hq
                go_wp2_with fail
                go_quiet ((first | exact quiet_same (hm.calls _ _) | exact Calls.quiet_of (HQ.out _)))
                go_wp2_with fail
                go_roundw
                case rel => exact ⟨j + 1, _, by omega, by go_num, rfl, by rw [HF2.out, HA.out]; rfl, by rw [HWR.out, World.drewN_drewN]⟩
                case measure => simp [intOf]; omega
              · have HA : Hid (cand s st n m j = true) := by show _ = _; simp only [cand, hq, hp, hmk]; simp [ha]
                have HQ := Lib.hid (next_words b s (st + n) p j n wr hrr hs hn ha true hq)
                have hlt := isB_lt (by rw [bt_in ha]; omega) hq
                have f1 := hrr.fz 1
                clear hq
                by_cases hend : n + 1 = (wdB j).size
                · have he : ((n : Int) + 1 == ((wdB j).size : Int)) = true := by rw [beq_iff_eq]; omega
                  have HE := Lib.hid hend
                  clear hend
                  go_wp2_with fail
                  go_quiet ((first | exact quiet_same (hm.calls _ _) | exact Calls.quiet_of (HQ.out _)))
                  go_wp2_with fail
                  go_ret
                  rw [HC.out, HF2.out, HA.out]
                  simp only [if_true]
                  rw [if_pos HE.out]
                  exact ⟨rfl, (hrr.drewN _).set1 (st + n + 1), (hgr.drewN _).set 1 _⟩
                · have he : ((n : Int) + 1 == ((wdB j).size : Int)) = false := by rw [beq_eq_false_iff_ne]; omega
                  go_wp2_with fail
                  go_quiet ((first | exact quiet_same (hm.calls _ _) | exact Calls.quiet_of (HQ.out _)))
                  go_wp2_with fail
                  refine ⟨⟨n + 1, by omega, by omega, ?_, (hrr.drewN _).set1 (st + (n + 1)), (hgr.drewN _).set 1 _⟩, ?_⟩
                  · rw [HC.out, HF2.out, HA.out]
                    simp only [if_true]
                    rw [if_neg (by omega)]
                  · show s.size - rdAt ((wr.drewN _).setCell ⟨b, 1, none⟩ (Value.int .i64 ((st + n + 1 : Nat) : Int))) b < _
                    rw [((hrr.drewN _).set1 (st + n + 1)).at_, hat.out]
                    omega
        · have hd : decide ((wdB j).size ≤ n) = true := by simpa using ha
          have HA : Hid (cand s st n m j = false) := by show _ = _; simp [cand, ha]
          go_wp2_with fail
          go_quiet (fail)
          go_wp2_with fail
          go_roundw
          case rel => exact ⟨j + 1, _, by omega, by go_num, rfl, by rw [HF2.out, HA.out]; rfl, by rw [HWR.out, World.drewN_drewN]⟩
          case measure => simp [intOf]; omega
      · have HN : Hid (findC s st n m 14 0 = none) := by
          show _ = _
          rw [HF.out, show 14 - j = 0 from by omega, findC]
        go_wp2_with fail
        refine (fail_any b ((st : Int) + n) _ hrr.c1).mono ?_
        rintro e w4 ⟨rfl, rfl⟩
        refine ⟨rfl, ?_⟩
        rw [HC.out, HN.out]
        exact ⟨rfl, hgr⟩
end Go.Proofs.YtkahboomahhdoaaDoor
