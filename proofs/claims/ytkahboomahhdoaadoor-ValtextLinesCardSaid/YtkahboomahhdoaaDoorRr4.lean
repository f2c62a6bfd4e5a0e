/-
  Walks over the reference of layer 5: the reader's word.
-/
import Derived.Test.YtkahboomahhdoaaDoorRr3
namespace Go.Proofs.YtkahboomahhdoaaDoor
open Go.RowKit

/-- How the reader's word ends. -/
def RwEnds (s : ByteArray) (p : Int) (w : World) (r : Except Nat (Nat × Nat)) (e : Ending) (w' : World) : Prop :=
  match r with
  | .error j => e = .returned (.tuple #[rdV s j p true, .int .i64 0]) ∧ Below w.heap.size w w'
  | .ok (k, j) => e = .returned (.tuple #[rdV s j p false, .int .i64 k]) ∧ Below w.heap.size w w'
theorem cand_no_size {s : ByteArray} {st n k : Nat} {m : Int → Bool} (h : ¬ n < (wdB k).size) : cand s st n m k = false := by simp [cand, h]

set_option maxRecDepth 100000 in
set_option maxHeartbeats 2000000 in
theorem rwordW_any (s : ByteArray) (st : Nat) (sa p : Int) (w : World) (hs : s.size ≤ maxLen) (hi : st ≤ s.size) (ha : sa = 0 ∨ sa = 1 ∨ sa = 2) :
    Calls Tryd.prog 63 #[rdV s st p false, .int .i64 sa] w (RwEnds s p w (rword s st (asM sa))) := by
  have hs2 := hs
  unfold maxLen at hs2
  obtain ⟨W, hW⟩ : ∃ W, W = (w.alloc (.cells #[.string s, .int .i64 st, .int .i64 p, .bool false] 68)).alloc (.cells #[.string ⟨#[]⟩, .int .i64 0, .int .i64 0, .bool false] 68) := ⟨_, rfl⟩
  obtain ⟨hx, hr, hb⟩ := rr_start w s st p false W hW
  have HW := Lib.hid hW
  clear hW
  rw [rdV_eq]
  go_enter Tryd.func63, Tryd.ntmps63
  go_wp2_with fail
  rw [← HW.out]
  go_loopw [7, 8, 9, 10, 11] (fun _ _ _ _ _ wr => ∃ (n : Nat), st + n ≤ s.size ∧ n ≤ 7 ∧ rword s st (asM sa) = rwGo s st (asM sa) (8 - n) n ∧ B4 wr w.heap.size 68 (.string s) (.int .i64 ((st + n : Nat) : Int)) (.int .i64 p) (.bool false) ∧ B4 wr (w.heap.size + 1) 68 (.string ⟨#[]⟩) (.int .i64 0) (.int .i64 0) (.bool false) ∧ Below w.heap.size w wr) (fun _ _ _ _ _ wr => 10 + st - cellI wr w.heap.size 1)
  case atStart => exact ⟨0, hi, by omega, rfl, hx, hr, hb⟩
  case round =>
    clear hx hr hb
    obtain ⟨n, hn, hn7, hc, hx, hr, hb⟩ := hrel
    have hc2 : rword s st (asM sa) = match findF s st n (asM sa) 13 1 with
        | some k => .ok (k, st + n)
        | none => if anyC s st n (asM sa) 13 1 then rwGo s st (asM sa) (8 - (n + 1)) (n + 1) else .error (st + n) := by
      rw [hc, show 8 - n = (8 - (n + 1)) + 1 from by omega, rwGo]
      rfl
    have HC := Lib.hid hc2
    clear hc hc2
    have q3 := hx.c3
    have hat : cellI wr w.heap.size 1 = st + n := by unfold cellI; rw [hx.c1]; rfl
    have HAT := Lib.hid hat
    clear hat
    go_wp2_with fail
    obtain ⟨wo, hwo⟩ : ∃ wo : World, wo = wr := ⟨_, rfl⟩
    subst hwo
    go_loopw [7, 8, 9, 10, 11] (fun gv kv _ _ _ wr => ∃ (k : Nat) (gs : Bool), 1 ≤ k ∧ k ≤ 14 ∧ kv = .int .i64 k ∧ gv = .bool gs ∧ findF s st n (asM sa) 13 1 = findF s st n (asM sa) (14 - k) k ∧ anyC s st n (asM sa) 13 1 = (gs || anyC s st n (asM sa) (14 - k) k) ∧ B4 wr w.heap.size 68 (.string s) (.int .i64 ((st + n : Nat) : Int)) (.int .i64 p) (.bool false) ∧ B4 wr (w.heap.size + 1) 68 (.string ⟨#[]⟩) (.int .i64 0) (.int .i64 0) (.bool false) ∧ Below w.heap.size w wr) (fun _ kv _ _ _ _ => 14 - (intOf kv).toNat)
    case atStart => exact ⟨1, false, by omega, by omega, rfl, rfl, rfl, by simp, hx, hr, hb⟩
    case round =>
      clear q3 hx hr hb
      obtain ⟨k, gs, hk1, hk14, rfl, rfl, hf, hac, hx, hr, hb⟩ := hrel
      have HF := Lib.hid hf
      have HAC := Lib.hid hac
      clear hf hac
      have hsz := hb.size
      have hxl := hx.lt
      have hrl := hr.lt
      by_cases hlt : k < 14
      · have hf2 : findF s st n (asM sa) 13 1 = if full s st n (asM sa) k then some k else findF s st n (asM sa) (14 - (k + 1)) (k + 1) := by
          rw [HF.out, show 14 - k = (14 - (k + 1)) + 1 from by omega, findF]
        have ha2 : anyC s st n (asM sa) 13 1 = (gs || (cand s st n (asM sa) k || anyC s st n (asM sa) (14 - (k + 1)) (k + 1))) := by
          rw [HAC.out, show 14 - k = (14 - (k + 1)) + 1 from by omega, anyC]
        have HF2 := Lib.hid hf2
        have HA2 := Lib.hid ha2
        clear hf2 ha2
        go_wp2_with fail
        refine (refWord_any _ _).mono ?_
        rintro e w1 ⟨rfl, hb1⟩
        have hx1 := hx.belowAll hb1
        have hr1 := hr.belowAll hb1
        have hb2 := hb.trans (hb1.mono hsz)
        clear hx hr hb hb1
        cases hh : hasW k
        · have HNF : Hid (full s st n (asM sa) k = false) := by show _ = _; unfold full; rw [hh]; rfl
          have HNC : Hid (cand s st n (asM sa) k = false) := by
            show _ = _
            refine cand_no_size ?_
            rw [hasW_size k hlt] at hh
            have h9 : (wdB k).size = (wdl k).length := rfl
            simp at hh
            rw [h9, hh]; simp
          clear hh
          go_wp2_with fail
          go_roundw
          case rel => exact ⟨k + 1, gs, by omega, by omega, by go_num, rfl, by rw [HF2.out, HNF.out]; rfl, by rw [HA2.out, HNC.out]; rfl, hx1, hr1, hb2⟩
          case measure => simp [intOf]; omega
        · have hwt : wordT (k : Int) = wdB k := by rw [wordT, hh]; rfl
          rw [hwt]
          clear hwt
          cases hm : asM sa k
          · have HNF : Hid (full s st n (asM sa) k = false) := by show _ = _; unfold full; rw [hm]; simp
            have HNC : Hid (cand s st n (asM sa) k = false) := by show _ = _; unfold cand; rw [hm]; simp
            have HM := Lib.hid hm
            clear hh hm
            go_wp2_with fail
            refine (rmay_any _ _ (by omega) ha _).mono ?_
            rintro e w3 ⟨rfl, rfl⟩
            rw [HM.out]
            go_wp2_with fail
            go_roundw
            case rel => exact ⟨k + 1, gs, by omega, by omega, by go_num, rfl, by rw [HF2.out, HNF.out]; rfl, by rw [HA2.out, HNC.out]; rfl, hx1, hr1, hb2⟩
            case measure => simp [intOf]; omega
          · have HM := Lib.hid hm
            have HH := Lib.hid hh
            clear hh hm
            have hwd := wdB_size k
            have hsub : ((st : Int) + (n : Int) - (st : Int)) = (n : Int) := by omega
            have q0 := hx1.c0
            have q1 := hx1.c1
            have q2 := hx1.c2
            have q3 := hx1.c3
            have z0 := hr1.c0
            have z1 := hr1.c1
            have z2 := hr1.c2
            have z3 := hr1.c3
            have zf := hr1.fz
            cases heq : (wdB k).toList == (s.extract st (st + n)).toList
            · have HNF : Hid (full s st n (asM sa) k = false) := by show _ = _; unfold full; rw [heq]; simp
              go_wp2_with fail
              refine (rmay_any _ _ (by omega) ha _).mono ?_
              rintro e w3 ⟨rfl, rfl⟩
              rw [HM.out]
              go_wp2_with fail
              cases gs
              · by_cases hns : n < (wdB k).size
                · have hd : decide (n < (wdB k).size) = true := by simpa using hns
                  cases hp : ((wdB k).extract 0 n).toList == (s.extract st (st + n)).toList
                  · have HNC : Hid (cand s st n (asM sa) k = false) := by show _ = _; unfold cand; rw [hp]; simp
                    go_quiet (fail)
                    go_wp2_with fail
                    go_roundw
                    case rel => exact ⟨k + 1, false, by omega, by omega, by go_num, rfl, by rw [HF2.out, HNF.out]; rfl, by rw [HA2.out, HNC.out]; rfl, hx1.drewN _, hr1.drewN _, bdN hb2 _⟩
                    case measure => simp [intOf]; omega
                  · have HCC : Hid (cand s st n (asM sa) k = isB s (st + n) ((wdB k)[n].toNat : Int)) := by
                      show _ = _
                      unfold cand
                      rw [hp, HM.out, hd, bt_in hns]; rfl
                    have g1 : (n : Int) ≤ ((wdB k).size : Int) := by omega
                    have g2 : n ≤ (wdB k).size := by omega
                    have g3 : (st : Int) ≤ (st : Int) + (n : Int) := by omega
                    have g4 : (st : Int) + (n : Int) ≤ (s.size : Int) := by omega
                    have g5 : (n : Int) < ((wdB k).size : Int) := by omega
                    have g6 : (0 : Int) ≤ (n : Int) := by omega
                    have g7 : (0 : Int) ≤ (st : Int) + (n : Int) := by omega
                    have g8 : ((st : Int) + (n : Int)).toNat = st + n := by omega
                    go_still_tail 23, (by kernel_rfl)
                    go_wp2_with fail
                    have hb3 := hb2.drew
                    refine (ris_any s (st + n) p false ((wdB k)[n].toNat : Int) _ hs hn (by omega)).mono ?_
                    rintro e w4 ⟨rfl, hb4⟩
                    have hx4 := B4.belowAll (w := w1.drew) hx1 hb4
                    have hr4 := B4.belowAll (w := w1.drew) hr1 hb4
                    have hb5 := hb3.trans (hb4.mono hb3.size)
                    clear q0 q1 q2 q3 z0 z1 z2 z3 zf
                    generalize hcc : isB s (st + n) ((wdB k)[n].toNat : Int) = cc at *
                    go_wp2_with fail
                    go_roundw
                    case rel => exact ⟨k + 1, cc, by omega, by omega, by go_num, rfl, by rw [HF2.out, HNF.out]; rfl, by rw [HA2.out, HCC.out, Bool.false_or], hx4, hr4, hb5⟩
                    case measure => simp [intOf]; omega
                · have hd : decide (n < (wdB k).size) = false := by simpa using hns
                  have HNC : Hid (cand s st n (asM sa) k = false) := cand_no_size hns
                  go_quiet (fail)
                  go_wp2_with fail
                  go_roundw
                  case rel => exact ⟨k + 1, false, by omega, by omega, by go_num, rfl, by rw [HF2.out, HNF.out]; rfl, by rw [HA2.out, HNC.out]; rfl, hx1.drewN _, hr1.drewN _, bdN hb2 _⟩
                  case measure => simp [intOf]; omega
              · go_quiet (fail)
                go_wp2_with fail
                go_roundw
                case rel => exact ⟨k + 1, true, by omega, by omega, by go_num, rfl, by rw [HF2.out, HNF.out]; rfl, by rw [HA2.out]; rfl, hx1.drewN _, hr1.drewN _, bdN hb2 _⟩
                case measure => simp [intOf]; omega
            · have HFU : Hid (full s st n (asM sa) k = true) := by show _ = _; unfold full; rw [HH.out, HM.out, heq]; rfl
              go_wp2_with fail
              refine (rmay_any _ _ (by omega) ha _).mono ?_
              rintro e w3 ⟨rfl, rfl⟩
              rw [HM.out]
              go_wp2_with fail
              have h9 := hr1.put (.string s) (.int .i64 ((st : Int) + (n : Int))) (.int .i64 p) (.bool false)
              refine bodyPost_ret (v := .tuple #[rdV s (st + n : Nat) p false, .int .i64 k]) (by simp [results, Tryd.results63, go_sem, h9.c0, h9.c1, h9.c2, h9.c3, rdV]) rfl ?_
              rw [HC.out, HF2.out, HFU.out]
              exact ⟨rfl, below_put4 hb2 (by omega) _ _ _ _⟩
      · have HN : Hid (findF s st n (asM sa) 13 1 = none) := by
          show _ = _
          rw [HF.out, show 14 - k = 0 from by omega, findF]
        have hag : anyC s st n (asM sa) 13 1 = gs := by rw [HAC.out, show 14 - k = 0 from by omega, anyC, Bool.or_false]
        have HAG := Lib.hid hag
        have q0 := hx.c0
        have q1 := hx.c1
        have q2 := hx.c2
        have q3 := hx.c3
        have qf := hx.fz
        have z0 := hr.c0
        have z1 := hr.c1
        have z2 := hr.c2
        have z3 := hr.c3
        have zf := hr.fz
        cases gs
        · clear hag
          go_wp2_with fail
          have h9 := ((hr.far (q := ⟨w.heap.size, 3, none⟩) (by simp) (.bool true)).put (.string s) (.int .i64 ((st : Int) + (n : Int))) (.int .i64 p) (.bool true))
          refine bodyPost_ret (v := .tuple #[rdV s (st + n : Nat) p true, .int .i64 0]) (by simp [results, Tryd.results63, go_sem, h9.c0, h9.c1, h9.c2, h9.c3, rdV]) rfl ?_
          rw [HC.out, HN.out, HAG.out]
          exact ⟨rfl, below_put4 (hb.setCell (p := ⟨w.heap.size, 3, none⟩) (Nat.le_refl _) _) (by omega) _ _ _ _⟩
        · have hnlt : st + n < s.size ∧ n < 6 := by
            rcases hex : findC s st n (asM sa) 14 0 with _ | k9
            · have := anyC_false (f := 13) (j := 1) fun k h1 h2 => findC_none hex k (by omega) (by omega)
              rw [hag] at this; cases this
            · have h1 := findC_some hex
              have h2 := cand_sub h1.1
              have := wdl_len k9
              exact ⟨h2.2.2.2, by omega⟩
          clear hag
          go_wp2_with fail
          have h9 := (hx.set1 (.int .i64 ((st : Int) + (n : Int) + 1)))
          refine ⟨⟨n + 1, by omega, by omega, ?_, ?_, hr.far (q := ⟨w.heap.size, 1, none⟩) (by simp) _, hb.setCell (p := ⟨w.heap.size, 1, none⟩) (Nat.le_refl _) _⟩, ?_⟩
          · rw [HC.out, HN.out, HAG.out]; rfl
          · have e : ((st + (n + 1) : Nat) : Int) = (st : Int) + (n : Int) + 1 := by omega
            rw [e]; exact h9
          · have : cellI (wr.setCell ⟨w.heap.size, 1, none⟩ (.int .i64 ((st : Int) + (n : Int) + 1))) w.heap.size 1 = st + n + 1 := by unfold cellI; rw [h9.c1]; simp; omega
            rw [this, HAT.out]
            omega
end Go.Proofs.YtkahboomahhdoaaDoor
