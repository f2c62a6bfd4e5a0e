/-
 Walks over the reference of layer 5: the reader's word.
-/
import Derived.Test.YtjldbbcdhdfliaaGreatDoorRrA
import Derived.Deep.RegionWith
import Derived.IntWalk
import Derived.Deep.DeepCutAuto
import Derived.Deep.CutBlock
namespace Go.Proofs.YtjldbbcdhdfliaaGreatDoor
open Go.RowKit

/-- How the reader's word ends. -/
def RwEnds (s : ByteArray) (p : Int) (w : World) (r : Except Nat (Nat × Nat)) (e : Ending) (w' : World) : Prop :=
 match r with
 | .error j => e = .returned (.tuple #[rdV s j p true, .int .i64 0]) ∧ Below w.heap.size w w'
 | .ok (k, j) => e = .returned (.tuple #[rdV s j p false, .int .i64 k]) ∧ Below w.heap.size w w'
theorem cand_no_size {s : ByteArray} {st n k : Nat} {m : Int → Bool} (h : ¬ n < (wdB k).size) : cand s st n m k = false := by simp [cand, h]

set_option maxRecDepth 100000 in
set_option maxHeartbeats 2000000 in
theorem rwordW_any (s : ByteArray) (st : Nat) (sa p : Int) (w : World) (hs : s.size ≤ maxLen) (hi : st ≤ s.size) (ha : sa = 0 ∨ sa = 1 ∨ sa = 2) :
  Calls Tryz.prog 109 #[rdV s st p false, .int .i64 sa] w (RwEnds s p w (rword s st (asM sa))) := by
 have hs2 := hs
 unfold maxLen at hs2
 obtain ⟨W, hW⟩ : ∃ W, W = (w.alloc (.cells #[.string s, .int .i64 st, .int .i64 p, .bool false] 138)).alloc (.cells #[.string ⟨#[]⟩, .int .i64 0, .int .i64 0, .bool false] 138) := ⟨_, rfl⟩
 obtain ⟨hx, hr, hb⟩ := rr_start w s st p false W hW
 have HW := Lib.hid hW
 clear hW
 rw [rdV_eq]
 go_enter Tryz.func109, Tryz.ntmps109
 go_wp2_with fail
 rw [← HW.out]
 go_loopw [7, 8, 9, 10, 11] (fun _ _ _ _ _ wr => ∃ (n : Nat), st + n ≤ s.size ∧ n ≤ 7 ∧ rword s st (asM sa) = rwGo s st (asM sa) (8 - n) n ∧ B4 wr w.heap.size 138 (.string s) (.int .i64 ((st + n : Nat) : Int)) (.int .i64 p) (.bool false) ∧ B4 wr (w.heap.size + 1) 138 (.string ⟨#[]⟩) (.int .i64 0) (.int .i64 0) (.bool false) ∧ Below w.heap.size w wr) (fun _ _ _ _ _ wr => 10 + st - cellI wr w.heap.size 1)
 case atStart => exact ⟨0, hi, by omega, rfl, hx, hr, hb⟩
 case round =>
  clear hx hr hb
  obtain ⟨n, hn, hn7, hc, hx, hr, hb⟩ := hrel
  have hc2 : rword s st (asM sa) = match findF s st n (asM sa) 13 1 with
    | some k => .ok (k, st + n)
    | none => if anyC s st n (asM sa) 13 1 then rwGo s st (asM sa) (8 - (n + 1)) (n + 1) else .error (st + n) := by
   rw [hc, show 8 - n = (8 - (n + 1)) + 1 from by omega, rwGo]
   rfl
  have HC := Lib.hid hc2
  clear hc hc2
  have q3 := hx.c3
  have hat : cellI wr w.heap.size 1 = st + n := by unfold cellI; rw [hx.c1]; rfl
  have HAT := Lib.hid hat
  clear hat
  go_wp2_with fail
  obtain ⟨wo, hwo⟩ : ∃ wo : World, wo = wr := ⟨_, rfl⟩
  subst hwo
  go_loopw [7, 8, 9, 10, 11] (fun gv kv _ _ _ wr => ∃ (k : Nat) (gs : Bool), 1 ≤ k ∧ k ≤ 14 ∧ kv = .int .i64 k ∧ gv = .bool gs ∧ findF s st n (asM sa) 13 1 = findF s st n (asM sa) (14 - k) k ∧ anyC s st n (asM sa) 13 1 = (gs || anyC s st n (asM sa) (14 - k) k) ∧ B4 wr w.heap.size 138 (.string s) (.int .i64 ((st + n : Nat) : Int)) (.int .i64 p) (.bool false) ∧ B4 wr (w.heap.size + 1) 138 (.string ⟨#[]⟩) (.int .i64 0) (.int .i64 0) (.bool false) ∧ Below w.heap.size w wr) (fun _ kv _ _ _ _ => 14 - (intOf kv).toNat)
  case atStart => exact ⟨1, false, by omega, by omega, rfl, rfl, rfl, by simp, hx, hr, hb⟩
  case round =>
   clear q3 hx hr hb
   obtain ⟨k, gs, hk1, hk14, rfl, rfl, hf, hac, hx, hr, hb⟩ := hrel
   have HF := Lib.hid hf
   have HAC := Lib.hid hac
   clear hf hac
   have hsz := hb.size
   have hxl := hx.lt
   have hrl := hr.lt
   by_cases hlt : k < 14
   ·have hf2 : findF s st n (asM sa) 13 1 = if full s st n (asM sa) k then some k else findF s st n (asM sa) (14 - (k + 1)) (k + 1) := by
     rw [HF.out, show 14 - k = (14 - (k + 1)) + 1 from by omega, findF]
    have ha2 : anyC s st n (asM sa) 13 1 = (gs || (cand s st n (asM sa) k || anyC s st n (asM sa) (14 - (k + 1)) (k + 1))) := by
     rw [HAC.out, show 14 - k = (14 - (k + 1)) + 1 from by omega, anyC]
    have HF2 := Lib.hid hf2
    have HA2 := Lib.hid ha2
    clear hf2 ha2
    go_wp2_with fail
    refine (refWord_any _ _).mono ?_
    rintro e w1 ⟨rfl, hb1⟩
    have hx1 := hx.belowAll hb1
    have hr1 := hr.belowAll hb1
    have hb2 := hb.trans (hb1.mono hsz)
    clear hx hr hb hb1
    cases hh : hasW k
    ·have HNF : Hid (full s st n (asM sa) k = false) := by show _ = _; unfold full; rw [hh]; rfl
     have HNC : Hid (cand s st n (asM sa) k = false) := by
      show _ = _
      refine cand_no_size ?_
      rw [hasW_size k hlt] at hh
      have h9 : (wdB k).size = (wdl k).length := rfl
      simp at hh
      rw [h9, hh]; simp
     clear hh
     go_wp2_with fail
     go_roundw
     case rel => exact ⟨k + 1, gs, by omega, by omega, by go_num, rfl, by rw [HF2.out, HNF.out]; rfl, by rw [HA2.out, HNC.out]; rfl, hx1, hr1, hb2⟩
     case measure => simp [intOf]; omega
    ·have hwt : wordT (k : Int) = wdB k := by rw [wordT, hh]; rfl
     rw [hwt]
     clear hwt
     cases hm : asM sa k
     ·have HNF : Hid (full s st n (asM sa) k = false) := by show _ = _; unfold full; rw [hm]; simp
      have HNC : Hid (cand s st n (asM sa) k = false) := by show _ = _; unfold cand; rw [hm]; simp
      have HM := Lib.hid hm
      clear hh hm
      go_wp2_with fail
      refine (rmay_any _ _ (by omega) ha _).mono ?_
      rintro e w3 ⟨rfl, rfl⟩
      rw [HM.out]
      go_wp2_with fail
      go_roundw
      case rel => exact ⟨k + 1, gs, by omega, by omega, by go_num, rfl, by rw [HF2.out, HNF.out]; rfl, by rw [HA2.out, HNC.out]; rfl, hx1, hr1, hb2⟩
      case measure => simp [intOf]; omega
     ·have HM := Lib.hid hm
      have HH := Lib.hid hh
      clear hh hm
      have hwd := wdB_size k
      have hsub : ((st : Int) + (n : Int) - (st : Int)) = (n : Int) := by omega
      have q0 := hx1.c0
      have q1 := hx1.c1
      have q2 := hx1.c2
      have q3 := hx1.c3
      have z0 := hr1.c0
      have z1 := hr1.c1
      have z2 := hr1.c2
      have z3 := hr1.c3
      have zf := hr1.fz
      cases heq : (wdB k).toList == (s.extract st (st + n)).toList
      ·have HNF : Hid (full s st n (asM sa) k = false) := by show _ = _; unfold full; rw [heq]; simp
       go_wp2_with fail
       refine (rmay_any _ _ (by omega) ha _).mono ?_
       rintro e w3 ⟨rfl, rfl⟩
       rw [HM.out]
       go_wp2_with fail
       cases gs
       ·by_cases hns : n < (wdB k).size
        ·have hd : decide (n < (wdB k).size) = true := by simpa using hns
         cases hp : ((wdB k).extract 0 n).toList == (s.extract st (st + n)).toList
         ·have HNC : Hid (cand s st n (asM sa) k = false) := by show _ = _; unfold cand; rw [hp]; simp
          go_quiet (fail)
          go_wp2_with fail
          go_roundw
          case rel => exact ⟨k + 1, false, by omega, by omega, by go_num, rfl, by rw [HF2.out, HNF.out]; rfl, by rw [HA2.out, HNC.out]; rfl, hx1.drewN _, hr1.drewN _, bdN hb2 _⟩
          case measure => simp [intOf]; omega
         ·have HCC : Hid (cand s st n (asM sa) k = isB s (st + n) ((wdB k)[n].toNat : Int)) := by
           show _ = _
           unfold cand
           rw [hp, HM.out, hd, bt_in hns]; rfl
          have g1 : (n : Int) ≤ ((wdB k).size : Int) := by omega
          have g2 : n ≤ (wdB k).size := by omega
          have g3 : (st : Int) ≤ (st : Int) + (n : Int) := by omega
          have g4 : (st : Int) + (n : Int) ≤ (s.size : Int) := by omega
          have g5 : (n : Int) < ((wdB k).size : Int) := by omega
          have g6 : (0 : Int) ≤ (n : Int) := by omega
          have g7 : (0 : Int) ≤ (st : Int) + (n : Int) := by omega
          have g8 : ((st : Int) + (n : Int)).toNat = st + n := by omega
          go_still_tail 23, (by kernel_rfl)
          go_wp2_with fail
          have hb3 := hb2.drew
          refine (ris_any s (st + n) p false ((wdB k)[n].toNat : Int) _ hs hn (by omega)).mono ?_
          rintro e w4 ⟨rfl, hb4⟩
          have hx4 := B4.belowAll (w := w1.drew) hx1 hb4
          have hr4 := B4.belowAll (w := w1.drew) hr1 hb4
          have hb5 := hb3.trans (hb4.mono hb3.size)
          clear q0 q1 q2 q3 z0 z1 z2 z3 zf
          generalize hcc : isB s (st + n) ((wdB k)[n].toNat : Int) = cc at *
          go_wp2_with fail
          go_roundw
          case rel => exact ⟨k + 1, cc, by omega, by omega, by go_num, rfl, by rw [HF2.out, HNF.out]; rfl, by rw [HA2.out, HCC.out, Bool.false_or], hx4, hr4, hb5⟩
          case measure => simp [intOf]; omega
        ·have hd : decide (n < (wdB k).size) = false := by simpa using hns
         have HNC : Hid (cand s st n (asM sa) k = false) := cand_no_size hns
         go_quiet (fail)
         go_wp2_with fail
         go_roundw
         case rel => exact ⟨k + 1, false, by omega, by omega, by go_num, rfl, by rw [HF2.out, HNF.out]; rfl, by rw [HA2.out, HNC.out]; rfl, hx1.drewN _, hr1.drewN _, bdN hb2 _⟩
         case measure => simp [intOf]; omega
       ·go_quiet (fail)
        go_wp2_with fail
        go_roundw
        case rel => exact ⟨k + 1, true, by omega, by omega, by go_num, rfl, by rw [HF2.out, HNF.out]; rfl, by rw [HA2.out]; rfl, hx1.drewN _, hr1.drewN _, bdN hb2 _⟩
        case measure => simp [intOf]; omega
      ·have HFU : Hid (full s st n (asM sa) k = true) := by show _ = _; unfold full; rw [HH.out, HM.out, heq]; rfl
       go_wp2_with fail
       refine (rmay_any _ _ (by omega) ha _).mono ?_
       rintro e w3 ⟨rfl, rfl⟩
       rw [HM.out]
       go_wp2_with fail
       have h9 := hr1.put (.string s) (.int .i64 ((st : Int) + (n : Int))) (.int .i64 p) (.bool false)
       refine bodyPost_ret (v := .tuple #[rdV s (st + n : Nat) p false, .int .i64 k]) (by simp [results, Tryz.results109, go_sem, h9.c0, h9.c1, h9.c2, h9.c3, rdV]) rfl ?_
       rw [HC.out, HF2.out, HFU.out]
       exact ⟨rfl, below_put4 hb2 (by omega) _ _ _ _⟩
   ·have HN : Hid (findF s st n (asM sa) 13 1 = none) := by
     show _ = _
     rw [HF.out, show 14 - k = 0 from by omega, findF]
    have hag : anyC s st n (asM sa) 13 1 = gs := by rw [HAC.out, show 14 - k = 0 from by omega, anyC, Bool.or_false]
    have HAG := Lib.hid hag
    have q0 := hx.c0
    have q1 := hx.c1
    have q2 := hx.c2
    have q3 := hx.c3
    have qf := hx.fz
    have z0 := hr.c0
    have z1 := hr.c1
    have z2 := hr.c2
    have z3 := hr.c3
    have zf := hr.fz
    cases gs
    ·clear hag
     go_wp2_with fail
     have h9 := ((hr.far (q := ⟨w.heap.size, 3, none⟩) (by simp) (.bool true)).put (.string s) (.int .i64 ((st : Int) + (n : Int))) (.int .i64 p) (.bool true))
     refine bodyPost_ret (v := .tuple #[rdV s (st + n : Nat) p true, .int .i64 0]) (by simp [results, Tryz.results109, go_sem, h9.c0, h9.c1, h9.c2, h9.c3, rdV]) rfl ?_
     rw [HC.out, HN.out, HAG.out]
     exact ⟨rfl, below_put4 (hb.setCell (p := ⟨w.heap.size, 3, none⟩) (Nat.le_refl _) _) (by omega) _ _ _ _⟩
    ·have hnlt : st + n < s.size ∧ n < 6 := by
      rcases hex : findC s st n (asM sa) 14 0 with _ | k9
      ·have := anyC_false (f := 13) (j := 1) fun k h1 h2 => findC_none hex k (by omega) (by omega)
       rw [hag] at this; cases this
      ·have h1 := findC_some hex
       have h2 := cand_sub h1.1
       have := wdl_len k9
       exact ⟨h2.2.2.2, by omega⟩
     clear hag
     go_wp2_with fail
     have h9 := (hx.set1 (.int .i64 ((st : Int) + (n : Int) + 1)))
     refine ⟨⟨n + 1, by omega, by omega, ?_, ?_, hr.far (q := ⟨w.heap.size, 1, none⟩) (by simp) _, hb.setCell (p := ⟨w.heap.size, 1, none⟩) (Nat.le_refl _) _⟩, ?_⟩
     ·rw [HC.out, HN.out, HAG.out]; rfl
     ·have e : ((st + (n + 1) : Nat) : Int) = (st : Int) + (n : Int) + 1 := by omega
      rw [e]; exact h9
     ·have : cellI (wr.setCell ⟨w.heap.size, 1, none⟩ (.int .i64 ((st : Int) + (n : Int) + 1))) w.heap.size 1 = st + n + 1 := by unfold cellI; rw [h9.c1]; simp; omega
      rw [this, HAT.out]
      omega
end Go.Proofs.YtjldbbcdhdfliaaGreatDoor
/-
 The reference's value reads what the program's value reads: plain.
-/
namespace Go.Proofs.YtjldbbcdhdfliaaGreatDoor
open Go.RowKit

abbrev LRes := Except Nat (List VT × Nat × Nat)
/-- One value more. -/
def pThen (r : Except Nat (VT × Nat × Nat)) (l : List VT) (go : List VT → Nat → Nat → LRes) : LRes :=
 match r with
 | .error j => .error j
 | .ok (t, i, p) => go (l ++ [t]) i p
def clo (s : ByteArray) (l : List VT) (i p : Nat) : LRes := if isB s i 41 then .ok (l, i + 1, p) else .error i
def closeP (s : ByteArray) (r : LRes) : LRes := match r with
 | .error j => .error j
 | .ok (l, i, p) => clo s l i p
/-- What stands in the parentheses, with the last one, as the reference reads it. -/
def rTail (s : ByteArray) (rec : Rec) (nb : Bool) (least : Nat) (m1 m2 : Int → Bool) : Nat → Nat → List VT → Nat → Nat → LRes
 | 0, _, l, i, p => clo s l i p
 | c + 1, n, l, i, p =>
  if decide (least ≤ n) && isB s i 41 then .ok (l, i + 1, p)
  else if decide (0 < n) || nb then
   if isB s i 44 then pThen (rec (if n = 0 then m1 else m2) (i + 1) p) l (rTail s rec nb least m1 m2 c (n + 1)) else .error i
  else pThen (rec (if n = 0 then m1 else m2) i p) l (rTail s rec nb least m1 m2 c (n + 1))
theorem isB_two {s : ByteArray} {i : Nat} {c d : Int} (h : isB s i c = true) (hcd : c ≠ d) : isB s i d = false := by
 unfold isB at *
 rw [decide_eq_true_eq] at h
 rw [decide_eq_false_iff_not, h]
 exact hcd
theorem more_tail {s : ByteArray} {rec : Rec} {nb : Bool} {least : Nat} {m1 m2 : Int → Bool} : ∀ (c n : Nat) (l : List VT) (i p : Nat), least ≤ n → (0 < n ∨ (nb = true ∧ m1 = m2)) → rTail s rec nb least m1 m2 c n l i p = closeP s (pMore s rec m2 c l i p)
 | 0, n, l, i, p, h1, h2 => rfl
 | c + 1, n, l, i, p, h1, h2 => by
  rw [rTail, pMore]
  have hl : decide (least ≤ n) = true := by simpa using h1
  have hc : (decide (0 < n) || nb) = true := by
   rcases h2 with h | ⟨h, _⟩
   ·simp [h]
   ·simp [h]
  have hm : (if n = 0 then m1 else m2) = m2 := by
   split
   ·rename_i h0
    rcases h2 with h | ⟨_, h⟩
    ·omega
    ·exact h
   ·rfl
  rw [hl, hc, hm, Bool.true_and, if_pos rfl]
  cases h41 : isB s i 41 with
  | true =>
   rw [if_pos rfl, isB_two h41 (by decide), if_neg (by simp)]
   simp only [closeP, clo, h41, if_true]
  | false =>
   rw [if_neg (by simp)]
   cases h44 : isB s i 44 with
   | true =>
    rw [if_pos rfl, if_pos rfl]
    unfold pThen pOne
    cases rec m2 (i + 1) p with
    | error j => rfl
    | ok x =>
     obtain ⟨t, i2, p2⟩ := x
     exact more_tail c (n + 1) (l ++ [t]) i2 p2 (by omega) (.inl (by omega))
   | false =>
    rw [if_neg (by simp), if_neg (by simp)]
    simp only [closeP, clo, h41, Bool.false_eq_true, if_false]

/-- The greatest number of a Kind. -/
def mostN (k : Nat) : Nat := if k = 4 ∨ k = 13 then 9223372036854775807 else 63
/-- What stands behind the first parenthesis: the number, then the values, as the reference reads it. -/
def rList (s : ByteArray) (rec : Rec) (k i p : Nat) : Except Nat (Int × List VT × Nat × Nat) :=
 if numd k then match num s (mostN k) i with
  | .error j => .error j
  | .ok (n, i') => withN n (rTail s rec true (needs k).1 (asM (needs k).2.2.1) (asM (needs k).2.2.2) (needs k).2.1 0 [] i' p)
 else withN 0 (rTail s rec false (needs k).1 (asM (needs k).2.2.1) (asM (needs k).2.2.2) (needs k).2.1 0 [] i p)
def pClose (s : ByteArray) (r : Except Nat (Int × List VT × Nat × Nat)) : Except Nat (Int × List VT × Nat × Nat) := match r with
 | .error j => .error j
 | .ok (n, l, i, p) => withN n (clo s l i p)
theorem pClose_with (s : ByteArray) (n : Int) (r : LRes) : pClose s (withN n r) = withN n (closeP s r) := by
 cases r with
 | error j => rfl
 | ok x => obtain ⟨l, i, p⟩ := x; rfl
theorem pClose_num (s : ByteArray) (most i : Nat) (rest : Nat → LRes) : pClose s (pNum s most i rest) = match num s most i with
  | .error j => .error j
  | .ok (n, i') => withN n (closeP s (rest i')) := by
 unfold pNum
 cases num s most i with
 | error j => rfl
 | ok x => obtain ⟨n, i'⟩ := x; exact pClose_with s n _
theorem asM0 : asM 0 = mAny := rfl
theorem tail_two (s : ByteArray) (rec : Rec) (m1 m2 : Int → Bool) (i p : Nat) : rTail s rec false 2 m1 m2 2 0 [] i p = closeP s (pTwo s rec m1 m2 i p) := by
 rw [rTail]
 simp only [decide_false, Bool.false_eq_true, if_false, Nat.lt_irrefl, Bool.or_false, if_true]
 unfold pTwo pOne pThen
 cases rec m1 i p with
 | error j => rfl
 | ok x =>
  obtain ⟨t, i2, p2⟩ := x
  dsimp only
  rw [rTail]
  have e1 : decide (2 ≤ 0 + 1) = false := by decide
  have e2 : (decide (0 < 0 + 1) || false) = true := by decide
  have e3 : (if 0 + 1 = 0 then m1 else m2) = m2 := rfl
  rw [e1, e2, e3, Bool.false_and, if_neg (by simp), if_pos rfl]
  cases isB s i2 44 with
  | false => rfl
  | true =>
   rw [if_pos rfl, if_pos rfl]
   unfold pThen
   cases rec m2 (i2 + 1) p2 with
   | error j => rfl
   | ok x => obtain ⟨t3, i3, p3⟩ := x; rfl
theorem tail_one (s : ByteArray) (rec : Rec) (m1 m2 : Int → Bool) (i p : Nat) : rTail s rec false 1 m1 m2 1 0 [] i p = closeP s (pOne rec m1 [] i p) := by
 rw [rTail]
 simp only [decide_false, Bool.false_eq_true, if_false, Nat.lt_irrefl, Bool.or_false, if_true]
 unfold pOne pThen
 cases rec m1 i p with
 | error j => rfl
 | ok x => obtain ⟨t, i2, p2⟩ := x; rfl
theorem rList_eq (s : ByteArray) (rec : Rec) (k i p : Nat) (hk : k < 14) (h2 : k ≠ 2) (h0 : k ≠ 0) (hl : ¬ (k = 1 ∨ k = 8)) : rList s rec k i p = pClose s (pList s rec k i p) := by
 have h : k = 3 ∨ k = 4 ∨ k = 5 ∨ k = 6 ∨ k = 7 ∨ k = 9 ∨ k = 10 ∨ k = 11 ∨ k = 12 ∨ k = 13 := by omega
 rcases h with rfl | rfl | rfl | rfl | rfl | rfl | rfl | rfl | rfl | rfl
 ·show withN 0 (rTail s rec false 2 mAny mAny 2 0 [] i p) = pClose s (withN 0 (pTwo s rec mAny mAny i p))
  rw [pClose_with, tail_two]
 ·show _ = pClose s (pNum s 9223372036854775807 i fun i' => .ok ([], i', p))
  rw [pClose_num]; rfl
 ·show withN 0 (rTail s rec false 2 mChan mAny 2 0 [] i p) = pClose s (withN 0 (pTwo s rec mChan mAny i p))
  rw [pClose_with, tail_two]
 ·show withN 0 (rTail s rec false 1 mChan mAny 1 0 [] i p) = pClose s (withN 0 (pOne rec mChan [] i p))
  rw [pClose_with, tail_one]
 ·show withN 0 (rTail s rec false 1 mAny mAny 1 0 [] i p) = pClose s (withN 0 (pOne rec mAny [] i p))
  rw [pClose_with, tail_one]
 ·show withN 0 (rTail s rec false 0 mEv mEv 16 0 [] i p) = pClose s (if isB s i 41 then .ok (0, [], i, p) else
   match pOne rec mEv [] i p with
   | .error j => .error j
   | .ok (l, i', p') => withN 0 (pMore s rec mEv 15 l i' p'))
  rw [rTail]
  have e1 : decide (0 ≤ 0) = true := by decide
  have e2 : (decide (0 < 0) || false) = false := by decide
  rw [e1, e2, Bool.true_and]
  cases h41 : isB s i 41 with
  | true =>
   rw [if_pos rfl, if_pos rfl]
   show _ = withN 0 (clo s [] i p)
   rw [clo, h41]; rfl
  | false =>
   show withN 0 (pThen (rec mEv i p) [] (rTail s rec false 0 mEv mEv 15 (0 + 1))) = pClose s (match pOne rec mEv [] i p with
   | .error j => .error j
   | .ok (l, i', p') => withN 0 (pMore s rec mEv 15 l i' p'))
   unfold pThen pOne
   cases rec mEv i p with
   | error j => rfl
   | ok x =>
    obtain ⟨t, i2, p2⟩ := x
    dsimp only
    rw [pClose_with, more_tail 15 (0 + 1) _ i2 p2 (by omega) (.inl (by omega))]
 ·show _ = pClose s (pNum s 63 i fun i' =>
   if isB s i' 44 then
    match pOne rec mEv [] (i' + 1) p with
    | .error j => .error j
    | .ok (l, i2, p') => pMore s rec mAny 8 l i2 p'
   else .error i')
  rw [pClose_num]
  show (match num s 63 i with
   | .error j => (.error j : Except Nat (Int × List VT × Nat × Nat))
   | .ok (n, i') => withN n (rTail s rec true 1 mEv mAny 9 0 [] i' p)) = _
  cases num s 63 i with
  | error j => rfl
  | ok x =>
   obtain ⟨n, i'⟩ := x
   dsimp only
   congr 1
   rw [rTail]
   have e1 : decide (1 ≤ 0) = false := by decide
   have e2 : (decide (0 < 0) || true) = true := by decide
   rw [e1, e2, Bool.false_and, if_neg (by simp), if_pos rfl, if_pos rfl]
   cases isB s i' 44 with
   | false => rfl
   | true =>
    rw [if_pos rfl, if_pos rfl]
    unfold pThen pOne
    cases rec mEv (i' + 1) p with
    | error j => rfl
    | ok x =>
     obtain ⟨t, i2, p2⟩ := x
     exact more_tail 8 (0 + 1) _ i2 p2 (by omega) (.inl (by omega))
 ·show _ = pClose s (pNum s 63 i fun i' => pMore s rec mAny 8 [] i' p)
  rw [pClose_num]
  show (match num s 63 i with
   | .error j => (.error j : Except Nat (Int × List VT × Nat × Nat))
   | .ok (n, i') => withN n (rTail s rec true 0 mAny mAny 8 0 [] i' p)) = _
  cases num s 63 i with
  | error j => rfl
  | ok x =>
   obtain ⟨n, i'⟩ := x
   dsimp only
   rw [more_tail 8 0 [] i' p (by omega) (.inr ⟨rfl, rfl⟩)]
 ·show _ = pClose s (pNum s 63 i fun i' => pMore s rec mAny 8 [] i' p)
  rw [pClose_num]
  show (match num s 63 i with
   | .error j => (.error j : Except Nat (Int × List VT × Nat × Nat))
   | .ok (n, i') => withN n (rTail s rec true 0 mAny mAny 8 0 [] i' p)) = _
  cases num s 63 i with
  | error j => rfl
  | ok x =>
   obtain ⟨n, i'⟩ := x
   dsimp only
   rw [more_tail 8 0 [] i' p (by omega) (.inr ⟨rfl, rfl⟩)]
 ·show _ = pClose s (pNum s 9223372036854775807 i fun i' => .ok ([], i', p))
  rw [pClose_num]; rfl

theorem first_letter : ∀ k : Fin 14, ∀ c, (wdl k)[0]? = some c → 97 ≤ c.toNat := by decide
theorem word_none {s : ByteArray} {i : Nat} {m : Int → Bool} (h : bt s i < 97) : word s i m = .error i := by
 have hn : findC s i 0 m 14 0 = none := by
  rcases hc : findC s i 0 m 14 0 with _ | k
  ·rfl
  ·exfalso
   have h1 := findC_some hc
   obtain ⟨c1, c2, c3, c4⟩ := cand_sub h1.1
   rw [sub_eq] at c1
   obtain ⟨c, hc1, hc2⟩ := bt_list s i (by omega)
   have e1 : (s.data.toList.drop i)[0]? = some c := by rw [List.getElem?_drop]; exact hc1
   have h9 := congrArg (fun x => x[0]?) c1
   simp only [List.getElem?_take, if_pos (Nat.lt_succ_self 0), e1] at h9
   have := first_letter ⟨k, by omega⟩ c h9.symm
   omega
 unfold word
 rw [wordGo, hn]
 rfl
/-- The reference's way through a value. -/
def rVal (s : ByteArray) (rec : Rec) (sa : Int) (i p : Nat) : Except Nat (VT × Nat × Nat) :=
 if s.size ≤ i ∨ 256 ≤ p then .error i
 else if sa = 0 ∧ dig s i = true then match num s 9223372036854775807 i with
  | .error j => .error j
  | .ok (n, j) => .ok (.mk 2 n [], j, p + 1)
 else if sa = 0 ∧ isB s i 45 = true then match rnum s 9223372036854775808 1 (i + 1) false with
  | .error j => .error j
  | .ok (n, j) => .ok (.mk 2 (-n) [], j, p + 1)
 else match rword s i (asM sa) with
  | .error j => .error j
  | .ok (k, j) => if k = 1 ∨ k = 8 then .ok (.mk k 0 [], j, p + 1) else if isB s j 40 then match rList s rec k (j + 1) (p + 1) with
   | .error j' => .error j'
   | .ok (n, l, j', p') => .ok (.mk k n l, j', p')
   else .error j
theorem dig_not {s : ByteArray} {i : Nat} (h : dig s i = true) : isB s i 45 = false := by
 have := dig_bt h
 unfold isB
 rw [decide_eq_false_iff_not]
 omega
theorem pVal_ref (s : ByteArray) (f : Nat) (sa : Int) (i p : Nat) (ha : sa = 0 ∨ sa = 1 ∨ sa = 2) : pVal s (f + 1) (asM sa) i p = rVal s (pVal s f) sa i p := by
 unfold rVal
 rw [pVal]
 by_cases hp : 256 ≤ p
 ·rw [if_pos hp, if_pos (show s.size ≤ i ∨ 256 ≤ p from .inr hp)]
 ·rw [if_neg hp]
  by_cases hi : s.size ≤ i
  ·have hb : bt s i = -1 := bt_out (by omega)
   have e1 : isB s i 45 = false := by unfold isB; rw [hb]; rfl
   have e2 : dig s i = false := by unfold dig; rw [hb]; rfl
   rw [if_pos (show s.size ≤ i ∨ 256 ≤ p from .inl hi), e1, e2, if_neg (show ¬ (false || false) = true by decide), word_none (by omega)]
  ·rw [if_neg (show ¬ (s.size ≤ i ∨ 256 ≤ p) by omega)]
   cases hd : dig s i with
   | true =>
    have hb := dig_bt hd
    have e1 := dig_not hd
    rw [e1, if_pos (show (false || true) = true from rfl)]
    rcases ha with rfl | rfl | rfl
    ·rw [if_pos (show asM 0 2 = true from rfl), if_pos (show (0 : Int) = 0 ∧ true = true from ⟨rfl, rfl⟩)]
     unfold integer
     rw [e1]
     rfl
    ·rw [if_neg (show ¬ asM 1 2 = true by decide), if_neg (show ¬ ((1 : Int) = 0 ∧ true = true) by decide), if_neg (show ¬ ((1 : Int) = 0 ∧ false = true) by decide), rword_eq, word_none (by omega)]
    ·rw [if_neg (show ¬ asM 2 2 = true by decide), if_neg (show ¬ ((2 : Int) = 0 ∧ true = true) by decide), if_neg (show ¬ ((2 : Int) = 0 ∧ false = true) by decide), rword_eq, word_none (by omega)]
   | false =>
    rw [if_neg (show ¬ (sa = 0 ∧ false = true) by simp)]
    cases hm : isB s i 45 with
    | true =>
     have hb : bt s i = 45 := by unfold isB at hm; simpa using hm
     rw [if_pos (show (true || false) = true from rfl)]
     rcases ha with rfl | rfl | rfl
     ·rw [if_pos (show asM 0 2 = true from rfl), if_pos (show (0 : Int) = 0 ∧ true = true from ⟨rfl, rfl⟩)]
      unfold integer
      rw [hm, if_pos (show true = true from rfl)]
      unfold rnum
      rw [if_neg (show ¬ false = true by decide)]
      cases h48 : isB s (i + 1) 48 with
      | true =>
       have hb2 : bt s (i + 1) = 48 := by unfold isB at h48; simpa using h48
       have hd2 : dig s (i + 1) = true := by unfold dig; rw [hb2]; rfl
       have e9 : (dig s (i + 1) && decide ((bt s (i + 1) - 48).toNat < 1)) = true := by rw [hd2, hb2]; rfl
       rw [e9]
       rfl
      | false =>
       have hb2 : bt s (i + 1) ≠ 48 := by unfold isB at h48; simpa using h48
       have e9 : (dig s (i + 1) && decide ((bt s (i + 1) - 48).toNat < 1)) = false := by
        cases hd2 : dig s (i + 1) with
        | false => rfl
        | true =>
         have := dig_bt hd2
         simp
         omega
       rw [e9]
       rfl
     ·rw [if_neg (show ¬ asM 1 2 = true by decide), if_neg (show ¬ ((1 : Int) = 0 ∧ true = true) by decide), rword_eq, word_none (by omega)]
     ·rw [if_neg (show ¬ asM 2 2 = true by decide), if_neg (show ¬ ((2 : Int) = 0 ∧ true = true) by decide), rword_eq, word_none (by omega)]
    | false =>
     rw [if_neg (show ¬ (false || false) = true by decide), if_neg (show ¬ (sa = 0 ∧ false = true) by simp), rword_eq]
     rcases hw : word s i (asM sa) with j | ⟨k, j⟩
     ·rfl
     ·dsimp only
      have hg := word_goes hw
      by_cases hl : k = 1 ∨ k = 8
      ·rw [if_pos hl, if_pos hl]
      ·rw [if_neg hl, if_neg hl, rList_eq s (pVal s f) k (j + 1) (p + 1) hg.2.2.1 ?_ ?_ hl]
       ·cases isB s j 40 with
        | false => rfl
        | true =>
         rcases pList s (pVal s f) k (j + 1) (p + 1) with j' | ⟨n, l, j', p'⟩
         ·rfl
         ·unfold pClose clo
          dsimp only
          cases isB s j' 41 <;> rfl
       ·intro e; subst e; exact absurd hg.2.2.2.2 (by decide)
       ·intro e; subst e; exact absurd hg.2.2.2.2 (by decide)
end Go.Proofs.YtjldbbcdhdfliaaGreatDoor
/-
 Walks over the reference of layer 5: the reader's value.
-/
namespace Go.Proofs.YtjldbbcdhdfliaaGreatDoor
open Go.RowKit

/-- How the reader's value ends. -/
def RVEnds (s : ByteArray) (w : World) (r : Except Nat (VT × Nat × Nat)) (e : Ending) (w' : World) : Prop :=
 match r with
 | .error j => ∃ (p' : Int) (k n : Int) (a : Option Addr) (len cap : Nat), e = .returned (.tuple #[rdV s j p' true, .agg #[.int .i64 k, .int .i64 n, .slice a len cap]]) ∧ Below w.heap.size w w'
 | .ok (t, i, p) => ∃ v, e = .returned (.tuple #[rdV s i p false, v]) ∧ IsV (fun g => w.heap.size ≤ g ∧ g < w'.heap.size) w' t v ∧ Below w.heap.size w w'
def RValC (s : ByteArray) (f : Nat) : Prop := ∀ (sa : Int) (i p : Nat) (w : World), (sa = 0 ∨ sa = 1 ∨ sa = 2) → i ≤ s.size → p ≤ 256 → 256 ≤ p + f →
 Calls Tryz.prog 79 #[rdV s i p false, .int .i64 sa] w (RVEnds s w (pVal s f (asM sa) i p))

theorem three_alloc (w : World) (o o' o'' : Obj) : Below w.heap.size w (((w.alloc o).alloc o').alloc o'') := (two_alloc w o o').trans ((below_alloc _ _).mono (by simp; omega))
/-- The three blocks with which value begins. -/
theorem rv_start (w : World) (s : ByteArray) (i p : Int) (b : Bool) (W : World) (hW : W = ((w.alloc (.cells #[.string s, .int .i64 i, .int .i64 p, .bool b] 138)).alloc (.cells #[.string ⟨#[]⟩, .int .i64 0, .int .i64 0, .bool false] 138)).alloc (.cells #[.int .i64 0, .int .i64 0, .slice none 0 0] 27)) :
  B4 W w.heap.size 138 (.string s) (.int .i64 i) (.int .i64 p) (.bool b) ∧ B4 W (w.heap.size + 1) 138 (.string ⟨#[]⟩) (.int .i64 0) (.int .i64 0) (.bool false) ∧ Bx W (w.heap.size + 1 + 1) 27 (.int .i64 0) (.int .i64 0) (.slice none 0 0) ∧ Below w.heap.size w W := by
 subst hW
 obtain ⟨h1, h2, h3⟩ := rr_start w s i p b _ rfl
 have h4 := Bx.new ((w.alloc (.cells #[.string s, .int .i64 i, .int .i64 p, .bool b] 138)).alloc (.cells #[.string ⟨#[]⟩, .int .i64 0, .int .i64 0, .bool false] 138)) 27 (.int .i64 0) (.int .i64 0) (.slice none 0 0)
 have hs : ((w.alloc (.cells #[.string s, .int .i64 i, .int .i64 p, .bool b] 138)).alloc (.cells #[.string ⟨#[]⟩, .int .i64 0, .int .i64 0, .bool false] 138)).heap.size = w.heap.size + 1 + 1 := by simp
 rw [hs] at h4
 exact ⟨h1.alloc _, h2.alloc _, h4, three_alloc _ _ _ _⟩
set_option maxHeartbeats 1000000 in
theorem rsign_bad (s : ByteArray) (i p c : Int) (w : World) :
  Calls Tryz.prog 108 #[rdV s i p true, .int .u8 c] w fun e w' => e = .returned (rdV s i p true) ∧ Below w.heap.size w w' := by
 rw [rdV_eq]
 go_enter Tryz.func108, Tryz.ntmps108
 go_wp2_with fail
 exact bodyPost_ret (v := rdV s i p true) (by simp [results, Tryz.results108, go_sem, rdV]) rfl ⟨rfl, two_alloc _ _ _⟩
set_option maxRecDepth 100000 in
set_option maxHeartbeats 2000000 in
theorem rvalue_bad (s : ByteArray) (i p sa : Int) (w : World) :
  Calls Tryz.prog 79 #[rdV s i p true, .int .i64 sa] w fun e w' => e = .returned (.tuple #[rdV s i p true, .agg #[.int .i64 0, .int .i64 0, .slice none 0 0]]) ∧ Below w.heap.size w w' := by
 rw [rdV_eq]
 go_enter Tryz.func79, Tryz.ntmps79
 go_wp2_with fail
 exact bodyPost_ret (v := .tuple #[rdV s i p true, .agg #[.int .i64 0, .int .i64 0, .slice none 0 0]]) (by simp [results, Tryz.results79, go_sem, rdV]) rfl ⟨rfl, three_alloc _ _ _ _⟩
set_option maxRecDepth 100000 in
set_option maxHeartbeats 2000000 in
theorem rvalue_end (s : ByteArray) (i p : Nat) (sa : Int) (w : World) (_hs : s.size ≤ maxLen) (h : s.size ≤ i ∨ 256 ≤ p) (_hi : i ≤ s.size) :
  Calls Tryz.prog 79 #[rdV s i p false, .int .i64 sa] w fun e w' => e = .returned (.tuple #[rdV s i p true, .agg #[.int .i64 0, .int .i64 0, .slice none 0 0]]) ∧ Below w.heap.size w w' := by
 unfold maxLen at _hs
 rw [rdV_eq]
 by_cases h1 : s.size ≤ i
 ·have hd : decide (s.size ≤ i) = true := by simpa using h1
  go_enter Tryz.func79, Tryz.ntmps79
  go_wp2_with fail
  exact bodyPost_ret (v := .tuple #[rdV s i p true, .agg #[.int .i64 0, .int .i64 0, .slice none 0 0]]) (by simp [results, Tryz.results79, go_sem, rdV]) rfl ⟨rfl, three_alloc _ _ _ _⟩
 ·have h2 : 256 ≤ p := by omega
  have hd : decide (s.size ≤ i) = false := by simpa using h1
  have hd2 : decide (256 ≤ (p : Int)) = true := by simp; omega
  go_enter Tryz.func79, Tryz.ntmps79
  go_wp2_with fail
  exact bodyPost_ret (v := .tuple #[rdV s i p true, .agg #[.int .i64 0, .int .i64 0, .slice none 0 0]]) (by simp [results, Tryz.results79, go_sem, rdV]) rfl ⟨rfl, three_alloc _ _ _ _⟩

/-- A number read. -/
def intRes (sg : Int) (p : Nat) (r : Except Nat (Nat × Nat)) : Except Nat (VT × Nat × Nat) := match r with
 | .error j => .error j
 | .ok (n, j) => .ok (.mk 2 (sg * n) [], j, p + 1)
theorem RnEnds.out {s : ByteArray} {p : Int} {w w' : World} {r : Except Nat (Nat × Nat)} {e : Ending} (h : RnEnds s p w r e w') : ∃ (j n : Nat) (bd : Bool), e = .returned (.tuple #[rdV s j p bd, .int .u64 n]) ∧ Below w.heap.size w w' ∧ ((r = .error j ∧ bd = true ∧ n = 0) ∨ (r = .ok (n, j) ∧ bd = false)) := by
 rcases r with j | ⟨n, j⟩
 ·exact ⟨j, 0, true, h.1, h.2, .inl ⟨rfl, rfl, rfl⟩⟩
 ·exact ⟨j, n, false, h.1, h.2, .inr ⟨rfl, rfl⟩⟩
set_option maxRecDepth 100000 in
set_option maxHeartbeats 2000000 in
theorem rvalue_num (s : ByteArray) (i p : Nat) (w : World) (hs : s.size ≤ maxLen) (hi : i < s.size) (hp : p < 256) (hd : dig s i = true) :
  Calls Tryz.prog 79 #[rdV s i p false, .int .i64 0] w (RVEnds s w (intRes 1 p (num s 9223372036854775807 i))) := by
 have hs2 := hs
 unfold maxLen at hs2
 obtain ⟨W, hW⟩ : ∃ W, W = ((w.alloc (.cells #[.string s, .int .i64 i, .int .i64 ((p : Int) + 1), .bool false] 138)).alloc (.cells #[.string ⟨#[]⟩, .int .i64 0, .int .i64 0, .bool false] 138)).alloc (.cells #[.int .i64 0, .int .i64 0, .slice none 0 0] 27) := ⟨_, rfl⟩
 obtain ⟨hx, hr, hv, hb⟩ := rv_start w s i ((p : Int) + 1) false W hW
 have HW := Lib.hid hW
 clear hW
 have hg1 : decide (s.size ≤ i) = false := by simpa using hi
 have hg2 : decide (256 ≤ (p : Int)) = false := by simp; omega
 have HD := Lib.hid (digV_yes hd)
 clear hd
 rw [rdV_eq]
 go_enter Tryz.func79, Tryz.ntmps79
 go_wp2_with fail
 rw [← HW.out]
 refine (rdigit_any s i ((p : Int) + 1) false _ hs (by omega)).mono ?_
 rw [HD.out]
 rintro e w1 ⟨rfl, hb1⟩
 have hx1 := hx.belowAll hb1
 have hr1 := hr.belowAll hb1
 have hv1 := hv.belowAll hb1
 have hb2 : Below w.heap.size w w1 := hb.trans (hb1.mono hb.size)
 clear hx hr hv hb hb1 HW
 have q0 := hx1.c0
 have q1 := hx1.c1
 have q2 := hx1.c2
 have q3 := hx1.c3
 go_wp2_with fail
 refine (rnumber_any s i 9223372036854775807 0 ((p : Int) + 1) false _ hs (by omega) (by omega) (by omega) (by omega)).mono ?_
 have hn0 : rnum s 9223372036854775807 0 i false = num s 9223372036854775807 i := by unfold rnum; simp
 rw [hn0]
 intro e w3 h3
 obtain ⟨j, n, bd, rfl, hb3, hres⟩ := h3.out
 have HRES := Lib.hid hres
 clear h3 hres
 have hx3 := hx1.belowAll hb3
 have hr3 := hr1.belowAll hb3
 have hv3 := hv1.belowAll hb3
 have hb4 := hb2.trans (hb3.mono hb2.size)
 clear hx1 hr1 hv1 hb2 hb3 q0 q1 q2 q3
 rw [rdV_eq]
 go_wp2_with fail
 have hy := B4.new w3 138 (.string s) (.int .i64 (j : Int)) (.int .i64 ((p : Int) + 1)) (.bool bd)
 have hr5 := hr3.alloc (.cells #[.string s, .int .i64 (j : Int), .int .i64 ((p : Int) + 1), .bool bd] 138)
 have hv5 := hv3.alloc (.cells #[.string s, .int .i64 (j : Int), .int .i64 ((p : Int) + 1), .bool bd] 138)
 have hb5 := hb4.trans ((below_alloc w3 (.cells #[.string s, .int .i64 (j : Int), .int .i64 ((p : Int) + 1), .bool bd] 138)).mono hb4.size)
 have hsz3 := hb4.size
 generalize w3.alloc (.cells #[.string s, .int .i64 (j : Int), .int .i64 ((p : Int) + 1), .bool bd] 138) = w5 at *
 generalize w3.heap.size = y at *
 clear hx3 hr3 hv3 hb4
 have y0 := hy.c0
 have y1 := hy.c1
 have y2 := hy.c2
 have y3 := hy.c3
 have hn : n ≤ 9223372036854775807 := by
  rcases HRES.out with ⟨_, _, rfl⟩ | ⟨h1, _⟩
  ·omega
  ·exact (num_ok h1 (by omega) (by omega)).1
 have hwr : IntKind.i64.wrap (n : Int) = (n : Int) := IntWalk.i64_in _ (by omega)
 go_region_with (go_at_call 29; refine (rInt_any _ _).mono ?_; rintro e w9 ⟨rfl, hb9⟩; have y0 := (B4.belowAll (w := w5.drew) hy hb9).c0; have y1 := (B4.belowAll (w := w5.drew) hy hb9).c1; have y2 := (B4.belowAll (w := w5.drew) hy hb9).c2; have y3 := (B4.belowAll (w := w5.drew) hy hb9).c3; have z0 := (B4.belowAll (w := w5.drew) hr5 hb9).c0; have z1 := (B4.belowAll (w := w5.drew) hr5 hb9).c1; have z2 := (B4.belowAll (w := w5.drew) hr5 hb9).c2; have z3 := (B4.belowAll (w := w5.drew) hr5 hb9).c3; have zf := (B4.belowAll (w := w5.drew) hr5 hb9).fz; have x0 := (Bx.belowAll (w := w5.drew) hv5 hb9).c0; have x1 := (Bx.belowAll (w := w5.drew) hv5 hb9).c1; have x2 := (Bx.belowAll (w := w5.drew) hv5 hb9).c2; have xf := (Bx.belowAll (w := w5.drew) hv5 hb9).fz)
 all_goals
  go_wp2_with fail
  have hr9 := ((B4.belowAll (w := w5.drew) hr5 hb9).put (.string s) (.int .i64 (j : Int)) (.int .i64 ((p : Int) + 1)) (.bool bd)).far3 (g' := w.heap.size + 1 + 1) (by omega) (.int .i64 2) (.int .i64 n) (.slice none 0 0)
  have hv9 := ((Bx.belowAll (w := w5.drew) hv5 hb9).far4 (g' := w.heap.size + 1) (by omega) (.string s) (.int .i64 (j : Int)) (.int .i64 ((p : Int) + 1)) (.bool bd)).put (.int .i64 2) (.int .i64 n) (.slice none 0 0)
  refine bodyPost_ret (v := .tuple #[rdV s j ((p : Int) + 1) bd, .agg #[.int .i64 2, .int .i64 n, .slice none 0 0]]) (by simp [results, Tryz.results79, go_sem, hr9.c0, hr9.c1, hr9.c2, hr9.c3, hv9.c0, hv9.c1, hv9.c2, rdV]) rfl ?_
  have hb10 : Below w.heap.size w w9 := hb5.drew.trans (hb9.mono hb5.size)
  have hbf := below_put3 (below_put4 hb10 (g := w.heap.size + 1) (by omega) (.string s) (.int .i64 (j : Int)) (.int .i64 ((p : Int) + 1)) (.bool bd)) (g := w.heap.size + 1 + 1) (by omega) (.int .i64 2) (.int .i64 n) (.slice none 0 0)
  rcases HRES.out with ⟨h1, rfl, rfl⟩ | ⟨h1, rfl⟩
  ·rw [h1]; exact ⟨_, _, _, _, _, _, rfl, hbf⟩
  ·rw [h1]
   have e1 : (1 : Int) * (n : Int) = n := by omega
   unfold intRes
   dsimp only
   rw [e1]
   exact ⟨_, rfl, IsV_int (by unfold Rng; omega), hbf⟩
end Go.Proofs.YtjldbbcdhdfliaaGreatDoor
/-
 Walks over the reference of layer 5: the reader's value at a number below zero.
-/
namespace Go.Proofs.YtjldbbcdhdfliaaGreatDoor
open Go.RowKit

theorem neg_i64 (n : Nat) (h : n ≤ 9223372036854775808) : IntKind.i64.wrap (IntKind.u64.wrap (-(n : Int))) = -(n : Int) := by
 simp only [IntKind.wrap, IntKind.bits, IntKind.signed]
 simp
 omega
theorem rnum_le {s : ByteArray} {i n j : Nat} (hi : i + 1 ≤ s.size) (h : rnum s 9223372036854775808 1 (i + 1) false = .ok (n, j)) : n ≤ 9223372036854775808 := by
 unfold rnum at h
 split at h
 ·cases h
 ·split at h
  ·cases h
  ·exact (num_ok h (by omega) (by omega)).1
set_option maxRecDepth 100000 in
set_option maxHeartbeats 2000000 in
theorem rvalue_neg (s : ByteArray) (i p : Nat) (w : World) (hs : s.size ≤ maxLen) (hi : i < s.size) (hp : p < 256) (hd : dig s i = false) (hm : isB s i 45 = true) :
  Calls Tryz.prog 79 #[rdV s i p false, .int .i64 0] w (RVEnds s w (intRes (-1) p (rnum s 9223372036854775808 1 (i + 1) false))) := by
 have hs2 := hs
 unfold maxLen at hs2
 obtain ⟨W, hW⟩ : ∃ W, W = ((w.alloc (.cells #[.string s, .int .i64 i, .int .i64 ((p : Int) + 1), .bool false] 138)).alloc (.cells #[.string ⟨#[]⟩, .int .i64 0, .int .i64 0, .bool false] 138)).alloc (.cells #[.int .i64 0, .int .i64 0, .slice none 0 0] 27) := ⟨_, rfl⟩
 obtain ⟨hx, hr, hv, hb⟩ := rv_start w s i ((p : Int) + 1) false W hW
 have HW := Lib.hid hW
 clear hW
 have hg1 : decide (s.size ≤ i) = false := by simpa using hi
 have hg2 : decide (256 ≤ (p : Int)) = false := by simp; omega
 have HD := Lib.hid (digV_no hd)
 have HM := Lib.hid hm
 have HG : Hid (sgn s 45 i false = (i + 1, false)) := by show _ = _; rw [sgn, hm]; rfl
 clear hd hm
 rw [rdV_eq]
 go_enter Tryz.func79, Tryz.ntmps79
 go_wp2_with fail
 rw [← HW.out]
 refine (rdigit_any s i ((p : Int) + 1) false _ hs (by omega)).mono ?_
 rw [HD.out]
 rintro e w1 ⟨rfl, hb1⟩
 have hx1 := hx.belowAll hb1
 have hr1 := hr.belowAll hb1
 have hv1 := hv.belowAll hb1
 have hb2 : Below w.heap.size w w1 := hb.trans (hb1.mono hb.size)
 clear hx hr hv hb hb1 HW
 have q0 := hx1.c0
 have q1 := hx1.c1
 have q2 := hx1.c2
 have q3 := hx1.c3
 go_wp2_with fail
 refine (ris_any s i ((p : Int) + 1) false 45 _ hs (by omega) (by omega)).mono ?_
 rw [HM.out]
 rintro e w2 ⟨rfl, hb3⟩
 have hx2 := hx1.belowAll hb3
 have hr2 := hr1.belowAll hb3
 have hv2 := hv1.belowAll hb3
 have hb4 : Below w.heap.size w w2 := hb2.trans (hb3.mono hb2.size)
 clear hx1 hr1 hv1 hb2 hb3 q0 q1 q2 q3
 have q0 := hx2.c0
 have q1 := hx2.c1
 have q2 := hx2.c2
 have q3 := hx2.c3
 go_wp2_with fail
 refine (rsign_any s i ((p : Int) + 1) false 45 _ hs (by omega) (by omega)).mono ?_
 rw [HG.out]
 rintro e w8 ⟨rfl, hb5⟩
 have hx1 := hx2.belowAll hb5
 have hr1 := hr2.belowAll hb5
 have hv1 := hv2.belowAll hb5
 have hb2 : Below w.heap.size w w8 := hb4.trans (hb5.mono hb4.size)
 clear hx2 hr2 hv2 hb4 hb5 q0 q1 q2 q3
 go_wp2_with fail
 refine (rnumber_any s (i + 1) 9223372036854775808 1 ((p : Int) + 1) false _ hs (by omega) (by omega) (by omega) (by omega)).mono ?_
 intro e w3 h3
 obtain ⟨j, n, bd, rfl, hb3, hres⟩ := h3.out
 have HRES := Lib.hid hres
 clear h3 hres
 have hx3 := hx1.belowAll hb3
 have hr3 := hr1.belowAll hb3
 have hv3 := hv1.belowAll hb3
 have hb4 := hb2.trans (hb3.mono hb2.size)
 clear hx1 hr1 hv1 hb2 hb3
 rw [rdV_eq]
 go_wp2_with fail
 have hy := B4.new w3 138 (.string s) (.int .i64 (j : Int)) (.int .i64 ((p : Int) + 1)) (.bool bd)
 have hr5 := hr3.alloc (.cells #[.string s, .int .i64 (j : Int), .int .i64 ((p : Int) + 1), .bool bd] 138)
 have hv5 := hv3.alloc (.cells #[.string s, .int .i64 (j : Int), .int .i64 ((p : Int) + 1), .bool bd] 138)
 have hb5 := hb4.trans ((below_alloc w3 (.cells #[.string s, .int .i64 (j : Int), .int .i64 ((p : Int) + 1), .bool bd] 138)).mono hb4.size)
 have hsz3 := hb4.size
 generalize w3.alloc (.cells #[.string s, .int .i64 (j : Int), .int .i64 ((p : Int) + 1), .bool bd] 138) = w5 at *
 generalize w3.heap.size = y at *
 clear hx3 hr3 hv3 hb4
 have y0 := hy.c0
 have y1 := hy.c1
 have y2 := hy.c2
 have y3 := hy.c3
 have hn : n ≤ 9223372036854775808 := by
  rcases HRES.out with ⟨_, _, rfl⟩ | ⟨h1, _⟩
  ·omega
  ·exact rnum_le (by omega) h1
 have hwr : IntKind.i64.wrap (IntKind.u64.wrap (-(n : Int))) = -(n : Int) := neg_i64 n hn
 go_region_with (go_at_call 29; refine (rInt_any _ _).mono ?_; rintro e w9 ⟨rfl, hb9⟩; have y0 := (B4.belowAll (w := w5.drew) hy hb9).c0; have y1 := (B4.belowAll (w := w5.drew) hy hb9).c1; have y2 := (B4.belowAll (w := w5.drew) hy hb9).c2; have y3 := (B4.belowAll (w := w5.drew) hy hb9).c3; have z0 := (B4.belowAll (w := w5.drew) hr5 hb9).c0; have z1 := (B4.belowAll (w := w5.drew) hr5 hb9).c1; have z2 := (B4.belowAll (w := w5.drew) hr5 hb9).c2; have z3 := (B4.belowAll (w := w5.drew) hr5 hb9).c3; have zf := (B4.belowAll (w := w5.drew) hr5 hb9).fz; have x0 := (Bx.belowAll (w := w5.drew) hv5 hb9).c0; have x1 := (Bx.belowAll (w := w5.drew) hv5 hb9).c1; have x2 := (Bx.belowAll (w := w5.drew) hv5 hb9).c2; have xf := (Bx.belowAll (w := w5.drew) hv5 hb9).fz)
 all_goals
  go_wp2_with fail
  have hr9 := ((B4.belowAll (w := w5.drew) hr5 hb9).put (.string s) (.int .i64 (j : Int)) (.int .i64 ((p : Int) + 1)) (.bool bd)).far3 (g' := w.heap.size + 1 + 1) (by omega) (.int .i64 2) (.int .i64 (-(n : Int))) (.slice none 0 0)
  have hv9 := ((Bx.belowAll (w := w5.drew) hv5 hb9).far4 (g' := w.heap.size + 1) (by omega) (.string s) (.int .i64 (j : Int)) (.int .i64 ((p : Int) + 1)) (.bool bd)).put (.int .i64 2) (.int .i64 (-(n : Int))) (.slice none 0 0)
  refine bodyPost_ret (v := .tuple #[rdV s j ((p : Int) + 1) bd, .agg #[.int .i64 2, .int .i64 (-(n : Int)), .slice none 0 0]]) (by simp [results, Tryz.results79, go_sem, hr9.c0, hr9.c1, hr9.c2, hr9.c3, hv9.c0, hv9.c1, hv9.c2, rdV]) rfl ?_
  have hb10 : Below w.heap.size w w9 := hb5.drew.trans (hb9.mono hb5.size)
  have hbf := below_put3 (below_put4 hb10 (g := w.heap.size + 1) (by omega) (.string s) (.int .i64 (j : Int)) (.int .i64 ((p : Int) + 1)) (.bool bd)) (g := w.heap.size + 1 + 1) (by omega) (.int .i64 2) (.int .i64 (-(n : Int))) (.slice none 0 0)
  rcases HRES.out with ⟨h1, rfl, rfl⟩ | ⟨h1, rfl⟩
  ·rw [h1]; exact ⟨_, _, _, _, _, _, rfl, hbf⟩
  ·rw [h1]
   have e1 : (-1 : Int) * (n : Int) = -(n : Int) := by omega
   unfold intRes
   dsimp only
   rw [e1]
   exact ⟨_, rfl, IsV_int (by unfold Rng; omega), hbf⟩
end Go.Proofs.YtjldbbcdhdfliaaGreatDoor
/-
 Walks over the reference of layer 5: the reader's value at a word.
-/
namespace Go.Proofs.YtjldbbcdhdfliaaGreatDoor
open Go.RowKit

theorem B4.drew {w : World} {g : Nat} {t : TypeId} {v0 v1 v2 v3 : Value} (h : B4 w g t v0 v1 v2 v3) : B4 w.drew g t v0 v1 v2 v3 := h
theorem Bx.drew1 {w : World} {g : Nat} {t : TypeId} {v0 v1 v2 : Value} (h : Bx w g t v0 v1 v2) : Bx w.drew g t v0 v1 v2 := h
/-- A value more in the row, laid as it is. -/
theorem Acc.pushD {lo vb g cap : Nat} {W W1 : World} {k n : Int} {l : List VT} {v : Value} {xs : List Value} {t : VT} {u0 u1 u2 : Value} (h : Acc lo W vb k n l v xs)
  (ht : IsV (fun g => lo ≤ g ∧ g < W.heap.size ∧ some g ≠ v.ownBlock) W t (.agg #[u0, u1, u2]))
  (hown : W1.ownsRow lo 27 3 (.slice (some ⟨g, 0, none⟩) (l.length + 1) cap) (l.length + 1) (xs ++ [u0, u1, u2]))
  (hgr : W.grownBy W1 v.ownBlock) (hat : v.ownBlock = some g ∨ g = W.heap.size) :
  Acc lo (W1.setCell ⟨vb, 2, none⟩ (.slice (some ⟨g, 0, none⟩) (l.length + 1) cap)) vb k n (l ++ [t]) (.slice (some ⟨g, 0, none⟩) (l.length + 1) cap) (xs ++ [u0, u1, u2]) := by
 have hvl := h.vlt
 have hle := h.le
 have hsz := hgr.size
 have hrl := hown.lt g rfl
 have hne : some vb ≠ v.ownBlock := fun e => by have := (h.row.lt vb e.symm).1; omega
 have hbox1 : Bx W1 vb 27 (.int .i64 k) (.int .i64 n) v := (hgr.block vb (by omega) hne).trans h.box
 have hlen : (l ++ [t]).length = l.length + 1 := by simp
 have hsc : ∀ (Wx : World) (q : Addr) (u : Value), (Wx.setCell q u).heap.size = Wx.heap.size := by intro Wx q u; simp [World.setCell]
 have hj : ∀ j, (lo ≤ j ∧ j < W.heap.size ∧ some j ≠ v.ownBlock) → j ≠ g ∧ (W1.setCell ⟨vb, 2, none⟩ (.slice (some ⟨g, 0, none⟩) (l.length + 1) cap)).heap[j]? = W.heap[j]? := by
  intro j ⟨j1, j2, j3⟩
  have hjg : j ≠ g := by
   rcases hat with e | e
   ·intro e2; subst e2; exact j3 e.symm
   ·omega
  exact ⟨hjg, (Below.heap_setCell _ _ _ _ (by simp; omega)).trans (hgr.block j j2 j3)⟩
 refine ⟨hbox1.set2 _, ?_, ?_, hvl, by rw [hsc]; omega⟩
 ·rw [hlen]
  exact ownsRow_setCell_below (a := ⟨vb, 2, none⟩) hown hvl _
 ·refine ((Kids.push ht h.kids).keep fun j hjo o => World.cell?_of_block (w := W) (hj j hjo).2).more fun j hjo => ⟨hjo.1, by have := hjo.2.1; rw [hsc]; omega, ?_⟩
  intro e
  have : j = g := by simpa [Value.ownBlock] using e
  exact (hj j hjo).1 this

theorem RwEnds.out {s : ByteArray} {p : Int} {w w' : World} {r : Except Nat (Nat × Nat)} {e : Ending} (h : RwEnds s p w r e w') : ∃ (j k : Nat) (bd : Bool), e = .returned (.tuple #[rdV s j p bd, .int .i64 k]) ∧ Below w.heap.size w w' ∧ ((r = .error j ∧ bd = true ∧ k = 0) ∨ (r = .ok (k, j) ∧ bd = false)) := by
 rcases r with j | ⟨k, j⟩
 ·exact ⟨j, 0, true, h.1, h.2, .inl ⟨rfl, rfl, rfl⟩⟩
 ·exact ⟨j, k, false, h.1, h.2, .inr ⟨rfl, rfl⟩⟩
/-- The word, as the reference reads it, and what follows it. -/
def rWordK (s : ByteArray) (rec : Rec) (sa : Int) (i p : Nat) : Except Nat (VT × Nat × Nat) := match rword s i (asM sa) with
  | .error j => .error j
  | .ok (k, j) => if k = 1 ∨ k = 8 then .ok (.mk k 0 [], j, p + 1) else if isB s j 40 then match rList s rec k (j + 1) (p + 1) with
   | .error j' => .error j'
   | .ok (n, l, j', p') => .ok (.mk k n l, j', p')
   else .error j

def finK (k : Nat) (r : Except Nat (Int × List VT × Nat × Nat)) : Except Nat (VT × Nat × Nat) := match r with
 | .error j => .error j
 | .ok (n, l, j, p) => .ok (.mk k n l, j, p)
/-- Where the list begins. -/
def RvMid (s : ByteArray) (f k p : Nat) (w : World) (vb : Nat) (R : Except Nat (VT × Nat × Nat)) (wx : World) : Prop :=
 ∃ (j2 : Nat) (b2 : Bool) (n : Int), B4 wx w.heap.size 138 (.string s) (.int .i64 j2) (.int .i64 ((p : Int) + 1)) (.bool b2) ∧ B4 wx (w.heap.size + 1) 138 (.string ⟨#[]⟩) (.int .i64 0) (.int .i64 0) (.bool false) ∧ Bx wx (w.heap.size + 1 + 1) 27 (.int .i64 0) (.int .i64 0) (.slice none 0 0) ∧ Bx wx vb 27 (.int .i64 k) (.int .i64 n) (.slice none 0 0) ∧ Below w.heap.size w wx ∧ Rng n ∧
  ((b2 = true ∧ R = .error j2) ∨ (b2 = false ∧ j2 ≤ s.size ∧ Rng n ∧ R = finK k (withN n (rTail s (pVal s f) (numd k) (needs k).1 (asM (needs k).2.2.1) (asM (needs k).2.2.2) (needs k).2.1 0 [] j2 (p + 1)))))
theorem needs_ok (k : Nat) : (needs k).2.1 ≤ 16 ∧ ((needs k).2.2.1 = 0 ∨ (needs k).2.2.1 = 1 ∨ (needs k).2.2.1 = 2) ∧ ((needs k).2.2.2 = 0 ∨ (needs k).2.2.2 = 1 ∨ (needs k).2.2.2 = 2) ∧ (needs k).1 ≤ 16 := by
 unfold needs
 split <;> simp
theorem sgn_open (s : ByteArray) (f k j p : Nat) (R : Except Nat (VT × Nat × Nat)) (hR : R = if isB s j 40 then finK k (rList s (pVal s f) k (j + 1) (p + 1)) else .error j) (hj : j ≤ s.size) :
  ∃ (j1 : Nat) (b1 : Bool), sgn s 40 j false = (j1, b1) ∧ j1 ≤ s.size ∧ ((b1 = true ∧ R = .error j1) ∨ (b1 = false ∧ R = finK k (rList s (pVal s f) k j1 (p + 1)))) := by
 cases h : isB s j 40 with
 | true =>
  have := isB_lt (by omega) h
  exact ⟨j + 1, false, by rw [sgn, h]; rfl, by omega, .inr ⟨rfl, by rw [hR, h]; rfl⟩⟩
 | false => exact ⟨j, true, by rw [sgn, h]; rfl, by omega, .inl ⟨rfl, by rw [hR, h]; rfl⟩⟩
theorem mid_num {s : ByteArray} {f k j1 p : Nat} {b1 : Bool} {R : Except Nat (VT × Nat × Nat)} (hst : (b1 = true ∧ R = .error j1) ∨ (b1 = false ∧ R = finK k (rList s (pVal s f) k j1 (p + 1)))) (hj : j1 ≤ s.size) (hnb : numd k = true) {j2 n : Nat} {b2 : Bool}
  (h : (rnum s (mostN k) 0 j1 b1 = .error j2 ∧ b2 = true ∧ n = 0) ∨ (rnum s (mostN k) 0 j1 b1 = .ok (n, j2) ∧ b2 = false)) :
  n ≤ 9223372036854775807 ∧ ((b2 = true ∧ R = .error j2) ∨ (b2 = false ∧ j2 ≤ s.size ∧ Rng n ∧ R = finK k (withN n (rTail s (pVal s f) (numd k) (needs k).1 (asM (needs k).2.2.1) (asM (needs k).2.2.2) (needs k).2.1 0 [] j2 (p + 1))))) := by
 have hm : 9 ≤ mostN k ∧ mostN k ≤ 9223372036854775807 := by unfold mostN; split <;> omega
 have hr : ∀ b, b = false → rnum s (mostN k) 0 j1 b = num s (mostN k) j1 := by intro b hb; subst hb; unfold rnum; simp
 rcases hst with ⟨rfl, hR⟩ | ⟨rfl, hR⟩
 ·rcases h with ⟨h1, rfl, rfl⟩ | ⟨h1, _⟩
  ·unfold rnum at h1
   rw [if_pos rfl] at h1
   injection h1 with h1
   subst h1
   exact ⟨by omega, .inl ⟨rfl, hR⟩⟩
  ·unfold rnum at h1
   rw [if_pos rfl] at h1
   cases h1
 ·rw [hr _ rfl] at h
  unfold rList at hR
  rw [hnb, if_pos rfl] at hR
  rcases h with ⟨h1, rfl, rfl⟩ | ⟨h1, rfl⟩
  ·rw [h1] at hR
   exact ⟨by omega, .inl ⟨rfl, hR⟩⟩
  ·rw [h1] at hR
   have h2 := num_ok h1 hj hm.1
   refine ⟨by omega, .inr ⟨rfl, h2.2.2, by unfold Rng; omega, ?_⟩⟩
   rw [hnb]
   exact hR
theorem mid_none {s : ByteArray} {f k j1 p : Nat} {b1 : Bool} {R : Except Nat (VT × Nat × Nat)} (hst : (b1 = true ∧ R = .error j1) ∨ (b1 = false ∧ R = finK k (rList s (pVal s f) k j1 (p + 1)))) (hj : j1 ≤ s.size) (hnb : numd k = false) :
  (b1 = true ∧ R = .error j1) ∨ (b1 = false ∧ j1 ≤ s.size ∧ Rng 0 ∧ R = finK k (withN 0 (rTail s (pVal s f) (numd k) (needs k).1 (asM (needs k).2.2.1) (asM (needs k).2.2.2) (needs k).2.1 0 [] j1 (p + 1)))) := by
 rcases hst with h | ⟨h, hR⟩
 ·exact .inl h
 ·refine .inr ⟨h, hj, by unfold Rng; omega, ?_⟩
  unfold rList at hR
  rw [hnb] at hR
  rw [hnb]
  exact hR

/-- The blocks of value's call. -/
structure RvSt (s : ByteArray) (w : World) (i' p' : Int) (bd : Bool) (wr : World) : Prop where
 r : B4 wr w.heap.size 138 (.string s) (.int .i64 i') (.int .i64 p') (.bool bd)
 o : B4 wr (w.heap.size + 1) 138 (.string ⟨#[]⟩) (.int .i64 0) (.int .i64 0) (.bool false)
 v : Bx wr (w.heap.size + 1 + 1) 27 (.int .i64 0) (.int .i64 0) (.slice none 0 0)
 b : Below w.heap.size w wr
section
variable {s : ByteArray} {w wr w2 : World} {i' p' : Int} {bd : Bool}
theorem RvSt.below (h : RvSt s w i' p' bd wr) (hb : Below wr.heap.size wr w2) : RvSt s w i' p' bd w2 := ⟨h.r.belowAll hb, h.o.belowAll hb, h.v.belowAll hb, h.b.trans (hb.mono h.b.size)⟩
theorem RvSt.alloc (h : RvSt s w i' p' bd wr) (o : Obj) : RvSt s w i' p' bd (wr.alloc o) := h.below (below_alloc _ _)
theorem RvSt.put (h : RvSt s w i' p' bd wr) (i2 p2 : Int) (b2 : Bool) : RvSt s w i2 p2 b2 (put4 wr w.heap.size (.string s) (.int .i64 i2) (.int .i64 p2) (.bool b2)) :=
 ⟨h.r.put _ _ _ _, h.o.far4 (by omega) _ _ _ _, h.v.far4 (by omega) _ _ _ _, below_put4 h.b (by omega) _ _ _ _⟩
theorem RvSt.set (h : RvSt s w i' p' bd wr) {q : Addr} (hq : w.heap.size + 1 + 1 < q.block) (u : Value) : RvSt s w i' p' bd (wr.setCell q u) :=
 ⟨h.r.far (by omega) _, h.o.far (by omega) _, h.v.far (by omega) _, h.b.setCell (p := q) (by omega) _⟩
theorem RvSt.grown (h : RvSt s w i' p' bd wr) {row : Option Nat} (hg : wr.grownBy w2 row) (hr : ∀ g, row = some g → w.heap.size + 1 + 1 < g) : RvSt s w i' p' bd w2 := by
 have hk : ∀ j, j ≤ w.heap.size + 1 + 1 → w2.heap[j]? = wr.heap[j]? := fun j hj => hg.block j (by have := h.v.lt; omega) (fun e => by have := hr j e.symm; omega)
 exact ⟨(hk _ (by omega)).trans h.r, (hk _ (by omega)).trans h.o, (hk _ (by omega)).trans h.v, hg.os.trans h.b.os, hg.tape.trans h.b.tape, hg.output.trans h.b.output, Nat.le_trans h.b.size hg.size, fun j hj => (hk j (by omega)).trans (h.b.block j hj)⟩
end
theorem Acc.belowA {lo vb : Nat} {w w' : World} {k n : Int} {l : List VT} {v : Value} {xs : List Value} (h : Acc lo w vb k n l v xs) {b : Nat} (hb : b < vb) (hw : Below w.heap.size w w') : Acc lo w' vb k n l v xs :=
 h.keepAll (b := b) hw.size (fun j hj _ => hw.block j hj) (by have := h.vlt; omega) (by omega)
theorem Acc.putR {lo vb : Nat} {w : World} {k n : Int} {l : List VT} {v : Value} {xs : List Value} (h : Acc lo w vb k n l v xs) {b : Nat} (hb : b < vb) (u0 u1 u2 u3 : Value) : Acc lo (put4 w b u0 u1 u2 u3) vb k n l v xs := by
 have hv := h.vlt
 exact ((((h.setB (b := b) 0 u0 (by omega) (by omega)).setB (b := b) 1 u1 (by omega) (by omega)).setB (b := b) 2 u2 (by omega) (by omega)).setB (b := b) 3 u3 (by omega) (by omega))
/-- How the list stands behind the loop. -/
def RvEnd (s : ByteArray) (k : Nat) (n : Int) (w : World) (vb : Nat) (R : Except Nat (VT × Nat × Nat)) (wx : World) : Prop :=
 ∃ (i' p' : Int) (bd : Bool), RvSt s w i' p' bd wx ∧
  ((bd = true ∧ (∃ e : Nat, i' = e ∧ R = .error e) ∧ ∃ a len cap, Bx wx vb 27 (.int .i64 k) (.int .i64 n) (.slice a len cap)) ∨
   (bd = false ∧ ∃ (i2 p2 : Nat) (l : List VT) (v : Value) (xs : List Value), i' = i2 ∧ p' = p2 ∧ i2 ≤ s.size ∧ R = finK k (withN n (clo s l i2 p2)) ∧ Acc (vb + 1) wx vb k n l v xs))
/-- How it stands at the head of a round. -/
def RvLoop (s : ByteArray) (f k p : Nat) (n : Int) (w : World) (vb : Nat) (R : Except Nat (VT × Nat × Nat)) (nb : Bool) (least most : Nat) (a1 a2 : Int) (x : Value) (wr : World) : Prop :=
 ∃ (j : Nat) (i' p' : Int) (bd : Bool), x = .int .i64 j ∧ j ≤ most ∧ RvSt s w i' p' bd wr ∧
  ((bd = true ∧ (∃ e : Nat, i' = e ∧ R = .error e) ∧ ∃ a len cap, Bx wr vb 27 (.int .i64 k) (.int .i64 n) (.slice a len cap)) ∨
   (bd = false ∧ ∃ (i2 p2 : Nat) (l : List VT) (v : Value) (xs : List Value), i' = i2 ∧ p' = p2 ∧ i2 ≤ s.size ∧ p < p2 ∧ p2 ≤ 256 ∧ l.length = j ∧ R = finK k (withN n (rTail s (pVal s f) nb least (asM a1) (asM a2) (most - j) j l i2 p2)) ∧ Acc (vb + 1) wr vb k n l v xs))
def NextR (s : ByteArray) (f k p : Nat) (n : Int) (R : Except Nat (VT × Nat × Nat)) (l : List VT) (nb : Bool) (least most : Nat) (a1 a2 : Int) (j : Nat) (one : Int) (i3 p3 : Nat) (b3 : Bool) : Prop :=
 (b3 = true ∧ R = .error i3) ∨ (b3 = false ∧ p < p3 ∧ p3 ≤ 256 ∧ R = finK k (withN n (pThen (pVal s f (asM one) i3 p3) l (rTail s (pVal s f) nb least (asM a1) (asM a2) (most - (j + 1)) (j + 1)))))
theorem tail_next {s : ByteArray} {f k p : Nat} {n : Int} {R : Except Nat (VT × Nat × Nat)} {l : List VT} {nb : Bool} {least most : Nat} {a1 a2 : Int} {j i2 p2 : Nat} (hR : R = finK k (withN n (rTail s (pVal s f) nb least (asM a1) (asM a2) (most - j) j l i2 p2))) (hj : j < most)
  (hbrk : (decide (least ≤ j) && isB s i2 41) = false) (hi : i2 ≤ s.size) (hp1 : p < p2) (hp2 : p2 ≤ 256) :
  ∃ (i3 : Nat) (b3 : Bool), (if decide (0 < j) || nb then sgn s 44 i2 false else (i2, false)) = (i3, b3) ∧ i3 ≤ s.size ∧ NextR s f k p n R l nb least most a1 a2 j (if j = 0 then a1 else a2) i3 p2 b3 := by
 have e : most - j = (most - (j + 1)) + 1 := by omega
 have em : (if j = 0 then asM a1 else asM a2) = asM (if j = 0 then a1 else a2) := by split <;> rfl
 rw [e, rTail, hbrk, em] at hR
 rw [if_neg (by simp)] at hR
 cases hc : (decide (0 < j) || nb) with
 | false =>
  rw [hc] at hR
  rw [if_neg (by simp)] at hR ⊢
  exact ⟨i2, false, rfl, hi, .inr ⟨rfl, hp1, hp2, hR⟩⟩
 | true =>
  rw [hc, if_pos rfl] at hR
  rw [if_pos rfl]
  cases h44 : isB s i2 44 with
  | true =>
   have := isB_lt (by omega) h44
   rw [h44, if_pos rfl] at hR
   exact ⟨i2 + 1, false, by rw [sgn, h44]; rfl, by omega, .inr ⟨rfl, hp1, hp2, hR⟩⟩
  | false =>
   rw [h44, if_neg (by simp)] at hR
   exact ⟨i2, true, by rw [sgn, h44]; rfl, hi, .inl ⟨rfl, hR⟩⟩
/-- One value more, or a wrong place: how the call ends. -/
def ValNext (s : ByteArray) (f k p : Nat) (n : Int) (R : Except Nat (VT × Nat × Nat)) (l : List VT) (nb : Bool) (least most : Nat) (a1 a2 : Int) (j : Nat) (w : World) (e : Ending) (w' : World) : Prop :=
 ∃ (i4 p4 : Int) (b4 : Bool) (k3 n3 : Int) (a3 : Option Addr) (l3 c3 : Nat), e = .returned (.tuple #[.agg #[.string s, .int .i64 i4, .int .i64 p4, .bool b4], .agg #[.int .i64 k3, .int .i64 n3, .slice a3 l3 c3]]) ∧ Below w.heap.size w w' ∧
  ((b4 = true ∧ ∃ e : Nat, i4 = e ∧ R = .error e) ∨ (b4 = false ∧ ∃ (i5 p5 : Nat) (t : VT), i4 = i5 ∧ p4 = p5 ∧ i5 ≤ s.size ∧ p < p5 ∧ p5 ≤ 256 ∧ IsV (fun g => w.heap.size ≤ g ∧ g < w'.heap.size) w' t (.agg #[.int .i64 k3, .int .i64 n3, .slice a3 l3 c3]) ∧
   R = finK k (withN n (rTail s (pVal s f) nb least (asM a1) (asM a2) (most - (j + 1)) (j + 1) (l ++ [t]) i5 p5))))
theorem value_next {s : ByteArray} {f k p : Nat} {n : Int} {R : Except Nat (VT × Nat × Nat)} {l : List VT} {nb : Bool} {least most : Nat} {a1 a2 : Int} {j : Nat} {one : Int} {i3 p3 : Nat} {b3 : Bool} (hV : RValC s f) (h : NextR s f k p n R l nb least most a1 a2 j one i3 p3 b3) (ho : one = 0 ∨ one = 1 ∨ one = 2) (hi : i3 ≤ s.size) (hpf : 256 ≤ p + 1 + f) (w : World) :
  Calls Tryz.prog 79 #[.agg #[.string s, .int .i64 (i3 : Int), .int .i64 (p3 : Int), .bool b3], .int .i64 one] w (ValNext s f k p n R l nb least most a1 a2 j w) := by
 rcases h with ⟨rfl, hR⟩ | ⟨rfl, hp1, hp2, hR⟩
 ·refine (rvalue_bad s i3 p3 one w).mono ?_
  rintro e w' ⟨rfl, hb⟩
  exact ⟨_, _, _, _, _, _, _, _, rfl, hb, .inl ⟨rfl, i3, rfl, hR⟩⟩
 ·refine (hV one i3 p3 w ho hi hp2 (by omega)).mono ?_
  intro e w' h
  rcases hx : pVal s f (asM one) i3 p3 with j' | ⟨t, i5, p5⟩
  ·rw [hx] at h hR
   obtain ⟨p', k3, n3, a3, l3, c3, rfl, hb⟩ := h
   exact ⟨_, _, _, _, _, _, _, _, rfl, hb, .inl ⟨rfl, j', rfl, hR⟩⟩
  ·have hgo := pVal_goes s f (asM one) i3 p3 t i5 p5 hi hp2 hx
   rw [hx] at h hR
   obtain ⟨v, rfl, hv, hb⟩ := h
   have hv2 := hv
   obtain ⟨kk, nn, ll⟩ := t
   rw [IsV] at hv2
   obtain ⟨a3, c3, rfl, -⟩ := hv2
   exact ⟨_, _, _, _, _, _, _, _, rfl, hb, .inr ⟨rfl, i5, p5, _, rfl, rfl, by omega, by omega, by omega, hv, hR⟩⟩

end Go.Proofs.YtjldbbcdhdfliaaGreatDoor
