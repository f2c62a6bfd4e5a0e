/-
 Walks over the reference of layer 4: Int, event, shape, shapes, same. Printed by gen_ref4.py.
-/
import Derived.Test.YtjldbbcdhdfliaaGreatDoorRdA
namespace Go.Proofs.YtjldbbcdhdfliaaGreatDoor
open Go.RowKit

theorem bdN {B : Nat} {a w : World} (h : Below B a w) (n : Nat) : Below B a (w.drewN n) := ⟨h.os, h.tape, h.output, h.size, h.block⟩

set_option maxHeartbeats 400000 in
theorem rInt_any (n : Int) (w : World) :
  Calls Tryz.prog 29 #[.int .i64 n] w fun e w' => e = .returned (.agg #[.int .i64 2, .int .i64 n, .slice none 0 0]) ∧ Below w.heap.size w w' := by
 go_enter Tryz.func29, Tryz.ntmps29
 go_wp2_with fail
 exact bodyPost_ret (v := .agg #[.int .i64 2, .int .i64 n, .slice none 0 0]) (by simp [results, Tryz.results29, go_sem]) rfl ⟨rfl, (Below.refl _ _).alloc (Nat.le_refl _) _⟩

set_option maxHeartbeats 400000 in
theorem revent_any (k : Int) (w : World) :
  Calls Tryz.prog 160 #[.int .i64 k] w fun e w' => e = .returned (.bool (isEv k)) ∧ w = w' := by
 by_cases h5 : 5 ≤ k
 ·go_enter Tryz.func160, Tryz.ntmps160
  go_wp2_with fail
  go_ret
  exact ⟨ret_bool (by simp [isEv, h5]), rfl⟩
 ·go_enter Tryz.func160, Tryz.ntmps160
  go_wp2_with fail
  go_ret
  exact ⟨ret_bool (by simp [isEv]; omega), rfl⟩

set_option maxRecDepth 100000 in
set_option maxHeartbeats 1000000 in
theorem rsame_any (m : Nat) : ∀ (t t' : VT) (v v' : Value) (w : World), SizeOf.sizeOf t ≤ m → IsV (· < w.heap.size) w t v → IsV (· < w.heap.size) w t' v' →
  Calls Tryz.prog 80 #[v, v'] w fun e w' => e = .returned (.bool (eqT t t')) ∧ Below w.heap.size w w' := by
 induction m with
 | zero => intro t; cases t; simp
 | succ m ih =>
  intro t t' v v' w hk hv hv'
  obtain ⟨kd, nn, l⟩ := t
  obtain ⟨kd', nn', l'⟩ := t'
  rw [IsV] at hv hv'
  obtain ⟨a, cap, rfl, hkr, hnr, hl, hcap, hrow⟩ := hv
  obtain ⟨a', cap', rfl, hkr', hnr', hl', hcap', hrow'⟩ := hv'
  unfold maxLen at hcap hcap'
  have HI := Lib.hid ih
  clear ih
  by_cases hk1 : kd = kd'
  ·subst hk1
   by_cases hn1 : nn = nn'
   ·subst hn1
    by_cases hl1 : l.length = l'.length
    ·have HL1 := Lib.hid hl1
     rw [← hl1] at hl' ⊢
     clear hl1
     go_enter Tryz.func80, Tryz.ntmps80
     go_wp2_with fail
     go_loopw [5] (fun i wr => ∃ (j : Nat), j ≤ l.length ∧ i = .int .i64 j ∧ eqL l l' = eqL (l.drop j) (l'.drop j) ∧ Below w.heap.size w wr ∧ w.heap.size + 2 ≤ wr.heap.size ∧ wr.cell? ⟨w.heap.size, 2, none⟩ = some (.slice a l.length cap) ∧ wr.cell? ⟨w.heap.size + 1, 2, none⟩ = some (.slice a' l.length cap')) (fun i _ => l.length - (intOf i).toNat)
     case atStart => exact ⟨0, by omega, rfl, rfl, (below_alloc _ _).trans ((below_alloc _ _).mono (by simp)), by simp, by simp [go_sem], by simp [go_sem]⟩
     case round =>
      obtain ⟨j, hj, rfl, hc, hb, hsz, e1, e2⟩ := hrel
      have HC := Lib.hid hc
      clear hc
      by_cases hlt : j < l.length
      ·have hlt' : j < l'.length := by rw [← HL1.out]; exact hlt
       obtain ⟨kk, n2, ll, g, o, b', c', hlj, rfl, hg, c0, c1, c2, ht⟩ := hrow.at_ hlt
       obtain ⟨kk', n2', ll', g', o', b'', c'', hlj', rfl, hg', c0', c1', c2', ht'⟩ := hrow'.at_ hlt'
       have d0 := (hb.cell (p := ⟨g, o + j * 3, none⟩) hg).trans c0
       have d1 := (hb.cell (p := ⟨g, o + j * 3 + 1, none⟩) hg).trans c1
       have d2 := (hb.cell (p := ⟨g, o + j * 3 + 2, none⟩) hg).trans c2
       have d0' := (hb.cell (p := ⟨g', o' + j * 3, none⟩) hg').trans c0'
       have d1' := (hb.cell (p := ⟨g', o' + j * 3 + 1, none⟩) hg').trans c1'
       have d2' := (hb.cell (p := ⟨g', o' + j * 3 + 2, none⟩) hg').trans c2'
       have HL := Lib.hid hlj
       have HL' := Lib.hid hlj'
       clear hlj c0 c1 c2 hlj' c0' c1' c2'
       go_wp2_with fail
       go_still_tail 10, (by kernel_rfl)
       go_wp2_with fail
       have hbd : Below w.heap.size w wr.drew := hb.drew
       refine (HI.out (.mk kk n2 ll) (.mk kk' n2' ll') _ _ _ (sz_lt (HL.out ▸ List.getElem_mem hlt) hk) (ht.later hbd) (ht'.later hbd)).mono ?_
       rintro e w2 ⟨rfl, hb2⟩
       have hbw : Below w.heap.size w w2 := hbd.trans (hb2.mono hbd.size)
       have hsz2 : w.heap.size + 2 ≤ w2.heap.size := by have := hb2.size; simp at this; omega
       have e1' : w2.cell? ⟨w.heap.size, 2, none⟩ = some (.slice (some ⟨g, o, none⟩) l.length cap) := (hb2.cell (p := ⟨w.heap.size, 2, none⟩) (by simp; omega)).trans e1
       have e2' : w2.cell? ⟨w.heap.size + 1, 2, none⟩ = some (.slice (some ⟨g', o', none⟩) l.length cap') := (hb2.cell (p := ⟨w.heap.size + 1, 2, none⟩) (by simp; omega)).trans e2
       clear hb2 e1 e2 hbd
       have hfin : eqL l l' = (eqT (.mk kk n2 ll) (.mk kk' n2' ll') && eqL (l.drop (j + 1)) (l'.drop (j + 1))) := by
        rw [HC.out, List.drop_eq_getElem_cons hlt, List.drop_eq_getElem_cons hlt', eqL, HL.out, HL'.out]
       have HF := Lib.hid hfin
       clear hfin
       generalize eqT (.mk kk n2 ll) (.mk kk' n2' ll') = bb at *
       cases bb
       ·go_wp2_with fail
        go_ret
        refine ⟨ret_bool ?_, hbw⟩
        rw [eqT, HF.out]; simp
       ·go_wp2_with fail
        go_roundw
        case rel => exact ⟨j + 1, by omega, by go_num, by rw [HF.out]; rfl, hbw, hsz2, e1', e2'⟩
        case measure => simp [intOf]; omega
      ·go_wp2_with fail
       go_ret
       refine ⟨ret_bool ?_, hb⟩
       rw [eqT, HC.out, List.drop_of_length_le (by omega)]; simp [HL1.out, eqL]
    ·have e1 : ((l.length : Int) == (l'.length : Int)) = false := by simp; omega
     have e2 : ((l.length : Int) != (l'.length : Int)) = true := by simp; omega
     go_enter Tryz.func80, Tryz.ntmps80
     go_wp2_with fail
     go_ret
     exact ⟨ret_bool (by simp [eqT, hl1]), (below_alloc _ _).trans ((below_alloc _ _).mono (by simp))⟩
   ·have e1 : (nn == nn') = false := by simpa using hn1
    have e2 : (nn != nn') = true := by simpa using hn1
    go_enter Tryz.func80, Tryz.ntmps80
    go_wp2_with fail
    go_ret
    exact ⟨ret_bool (by simp [eqT, hn1]), (below_alloc _ _).trans ((below_alloc _ _).mono (by simp))⟩
  ·have e1 : (kd == kd') = false := by simpa using hk1
   have e2 : (kd != kd') = true := by simpa using hk1
   go_enter Tryz.func80, Tryz.ntmps80
   go_wp2_with fail
   go_ret
   exact ⟨ret_bool (by simp [eqT, hk1]), (below_alloc _ _).trans ((below_alloc _ _).mono (by simp))⟩

set_option maxHeartbeats 1000000 in
theorem rshape_no (k n : Int) (l : List VT) (a : Option Addr) (cap : Nat) (w : World) (_hl : l.length ≤ cap) (_hcap : cap ≤ maxLen)
  (hk : ∀ i : Int, 1 ≤ i → i ≤ 13 → k ≠ i) :
  Calls Tryz.prog 136 #[.agg #[.int .i64 k, .int .i64 n, .slice a l.length cap]] w fun e w' => e = .returned (.bool (shp k n l)) ∧ Below w.heap.size w w' := by
 unfold maxLen at _hcap
 have e1 : (k == 1) = false := beq_eq_false_iff_ne.2 (hk 1 (by omega) (by omega))
 have e2 : (k == 2) = false := beq_eq_false_iff_ne.2 (hk 2 (by omega) (by omega))
 have e3 : (k == 3) = false := beq_eq_false_iff_ne.2 (hk 3 (by omega) (by omega))
 have e4 : (k == 4) = false := beq_eq_false_iff_ne.2 (hk 4 (by omega) (by omega))
 have e5 : (k == 5) = false := beq_eq_false_iff_ne.2 (hk 5 (by omega) (by omega))
 have e6 : (k == 6) = false := beq_eq_false_iff_ne.2 (hk 6 (by omega) (by omega))
 have e7 : (k == 7) = false := beq_eq_false_iff_ne.2 (hk 7 (by omega) (by omega))
 have e8 : (k == 8) = false := beq_eq_false_iff_ne.2 (hk 8 (by omega) (by omega))
 have e9 : (k == 9) = false := beq_eq_false_iff_ne.2 (hk 9 (by omega) (by omega))
 have e10 : (k == 10) = false := beq_eq_false_iff_ne.2 (hk 10 (by omega) (by omega))
 have e11 : (k == 11) = false := beq_eq_false_iff_ne.2 (hk 11 (by omega) (by omega))
 have e12 : (k == 12) = false := beq_eq_false_iff_ne.2 (hk 12 (by omega) (by omega))
 have e13 : (k == 13) = false := beq_eq_false_iff_ne.2 (hk 13 (by omega) (by omega))
 have HE : Hid (false = shp k n l) := by
  unfold shp shpN
  rw [if_neg, if_neg, if_neg, if_neg, if_neg, if_neg, if_neg, if_neg, if_neg, if_neg]
  ·exact rfl
  all_goals (have := hk 1 (by omega) (by omega); have := hk 2 (by omega) (by omega); have := hk 3 (by omega) (by omega); have := hk 4 (by omega) (by omega); have := hk 5 (by omega) (by omega); have := hk 6 (by omega) (by omega); have := hk 7 (by omega) (by omega); have := hk 8 (by omega) (by omega); have := hk 9 (by omega) (by omega); have := hk 10 (by omega) (by omega); have := hk 11 (by omega) (by omega); have := hk 12 (by omega) (by omega); have := hk 13 (by omega) (by omega); omega)
 clear hk
 go_enter Tryz.func136, Tryz.ntmps136
 go_wp2_with fail
 have hbx := Bx.new w 27 (.int .i64 k) (.int .i64 n) (.slice a l.length cap)
 have hb0 := below_alloc w (.cells #[.int .i64 k, .int .i64 n, .slice a l.length cap] 27)
 generalize w.alloc (.cells #[.int .i64 k, .int .i64 n, .slice a l.length cap] 27) = w0 at *
 have q0 := hbx.c0
 have q1 := hbx.c1
 have q2 := hbx.c2
 have qlt := hbx.lt
 go_quiet (fail)
 go_wp2_with fail
 go_ret
 exact ⟨ret_bool HE.out, bdN hb0 _⟩


set_option maxHeartbeats 1000000 in
theorem rshape_plain (k n : Int) (l : List VT) (a : Option Addr) (cap : Nat) (w : World) (_hl : l.length ≤ cap) (_hcap : cap ≤ maxLen)
  (hk : k = 1 ∨ k = 8 ∨ k = 2 ∨ k = 3 ∨ k = 4 ∨ k = 13 ∨ k = 7 ∨ k = 11 ∨ k = 12) :
  Calls Tryz.prog 136 #[.agg #[.int .i64 k, .int .i64 n, .slice a l.length cap]] w fun e w' => e = .returned (.bool (shp k n l)) ∧ Below w.heap.size w w' := by
 unfold maxLen at _hcap
 unfold shp
 generalize fstKd l = fk
 generalize (l.all fun t => isEv t.kd) = ev
 generalize l.length = len at *
 rcases hk with rfl | rfl | rfl | rfl | rfl | rfl | rfl | rfl | rfl
 ·go_enter Tryz.func136, Tryz.ntmps136
  go_wp2_with fail
  have hbx := Bx.new w 27 (.int .i64 1) (.int .i64 n) (.slice a len cap)
  have hb0 := below_alloc w (.cells #[.int .i64 1, .int .i64 n, .slice a len cap] 27)
  generalize w.alloc (.cells #[.int .i64 1, .int .i64 n, .slice a len cap] 27) = w0 at *
  have q0 := hbx.c0
  have q1 := hbx.c1
  have q2 := hbx.c2
  have qlt := hbx.lt
  go_quiet (fail)
  go_wp2_with fail
  all_goals go_ret
  all_goals refine ⟨ret_bool ?_, bdN hb0 _⟩
  all_goals (rw [Bool.eq_iff_iff]; simp [shpN]; try omega)
 ·go_enter Tryz.func136, Tryz.ntmps136
  go_wp2_with fail
  have hbx := Bx.new w 27 (.int .i64 8) (.int .i64 n) (.slice a len cap)
  have hb0 := below_alloc w (.cells #[.int .i64 8, .int .i64 n, .slice a len cap] 27)
  generalize w.alloc (.cells #[.int .i64 8, .int .i64 n, .slice a len cap] 27) = w0 at *
  have q0 := hbx.c0
  have q1 := hbx.c1
  have q2 := hbx.c2
  have qlt := hbx.lt
  go_quiet (fail)
  go_wp2_with fail
  all_goals go_ret
  all_goals refine ⟨ret_bool ?_, bdN hb0 _⟩
  all_goals (rw [Bool.eq_iff_iff]; simp [shpN]; try omega)
 ·go_enter Tryz.func136, Tryz.ntmps136
  go_wp2_with fail
  have hbx := Bx.new w 27 (.int .i64 2) (.int .i64 n) (.slice a len cap)
  have hb0 := below_alloc w (.cells #[.int .i64 2, .int .i64 n, .slice a len cap] 27)
  generalize w.alloc (.cells #[.int .i64 2, .int .i64 n, .slice a len cap] 27) = w0 at *
  have q0 := hbx.c0
  have q1 := hbx.c1
  have q2 := hbx.c2
  have qlt := hbx.lt
  go_quiet (fail)
  go_wp2_with fail
  all_goals go_ret
  all_goals refine ⟨ret_bool ?_, bdN hb0 _⟩
  all_goals (rw [Bool.eq_iff_iff]; simp [shpN]; try omega)
 ·go_enter Tryz.func136, Tryz.ntmps136
  go_wp2_with fail
  have hbx := Bx.new w 27 (.int .i64 3) (.int .i64 n) (.slice a len cap)
  have hb0 := below_alloc w (.cells #[.int .i64 3, .int .i64 n, .slice a len cap] 27)
  generalize w.alloc (.cells #[.int .i64 3, .int .i64 n, .slice a len cap] 27) = w0 at *
  have q0 := hbx.c0
  have q1 := hbx.c1
  have q2 := hbx.c2
  have qlt := hbx.lt
  go_quiet (fail)
  go_wp2_with fail
  all_goals go_ret
  all_goals refine ⟨ret_bool ?_, bdN hb0 _⟩
  all_goals (rw [Bool.eq_iff_iff]; simp [shpN]; try omega)
 ·go_enter Tryz.func136, Tryz.ntmps136
  go_wp2_with fail
  have hbx := Bx.new w 27 (.int .i64 4) (.int .i64 n) (.slice a len cap)
  have hb0 := below_alloc w (.cells #[.int .i64 4, .int .i64 n, .slice a len cap] 27)
  generalize w.alloc (.cells #[.int .i64 4, .int .i64 n, .slice a len cap] 27) = w0 at *
  have q0 := hbx.c0
  have q1 := hbx.c1
  have q2 := hbx.c2
  have qlt := hbx.lt
  go_quiet (fail)
  go_wp2_with fail
  all_goals go_ret
  all_goals refine ⟨ret_bool ?_, bdN hb0 _⟩
  all_goals (rw [Bool.eq_iff_iff]; simp [shpN]; try omega)
 ·go_enter Tryz.func136, Tryz.ntmps136
  go_wp2_with fail
  have hbx := Bx.new w 27 (.int .i64 13) (.int .i64 n) (.slice a len cap)
  have hb0 := below_alloc w (.cells #[.int .i64 13, .int .i64 n, .slice a len cap] 27)
  generalize w.alloc (.cells #[.int .i64 13, .int .i64 n, .slice a len cap] 27) = w0 at *
  have q0 := hbx.c0
  have q1 := hbx.c1
  have q2 := hbx.c2
  have qlt := hbx.lt
  go_quiet (fail)
  go_wp2_with fail
  all_goals go_ret
  all_goals refine ⟨ret_bool ?_, bdN hb0 _⟩
  all_goals (rw [Bool.eq_iff_iff]; simp [shpN]; try omega)
 ·go_enter Tryz.func136, Tryz.ntmps136
  go_wp2_with fail
  have hbx := Bx.new w 27 (.int .i64 7) (.int .i64 n) (.slice a len cap)
  have hb0 := below_alloc w (.cells #[.int .i64 7, .int .i64 n, .slice a len cap] 27)
  generalize w.alloc (.cells #[.int .i64 7, .int .i64 n, .slice a len cap] 27) = w0 at *
  have q0 := hbx.c0
  have q1 := hbx.c1
  have q2 := hbx.c2
  have qlt := hbx.lt
  go_quiet (fail)
  go_wp2_with fail
  all_goals go_ret
  all_goals refine ⟨ret_bool ?_, bdN hb0 _⟩
  all_goals (rw [Bool.eq_iff_iff]; simp [shpN]; try omega)
 ·go_enter Tryz.func136, Tryz.ntmps136
  go_wp2_with fail
  have hbx := Bx.new w 27 (.int .i64 11) (.int .i64 n) (.slice a len cap)
  have hb0 := below_alloc w (.cells #[.int .i64 11, .int .i64 n, .slice a len cap] 27)
  generalize w.alloc (.cells #[.int .i64 11, .int .i64 n, .slice a len cap] 27) = w0 at *
  have q0 := hbx.c0
  have q1 := hbx.c1
  have q2 := hbx.c2
  have qlt := hbx.lt
  go_quiet (fail)
  go_wp2_with fail
  all_goals go_ret
  all_goals refine ⟨ret_bool ?_, bdN hb0 _⟩
  all_goals (rw [Bool.eq_iff_iff]; simp [shpN]; try omega)
 ·go_enter Tryz.func136, Tryz.ntmps136
  go_wp2_with fail
  have hbx := Bx.new w 27 (.int .i64 12) (.int .i64 n) (.slice a len cap)
  have hb0 := below_alloc w (.cells #[.int .i64 12, .int .i64 n, .slice a len cap] 27)
  generalize w.alloc (.cells #[.int .i64 12, .int .i64 n, .slice a len cap] 27) = w0 at *
  have q0 := hbx.c0
  have q1 := hbx.c1
  have q2 := hbx.c2
  have qlt := hbx.lt
  go_quiet (fail)
  go_wp2_with fail
  all_goals go_ret
  all_goals refine ⟨ret_bool ?_, bdN hb0 _⟩
  all_goals (rw [Bool.eq_iff_iff]; simp [shpN]; try omega)

set_option maxHeartbeats 1000000 in
theorem rshape_first (k n : Int) (l : List VT) (a : Option Addr) (cap : Nat) (w : World) (_hl : l.length ≤ cap) (_hcap : cap ≤ maxLen)
  (hrow : IsR (· < w.heap.size) w l a 0) (hk : k = 5 ∨ k = 6 ∨ k = 10) :
  Calls Tryz.prog 136 #[.agg #[.int .i64 k, .int .i64 n, .slice a l.length cap]] w fun e w' => e = .returned (.bool (shp k n l)) ∧ Below w.heap.size w w' := by
 unfold maxLen at _hcap
 unfold shp
 generalize (l.all fun t => isEv t.kd) = ev
 by_cases h0 : 0 < l.length
 ·obtain ⟨kk, n2, ll, g, o, a', cap', hlj, rfl, hg, c0, c1, c2, ht⟩ := hrow.at_ h0
  have hf := fstKd_zero h0 rfl hlj
  rw [hf]
  clear hf hlj c1 c2 ht
  rw [Nat.zero_mul, Nat.add_zero] at c0
  generalize l.length = len at *
  rcases hk with rfl | rfl | rfl
  ·go_enter Tryz.func136, Tryz.ntmps136
   go_wp2_with fail
   have hbx := Bx.new w 27 (.int .i64 5) (.int .i64 n) (.slice (some ⟨g, o, none⟩) len cap)
   have hb0 := below_alloc w (.cells #[.int .i64 5, .int .i64 n, .slice (some ⟨g, o, none⟩) len cap] 27)
   generalize w.alloc (.cells #[.int .i64 5, .int .i64 n, .slice (some ⟨g, o, none⟩) len cap] 27) = w0 at *
   have r0 := (hb0.cell (p := ⟨g, o, none⟩) hg).trans c0
   have q0 := hbx.c0
   have q1 := hbx.c1
   have q2 := hbx.c2
   have qlt := hbx.lt
   go_quiet (fail)
   go_wp2_with (go_at_call 160; refine (revent_any _ _).mono ?_; rintro e w' ⟨rfl, rfl⟩)
   all_goals go_ret
   all_goals refine ⟨ret_bool ?_, bdN hb0 _⟩
   all_goals (rw [Bool.eq_iff_iff]; simp [shpN]; try omega)
  ·go_enter Tryz.func136, Tryz.ntmps136
   go_wp2_with fail
   have hbx := Bx.new w 27 (.int .i64 6) (.int .i64 n) (.slice (some ⟨g, o, none⟩) len cap)
   have hb0 := below_alloc w (.cells #[.int .i64 6, .int .i64 n, .slice (some ⟨g, o, none⟩) len cap] 27)
   generalize w.alloc (.cells #[.int .i64 6, .int .i64 n, .slice (some ⟨g, o, none⟩) len cap] 27) = w0 at *
   have r0 := (hb0.cell (p := ⟨g, o, none⟩) hg).trans c0
   have q0 := hbx.c0
   have q1 := hbx.c1
   have q2 := hbx.c2
   have qlt := hbx.lt
   go_quiet (fail)
   go_wp2_with (go_at_call 160; refine (revent_any _ _).mono ?_; rintro e w' ⟨rfl, rfl⟩)
   all_goals go_ret
   all_goals refine ⟨ret_bool ?_, bdN hb0 _⟩
   all_goals (rw [Bool.eq_iff_iff]; simp [shpN]; try omega)
  ·go_enter Tryz.func136, Tryz.ntmps136
   go_wp2_with fail
   have hbx := Bx.new w 27 (.int .i64 10) (.int .i64 n) (.slice (some ⟨g, o, none⟩) len cap)
   have hb0 := below_alloc w (.cells #[.int .i64 10, .int .i64 n, .slice (some ⟨g, o, none⟩) len cap] 27)
   generalize w.alloc (.cells #[.int .i64 10, .int .i64 n, .slice (some ⟨g, o, none⟩) len cap] 27) = w0 at *
   have r0 := (hb0.cell (p := ⟨g, o, none⟩) hg).trans c0
   have q0 := hbx.c0
   have q1 := hbx.c1
   have q2 := hbx.c2
   have qlt := hbx.lt
   go_quiet (fail)
   go_wp2_with (go_at_call 160; refine (revent_any _ _).mono ?_; rintro e w' ⟨rfl, rfl⟩)
   all_goals go_ret
   all_goals refine ⟨ret_bool ?_, bdN hb0 _⟩
   all_goals (rw [Bool.eq_iff_iff]; simp [shpN]; try omega)
 ·have h1 : l.length = 0 := by omega
  rw [h1] at *
  rcases hk with rfl | rfl | rfl
  ·go_enter Tryz.func136, Tryz.ntmps136
   go_wp2_with fail
   have hbx := Bx.new w 27 (.int .i64 5) (.int .i64 n) (.slice a 0 cap)
   have hb0 := below_alloc w (.cells #[.int .i64 5, .int .i64 n, .slice a 0 cap] 27)
   generalize w.alloc (.cells #[.int .i64 5, .int .i64 n, .slice a 0 cap] 27) = w0 at *
   have q0 := hbx.c0
   have q1 := hbx.c1
   have q2 := hbx.c2
   have qlt := hbx.lt
   go_quiet (fail)
   go_wp2_with fail
   all_goals go_ret
   all_goals refine ⟨ret_bool ?_, bdN hb0 _⟩
   all_goals (rw [Bool.eq_iff_iff]; simp [shpN])
  ·go_enter Tryz.func136, Tryz.ntmps136
   go_wp2_with fail
   have hbx := Bx.new w 27 (.int .i64 6) (.int .i64 n) (.slice a 0 cap)
   have hb0 := below_alloc w (.cells #[.int .i64 6, .int .i64 n, .slice a 0 cap] 27)
   generalize w.alloc (.cells #[.int .i64 6, .int .i64 n, .slice a 0 cap] 27) = w0 at *
   have q0 := hbx.c0
   have q1 := hbx.c1
   have q2 := hbx.c2
   have qlt := hbx.lt
   go_quiet (fail)
   go_wp2_with fail
   all_goals go_ret
   all_goals refine ⟨ret_bool ?_, bdN hb0 _⟩
   all_goals (rw [Bool.eq_iff_iff]; simp [shpN])
  ·go_enter Tryz.func136, Tryz.ntmps136
   go_wp2_with fail
   have hbx := Bx.new w 27 (.int .i64 10) (.int .i64 n) (.slice a 0 cap)
   have hb0 := below_alloc w (.cells #[.int .i64 10, .int .i64 n, .slice a 0 cap] 27)
   generalize w.alloc (.cells #[.int .i64 10, .int .i64 n, .slice a 0 cap] 27) = w0 at *
   have q0 := hbx.c0
   have q1 := hbx.c1
   have q2 := hbx.c2
   have qlt := hbx.lt
   go_quiet (fail)
   go_wp2_with fail
   all_goals go_ret
   all_goals refine ⟨ret_bool ?_, bdN hb0 _⟩
   all_goals (rw [Bool.eq_iff_iff]; simp [shpN])
set_option maxHeartbeats 1000000 in
theorem rshape_choose (n : Int) (l : List VT) (a : Option Addr) (cap : Nat) (w : World) (hl : l.length ≤ cap) (hcap : cap ≤ maxLen)
  (hrow : IsR (· < w.heap.size) w l a 0) :
  Calls Tryz.prog 136 #[.agg #[.int .i64 9, .int .i64 n, .slice a l.length cap]] w fun e w' => e = .returned (.bool (shp 9 n l)) ∧ Below w.heap.size w w' := by
 unfold maxLen at hcap
 go_enter Tryz.func136, Tryz.ntmps136
 go_wp2_with fail
 have hbx := Bx.new w 27 (.int .i64 9) (.int .i64 n) (.slice a l.length cap)
 have hb0 := below_alloc w (.cells #[.int .i64 9, .int .i64 n, .slice a l.length cap] 27)
 generalize w.alloc (.cells #[.int .i64 9, .int .i64 n, .slice a l.length cap] 27) = w0 at *
 have q0 := hbx.c0
 have q1 := hbx.c1
 have q2 := hbx.c2
 have qlt := hbx.lt
 go_quiet (fail)
 go_wp2_with fail
 go_loopw [5] (fun i wr => ∃ (j : Nat), j ≤ l.length ∧ i = .int .i64 j ∧ (l.all fun t => isEv t.kd) = ((l.drop j).all fun t => isEv t.kd) ∧ Below w.heap.size w wr ∧ w.heap.size + 1 ≤ wr.heap.size ∧ Bx wr w.heap.size 27 (.int .i64 9) (.int .i64 n) (.slice a l.length cap)) (fun i _ => l.length - (intOf i).toNat)
 case atStart => exact ⟨0, by omega, rfl, rfl, bdN hb0 _, by show w.heap.size < (w0.drewN _).heap.size; exact qlt, hbx.drewN _⟩
 case round =>
  obtain ⟨j, hj, rfl, hc, hb, hsz, hx⟩ := hrel
  clear q0 q1 q2
  have q1 := hx.c1
  have q2 := hx.c2
  have HC := Lib.hid hc
  clear hc
  by_cases hlt : j < l.length
  ·obtain ⟨kk, n2, ll, g, o, a', cap', hlj, rfl, hg, c0, c1, c2, ht⟩ := hrow.at_ hlt
   have d0 := (hb.cell (p := ⟨g, o + j * 3, none⟩) hg).trans c0
   have d1 := (hb.cell (p := ⟨g, o + j * 3 + 1, none⟩) hg).trans c1
   have d2 := (hb.cell (p := ⟨g, o + j * 3 + 2, none⟩) hg).trans c2
   have HL := Lib.hid hlj
   clear hlj c0 c1 c2 ht
   cases hev : isEv kk
   ·go_wp2_with (go_at_call 160; refine (revent_any _ _).mono ?_; rintro e w' ⟨rfl, rfl⟩)
    go_ret
    refine ⟨ret_bool ?_, hb⟩
    have : (l.all fun t => isEv t.kd) = false := by rw [HC.out, all_drop hlt, HL.out, VT.kd, hev, Bool.false_and]
    simp [shp, shpN, this]
   ·go_wp2_with (go_at_call 160; refine (revent_any _ _).mono ?_; rintro e w' ⟨rfl, rfl⟩)
    go_roundw
    case rel =>
     refine ⟨j + 1, by omega, by go_num, ?_, hb, hsz, hx⟩
     ·rw [HC.out, all_drop hlt, HL.out, VT.kd, hev, Bool.true_and]
    case measure => simp [intOf]; omega
  ·have hev : (l.all fun t => isEv t.kd) = true := by rw [HC.out, List.drop_of_length_le (by omega)]; rfl
   have HV := Lib.hid hev
   clear hev
   go_wp2_with fail
   all_goals go_ret
   all_goals refine ⟨ret_bool ?_, hb⟩
   all_goals (rw [Bool.eq_iff_iff]; simp only [shp, HV.out]; simp [shpN]; try omega)

theorem rshape_any (k n : Int) (l : List VT) (a : Option Addr) (cap : Nat) (w : World) (hl : l.length ≤ cap) (hcap : cap ≤ maxLen)
  (hrow : IsR (· < w.heap.size) w l a 0) :
  Calls Tryz.prog 136 #[.agg #[.int .i64 k, .int .i64 n, .slice a l.length cap]] w fun e w' => e = .returned (.bool (shp k n l)) ∧ Below w.heap.size w w' := by
 by_cases h1 : 1 ≤ k ∧ k ≤ 13
 ·have : (k = 1 ∨ k = 8 ∨ k = 2 ∨ k = 3 ∨ k = 4 ∨ k = 13 ∨ k = 7 ∨ k = 11 ∨ k = 12) ∨ (k = 5 ∨ k = 6 ∨ k = 10) ∨ k = 9 := by omega
  rcases this with h | h | rfl
  ·exact rshape_plain k n l a cap w hl hcap h
  ·exact rshape_first k n l a cap w hl hcap hrow h
  ·exact rshape_choose n l a cap w hl hcap hrow
 ·exact rshape_no k n l a cap w hl hcap (fun i h2 h3 h4 => h1 (by omega))

set_option maxHeartbeats 1000000 in
theorem rshapes_any (m : Nat) : ∀ (t : VT) (v : Value) (w : World), SizeOf.sizeOf t ≤ m → IsV (· < w.heap.size) w t v →
  Calls Tryz.prog 113 #[v] w fun e w' => e = .returned (.bool (shps t)) ∧ Below w.heap.size w w' := by
 induction m with
 | zero => intro t; cases t; simp
 | succ m ih =>
  intro t v w hk hv
  obtain ⟨kd, nn, l⟩ := t
  rw [IsV] at hv
  obtain ⟨a, cap, rfl, hkr, hnr, hl, hcap, hrow⟩ := hv
  have hcap' := hcap
  unfold maxLen at hcap
  have hsh := fun (W : World) (hb : Below w.heap.size w W) => rshape_any kd nn l a cap W hl hcap' ((hrow.below hb).more fun _ hg => Nat.lt_of_lt_of_le hg hb.size)
  have HS := Lib.hid hsh
  clear hsh
  have HI := Lib.hid ih
  clear ih
  cases hs : shp kd nn l
  ·have HX := Lib.hid hs
   clear hs
   go_enter Tryz.func113, Tryz.ntmps113
   go_wp2_with fail
   refine (HS.out _ ((Below.refl _ _).alloc (Nat.le_refl _) _)).mono ?_
   rintro e w1 ⟨rfl, hb1⟩
   rw [HX.out]
   go_wp2_with fail
   go_ret
   refine ⟨ret_bool (by rw [shps, HX.out]; rfl), ((Below.refl _ _).alloc (Nat.le_refl _) _).trans (hb1.mono (by simp))⟩
  ·have HX := Lib.hid hs
   clear hs
   go_enter Tryz.func113, Tryz.ntmps113
   go_wp2_with fail
   refine (HS.out _ ((Below.refl _ _).alloc (Nat.le_refl _) _)).mono ?_
   rintro e w1 ⟨rfl, hb1⟩
   rw [HX.out]
   obtain ⟨hc, hf⟩ := bcell hb1
   have hx := (Bx.new w 27 (.int .i64 kd) (.int .i64 nn) (.slice a l.length cap)).belowAll hb1
   have hc2 := hx.c2
   have hbw : Below w.heap.size w w1 := ((Below.refl _ _).alloc (Nat.le_refl _) _).trans (hb1.mono (by simp))
   have hsz1 : w.heap.size + 1 ≤ w1.heap.size := by have := hb1.size; simpa using this
   clear hc hf hb1
   go_wp2_with fail
   go_loopw [3] (fun i wr => ∃ (j : Nat), j ≤ l.length ∧ i = .int .i64 j ∧ shpsL l = shpsL (l.drop j) ∧ Below w.heap.size w wr ∧ w.heap.size + 1 ≤ wr.heap.size ∧ Bx wr w.heap.size 27 (.int .i64 kd) (.int .i64 nn) (.slice a l.length cap)) (fun i _ => l.length - (intOf i).toNat)
   case atStart => exact ⟨0, by omega, rfl, rfl, hbw, hsz1, hx⟩
   case round =>
    obtain ⟨j, hj, rfl, hc, hb, hsz, hx⟩ := hrel
    clear hc2
    have hc2 := hx.c2
    have HC := Lib.hid hc
    clear hc
    by_cases hlt : j < l.length
    ·obtain ⟨kk, n2, ll, g, o, a', cap', hlj, rfl, hg, c0, c1, c2, ht⟩ := hrow.at_ hlt
     have d0 := (hb.cell (p := ⟨g, o + j * 3, none⟩) hg).trans c0
     have d1 := (hb.cell (p := ⟨g, o + j * 3 + 1, none⟩) hg).trans c1
     have d2 := (hb.cell (p := ⟨g, o + j * 3 + 2, none⟩) hg).trans c2
     have HL := Lib.hid hlj
     clear hlj c0 c1 c2
     cases hev : shps (.mk kk n2 ll)
     ·have HV := Lib.hid hev
      clear hev
      go_wp2_with fail
      refine (HI.out (.mk kk n2 ll) _ _ (sz_lt (HL.out ▸ List.getElem_mem hlt) hk) ?_).mono ?_
      ·exact (ht.below hb).lift (by omega)
      rintro e w2 ⟨rfl, hb2⟩
      rw [HV.out]
      go_wp2_with fail
      go_ret
      refine ⟨ret_bool ?_, hb.trans (hb2.mono (by omega))⟩
      rw [shps, HX.out, HC.out, List.drop_eq_getElem_cons hlt, shpsL, HL.out, HV.out]; rfl
     ·have HV := Lib.hid hev
      clear hev
      go_wp2_with fail
      refine (HI.out (.mk kk n2 ll) _ _ (sz_lt (HL.out ▸ List.getElem_mem hlt) hk) ?_).mono ?_
      ·exact (ht.below hb).lift (by omega)
      rintro e w2 ⟨rfl, hb2⟩
      rw [HV.out]
      go_wp2_with fail
      go_roundw
      case rel =>
       refine ⟨j + 1, by omega, by go_num, ?_, hb.trans (hb2.mono (by omega)), ?_, hx.belowAll hb2⟩
       ·rw [HC.out, List.drop_eq_getElem_cons hlt, shpsL, HL.out, HV.out]; rfl
       ·have := hb2.size; omega
      case measure => simp [intOf]; omega
    ·go_wp2_with fail
     go_ret
     refine ⟨ret_bool ?_, hb⟩
     rw [shps, HX.out, HC.out, List.drop_of_length_le (by omega)]; rfl
end Go.Proofs.YtjldbbcdhdfliaaGreatDoor
