/-
 Walks over package trace: wrongs.
-/
import Derived.Test.YtjldbbcdhdfliaaGreatDoorTkTl
import Derived.Test.YtjldbbcdhdfliaaGreatDoorRFun
import Derived.IntWalk
import Derived.Deep.QuietTactic
import Derived.BigQuiet
import Derived.Shelf.Abstract
import Derived.Shelf.RegionOpen
import Derived.OwnWalkIn
import Derived.TacticsInMore
import Derived.LoopNIn
import Derived.LoopIn
import Derived.Deep.Cut
import Derived.RegionTactic
namespace Go.Proofs.YtjldbbcdhdfliaaGreatDoor
open Go.RowKit Go.Shelf Go.Sort
attribute [local go_sem] Oper.semAt_some

/-- Is an event of a trace wrong there? -/
def wrongAt (l : List Ev) (i : Nat) : Bool := match l[i]? with
 | none => false
 | some x => !rightE x || (match i with
  | 0 => false
  | j + 1 => match l[j]? with
   | some y => decide (x.st < y.st)
   | none => false)
abbrev WV := Nat × Bool
def encW (x : WV) : Array Value := #[.int .i64 (x.1 : Int), .bool x.2]
def allW (l : List Ev) : List WV := (List.range l.length).map fun i => (i, wrongAt l i)
def GW (l : List Ev) (pre : List WV) (x : WV) (_ : World) : Prop := x = (pre.length, wrongAt l pre.length) ∧ pre = (allW l).take pre.length ∧ pre.length < l.length
def SW (l : List Ev) (xs : List WV) : Prop := xs = allW l
def SpW (l : List Ev) (pre : List WV) : Prop := ∃ k, k < l.length ∧ pre = (allW l).take (k + 1)
theorem allW_len (l : List Ev) : (allW l).length = l.length := by simp [allW]
theorem allW_take {l : List Ev} {k : Nat} (hk : k < l.length) : (allW l).take (k + 1) = (allW l).take k ++ [(k, wrongAt l k)] := by
 rw [List.take_succ_eq_append_getElem (by rw [allW_len]; exact hk)]
 simp [allW]
theorem take_len {l : List Ev} {k : Nat} (hk : k ≤ l.length) : ((allW l).take k).length = k := by rw [List.length_take, allW_len]; omega
theorem wrong_bad {l : List Ev} {k : Nat} {x : Ev} (hx : l[k]? = some x) (hr : rightE x = false) : wrongAt l k = true := by
 unfold wrongAt
 rw [hx]
 simp [hr]
theorem wrong_zero {l : List Ev} {x : Ev} (hx : l[0]? = some x) (hr : rightE x = true) : wrongAt l 0 = false := by
 unfold wrongAt
 rw [hx]
 simp [hr]
theorem wrong_succ {l : List Ev} {j : Nat} {x y : Ev} (hx : l[j + 1]? = some x) (hy : l[j]? = some y) (hr : rightE x = true) : wrongAt l (j + 1) = decide (x.st < y.st) := by
 unfold wrongAt
 rw [hx]
 simp [hr, hy]
set_option maxHeartbeats 1000000 in
theorem wrongs_any (b : Nat) (v1 : Option Addr) (n c : Nat) (w : World) : Calls Tryz.prog 81 #[.pointer (some ⟨b, 0, none⟩), .slice v1 n c] w fun e w' => e = .returned (.func (.func 112) #[] #[.pointer (some ⟨w.heap.size + 1, 0, none⟩), .pointer (some ⟨w.heap.size, 0, none⟩)]) ∧ w' = (w.alloc (.cells #[.pointer (some ⟨b, 0, none⟩)] 78)).alloc (.cells #[.slice v1 n c] 38) := by
 go_enter Tryz.func81, Tryz.ntmps81
 go_wp2_with fail
 go_ret
 exact ⟨rfl, rfl⟩
theorem grown_ofB {W W' : World} (h : Below W.heap.size W W') : W.grownBy W' none := ⟨h.os, h.tape, h.output, h.size, fun k hk _ => h.block k hk⟩
set_option maxRecDepth 100000 in
set_option maxHeartbeats 8000000 in
theorem wrongs_iter (m : Nat) (l : List Ev) (hll : l.length ≤ 1000000) (a : Option Addr) (cap : Nat) (lbx tbx b mb : Nat) (w : World) (hcl : w.cell? ⟨lbx, 0, none⟩ = some (.slice a l.length cap)) (hct : w.cell? ⟨tbx, 0, none⟩ = some (.pointer (some ⟨b, 0, none⟩))) (hT : TabT w b mb) (hE : IsEs (· < w.heap.size) w l a) :
  IterG Tryz.prog m 112 #[.pointer (some ⟨lbx, 0, none⟩), .pointer (some ⟨tbx, 0, none⟩)] encW (GW l) (SW l) (SpW l) (fun W => Below w.heap.size w W) w := by
 intro y J Jx W hW hJ hJx hJE hY h0
 have hcW : ∀ (V : World) (q : Addr) (u : Value), Below w.heap.size w V → w.cell? q = some u → V.cell? q = some u := fun V q u hV hq => (hV.cell (block_lt_of_cell hq)).trans hq
 have hc1 := hcW W _ _ hW hcl
 have HJ := Lib.hid hJ
 have HJX := Lib.hid hJx
 have HJE := Lib.hid hJE
 have HY := Lib.hid hY
 have HCW := Lib.hid hcW
 have HCL := Lib.hid hcl
 have HCT := Lib.hid hct
 clear hJ hJx hJE hY hcW hcl hct
 refine callsIn_of_wp Tryz.func112 rfl trivial ?_ rfl
 simp only [Tryz.ntmps112, List.size_toArray, List.length_cons, List.length_nil, Nat.reduceAdd, Nat.reduceSub, Array.replicate_succ, Array.replicate_zero, List.push_toArray, List.append_toArray, List.nil_append, List.cons_append]
 gi_wp2
 gi_loopw [9] (fun i wr => ∃ (k : Nat) (pre : List WV), i = .int .i64 (k : Nat) ∧ k ≤ l.length ∧ pre = (allW l).take k ∧ J pre wr) (fun i _ => l.length - (intOf i).toNat)
 case atStart => exact ⟨0, [], rfl, Nat.zero_le _, rfl, h0⟩
 case round =>
  clear h0 hc1 hW
  obtain ⟨k, pre, rfl, hk, hpre, hj⟩ := hrel
  have hplen : pre.length = k := by rw [hpre]; exact take_len hk
  have HPRE := Lib.hid hpre
  have HPL := Lib.hid hplen
  clear hpre hplen
  have hbw := HJE.out pre wr hj
  by_cases hlt : k < l.length
  ·obtain ⟨x, hx⟩ : ∃ x, l[k]? = some x := ⟨l[k], List.getElem?_eq_getElem hlt⟩
   obtain ⟨g, o, kk, nn, a2, len2, cap2, ha, hg, hcel, hv, hrg⟩ := hE k x hx
   subst ha
   have hd1 : decide (k < l.length) = true := by simpa using hlt
   have e0 : wr.cell? ⟨g, o + k * 10, none⟩ = some (.int .i64 x.k) := HCW.out wr _ _ hbw (hcel 0 (.int .i64 x.k) rfl)
   have e1 := HCW.out wr _ _ hbw (hcel 1 (.int .i64 x.st) rfl)
   have e2 := HCW.out wr _ _ hbw (hcel 2 (.int .i64 x.th) rfl)
   have e3 := HCW.out wr _ _ hbw (hcel 3 (.int .i64 x.sy) rfl)
   have e4 := HCW.out wr _ _ hbw (hcel 4 (.int .i64 x.br) rfl)
   have e5 := HCW.out wr _ _ hbw (hcel 5 (.int .i64 x.pa) rfl)
   have e6 := HCW.out wr _ _ hbw (hcel 6 (.int .i64 x.n) rfl)
   have e7 := HCW.out wr _ _ hbw (hcel 7 (.int .i64 kk) rfl)
   have e8 := HCW.out wr _ _ hbw (hcel 8 (.int .i64 nn) rfl)
   have e9 := HCW.out wr _ _ hbw (hcel 9 (.slice a2 len2 cap2) rfl)
   have HX := Lib.hid hx
   have HE := Lib.hid hE
   have hb2 := below_alloc wr (.cells #[.int .i64 x.k, .int .i64 x.st, .int .i64 x.th, .int .i64 x.sy, .int .i64 x.br, .int .i64 x.pa, .int .i64 x.n, .int .i64 kk, .int .i64 nn, .slice a2 len2 cap2] 29)
   have hbw2 := hbw.trans (hb2.mono hbw.size)
   have hj2 := HJ.out pre _ _ hj (grown_ofB hb2)
   have hx2 : IsE (· < (wr.alloc (.cells #[.int .i64 x.k, .int .i64 x.st, .int .i64 x.th, .int .i64 x.sy, .int .i64 x.br, .int .i64 x.pa, .int .i64 x.n, .int .i64 kk, .int .i64 nn, .slice a2 len2 cap2] 29)).heap.size) (wr.alloc (.cells #[.int .i64 x.k, .int .i64 x.st, .int .i64 x.th, .int .i64 x.sy, .int .i64 x.br, .int .i64 x.pa, .int .i64 x.n, .int .i64 kk, .int .i64 nn, .slice a2 len2 cap2] 29)) x (.agg #[.int .i64 x.k, .int .i64 x.st, .int .i64 x.th, .int .i64 x.sy, .int .i64 x.br, .int .i64 x.pa, .int .i64 x.n, .int .i64 kk, .int .i64 nn, .slice a2 len2 cap2]) := ⟨kk, nn, a2, len2, cap2, rfl, (hv.below hbw2).more fun g hg => Nat.lt_of_lt_of_le hg hbw2.size, hrg⟩
   have hbe := heap_alloc_new wr (.cells #[.int .i64 x.k, .int .i64 x.st, .int .i64 x.th, .int .i64 x.sy, .int .i64 x.br, .int .i64 x.pa, .int .i64 x.n, .int .i64 kk, .int .i64 nn, .slice a2 len2 cap2] 29)
   have hT2 := hT.below hbw2 hT.lt hT.m.lt
   clear hx hE hcel hv hrg hj hb2 hg
   gi_wp2
   clear hbw
   generalize wr.alloc (.cells #[.int .i64 x.k, .int .i64 x.st, .int .i64 x.th, .int .i64 x.sy, .int .i64 x.br, .int .i64 x.pa, .int .i64 x.n, .int .i64 kk, .int .i64 nn, .slice a2 len2 cap2] 29) = w2 at *
   generalize wr.heap.size = xb at *
   clear e0 e1 e2 e3 e4 e5 e6 e7 e8 e9
   have y0 := fun d os => cell_regrown (show w2.cell? ⟨xb, 0, none⟩ = some (.int .i64 x.k) by simp [World.cell?, hbe]) d os
   have y1 := fun d os => cell_regrown (show w2.cell? ⟨xb, 1, none⟩ = some (.int .i64 x.st) by simp [World.cell?, hbe]) d os
   have y2 := fun d os => cell_regrown (show w2.cell? ⟨xb, 2, none⟩ = some (.int .i64 x.th) by simp [World.cell?, hbe]) d os
   have y3 := fun d os => cell_regrown (show w2.cell? ⟨xb, 3, none⟩ = some (.int .i64 x.sy) by simp [World.cell?, hbe]) d os
   have y4 := fun d os => cell_regrown (show w2.cell? ⟨xb, 4, none⟩ = some (.int .i64 x.br) by simp [World.cell?, hbe]) d os
   have y5 := fun d os => cell_regrown (show w2.cell? ⟨xb, 5, none⟩ = some (.int .i64 x.pa) by simp [World.cell?, hbe]) d os
   have y6 := fun d os => cell_regrown (show w2.cell? ⟨xb, 6, none⟩ = some (.int .i64 x.n) by simp [World.cell?, hbe]) d os
   have y7 := fun d os => cell_regrown (show w2.cell? ⟨xb, 7, none⟩ = some (.int .i64 kk) by simp [World.cell?, hbe]) d os
   have y8 := fun d os => cell_regrown (show w2.cell? ⟨xb, 8, none⟩ = some (.int .i64 nn) by simp [World.cell?, hbe]) d os
   have y9 := fun d os => cell_regrown (show w2.cell? ⟨xb, 9, none⟩ = some (.slice a2 len2 cap2) by simp [World.cell?, hbe]) d os
   have l0 := fun d os => cell_regrown (HCW.out w2 _ _ hbw2 HCL.out) d os
   have t0 := fun d os => cell_regrown (HCW.out w2 _ _ hbw2 HCT.out) d os
   have cV : ∀ d os, Calls Tryz.prog 50 #[.pointer (some ⟨b, 0, none⟩), .agg #[.int .i64 x.k, .int .i64 x.st, .int .i64 x.th, .int .i64 x.sy, .int .i64 x.br, .int .i64 x.pa, .int .i64 x.n, .int .i64 kk, .int .i64 nn, .slice a2 len2 cap2]] (grow (redrawn w2 d) os) fun e w'' => e = .returned (.bool (rightE x)) ∧ ∃ p : Regrown, w'' = grow (redrawn w2 p.d) p.os := fun d os => Calls.regrown_of (tvalid_any b mb x _ _ (hT2.belowAll (below_regrown w2 d os)) (hx2.later (below_regrown w2 d os)))
   cases hr : rightE x
   ·have HW := Lib.hid (wrong_bad HX.out hr)
    rw [hr] at cV
    clear hr
    clear hT2 hx2 hbe
    refine wpIn_wide.2 ?_
    refine wp_region_quiet_below (by kernel_rfl) (by kernel_rfl) ?_
    repeat (go_big_quiet_step (exact cV _ _))
    refine wpQuiet_nil ?_
    intro _ hw'
    obtain ⟨⟨dq, osq⟩, hw''⟩ := hw'
    subst hw''
    have hb3 := below_regrown w2 dq osq
    have hj3 := HJ.out pre _ _ hj2 (grown_ofB hb3)
    clear y0 y1 y2 y3 y4 y5 y6 y7 y8 y9 l0 t0 cV hb3 hj2
    generalize grow (redrawn w2 dq) osq = w3 at *
    obtain ⟨fn, tmps, assign, body, hy, hR⟩ := HY.out pre (k, true) _ hj3 ⟨by rw [HPL.out, HW.out], by rw [HPL.out]; exact HPRE.out, by rw [HPL.out]; exact hlt⟩
    dsimp only [encW] at hy
    gi_wp2
    refine ⟨wideD _, hR.mono ?_⟩
    rintro e w5 (⟨rfl, hj5⟩ | ⟨rfl, hj5⟩)
    ·gi_wp2
     go_roundw
     case rel => first | exact ⟨k + 1, pre ++ [(k, true)], by go_num, by omega, by rw [allW_take hlt, ← HPRE.out, HW.out], hj5⟩ | ((repeat apply Exists.intro); exact ⟨⟨k + 1, pre ++ [(k, true)], by go_num, by omega, by rw [allW_take hlt, ← HPRE.out, HW.out], hj5⟩, rfl⟩)
     case measure => simp [intOf]; omega
    ·gi_wp2
     refine bodyPost_ret (results_none rfl _ _ _) rfl ?_
     exact ⟨⟨_, rfl⟩, .inr ⟨_, ⟨k, hlt, by rw [allW_take hlt, ← HPRE.out, HW.out]⟩, hj5⟩⟩
   ·rw [hr] at cV
    rcases Nat.eq_zero_or_pos k with hk0 | hkp
    ·have HW : Hid (wrongAt l k = false) := by show _ = _; subst hk0; exact wrong_zero HX.out hr
     have hd2 : decide ((0 : Int) < (k : Int)) = false := by simp; omega
     have hd3 : decide (0 < k) = false := by simp; omega
     clear hr hk0
     clear hT2 hx2 hbe
     refine wpIn_wide.2 ?_
     refine wp_region_quiet_below (by kernel_rfl) (by kernel_rfl) ?_
     repeat (go_big_quiet_step (exact cV _ _))
     refine wpQuiet_nil ?_
     intro _ hw'
     obtain ⟨⟨dq, osq⟩, hw''⟩ := hw'
     subst hw''
     have hb3 := below_regrown w2 dq osq
     have hj3 := HJ.out pre _ _ hj2 (grown_ofB hb3)
     clear y0 y1 y2 y3 y4 y5 y6 y7 y8 y9 l0 t0 cV hb3 hj2
     generalize grow (redrawn w2 dq) osq = w3 at *
     obtain ⟨fn, tmps, assign, body, hy, hR⟩ := HY.out pre (k, false) _ hj3 ⟨by rw [HPL.out, HW.out], by rw [HPL.out]; exact HPRE.out, by rw [HPL.out]; exact hlt⟩
     dsimp only [encW] at hy
     gi_wp2
     refine ⟨wideD _, hR.mono ?_⟩
     rintro e w5 (⟨rfl, hj5⟩ | ⟨rfl, hj5⟩)
     ·gi_wp2
      go_roundw
      case rel => first | exact ⟨k + 1, pre ++ [(k, false)], by go_num, by omega, by rw [allW_take hlt, ← HPRE.out, HW.out], hj5⟩ | ((repeat apply Exists.intro); exact ⟨⟨k + 1, pre ++ [(k, false)], by go_num, by omega, by rw [allW_take hlt, ← HPRE.out, HW.out], hj5⟩, rfl⟩)
      case measure => simp [intOf]; omega
     ·gi_wp2
      refine bodyPost_ret (results_none rfl _ _ _) rfl ?_
      exact ⟨⟨_, rfl⟩, .inr ⟨_, ⟨k, hlt, by rw [allW_take hlt, ← HPRE.out, HW.out]⟩, hj5⟩⟩
    ·obtain ⟨j, hj1⟩ : ∃ j, k = j + 1 := ⟨k - 1, by omega⟩
     obtain ⟨z, hz⟩ : ∃ z, l[j]? = some z := ⟨l[j]'(by omega), List.getElem?_eq_getElem _⟩
     have hws : wrongAt l k = decide (x.st < z.st) := by have h1 := HX.out; subst hj1; exact wrong_succ h1 hz hr
     have hd2 : decide ((0 : Int) < (k : Int)) = true := by simp; omega
     have hd3 : decide (0 < k) = true := by simpa using hkp
     have hsub : IntKind.i64.wrap ((k : Int) - 1) = (j : Int) := by rw [hj1]; exact (IntWalk.i64_in _ (by omega)).trans (by omega)
     have hjl : j < l.length := by omega
     have hjl2 : (j : Int) < (l.length : Int) := by omega
     obtain ⟨g3, o3, kk3, nn3, a3, len3, cap3, ha3, hg3, hcel3, hv3, hrg3⟩ := HE.out j z hz
     injection ha3 with ha3
     injection ha3 with ha3 ho3 _
     subst ha3 ho3
     have z0 := fun d os => cell_regrown (HCW.out w2 _ _ hbw2 (hcel3 1 (.int .i64 z.st) rfl)) d os
     clear hr hj1 hz hcel3 hv3 hrg3 hg3
     by_cases hzs : x.st < z.st
     ·have hd4 : decide (x.st < z.st) = true := by simpa using hzs
      have HW : Hid (wrongAt l k = true) := by show _ = _; rw [hws, hd4]
      clear hws hzs
      clear hT2 hx2 hbe
      refine wpIn_wide.2 ?_
      refine wp_region_quiet_below (by kernel_rfl) (by kernel_rfl) ?_
      repeat (go_big_quiet_step (exact cV _ _))
      refine wpQuiet_nil ?_
      intro _ hw'
      obtain ⟨⟨dq, osq⟩, hw''⟩ := hw'
      subst hw''
      have hb3 := below_regrown w2 dq osq
      have hj3 := HJ.out pre _ _ hj2 (grown_ofB hb3)
      clear y0 y1 y2 y3 y4 y5 y6 y7 y8 y9 l0 t0 cV hb3 hj2
      generalize grow (redrawn w2 dq) osq = w3 at *
      obtain ⟨fn, tmps, assign, body, hy, hR⟩ := HY.out pre (k, true) _ hj3 ⟨by rw [HPL.out, HW.out], by rw [HPL.out]; exact HPRE.out, by rw [HPL.out]; exact hlt⟩
      dsimp only [encW] at hy
      gi_wp2
      refine ⟨wideD _, hR.mono ?_⟩
      rintro e w5 (⟨rfl, hj5⟩ | ⟨rfl, hj5⟩)
      ·gi_wp2
       go_roundw
       case rel => first | exact ⟨k + 1, pre ++ [(k, true)], by go_num, by omega, by rw [allW_take hlt, ← HPRE.out, HW.out], hj5⟩ | ((repeat apply Exists.intro); exact ⟨⟨k + 1, pre ++ [(k, true)], by go_num, by omega, by rw [allW_take hlt, ← HPRE.out, HW.out], hj5⟩, rfl⟩)
       case measure => simp [intOf]; omega
      ·gi_wp2
       refine bodyPost_ret (results_none rfl _ _ _) rfl ?_
       exact ⟨⟨_, rfl⟩, .inr ⟨_, ⟨k, hlt, by rw [allW_take hlt, ← HPRE.out, HW.out]⟩, hj5⟩⟩
     ·have hd4 : decide (x.st < z.st) = false := by simpa using hzs
      have HW : Hid (wrongAt l k = false) := by show _ = _; rw [hws, hd4]
      clear hws hzs
      clear hT2 hx2 hbe
      refine wpIn_wide.2 ?_
      refine wp_region_quiet_below (by kernel_rfl) (by kernel_rfl) ?_
      repeat (go_big_quiet_step (exact cV _ _))
      refine wpQuiet_nil ?_
      intro _ hw'
      obtain ⟨⟨dq, osq⟩, hw''⟩ := hw'
      subst hw''
      have hb3 := below_regrown w2 dq osq
      have hj3 := HJ.out pre _ _ hj2 (grown_ofB hb3)
      clear y0 y1 y2 y3 y4 y5 y6 y7 y8 y9 l0 t0 cV hb3 hj2
      generalize grow (redrawn w2 dq) osq = w3 at *
      obtain ⟨fn, tmps, assign, body, hy, hR⟩ := HY.out pre (k, false) _ hj3 ⟨by rw [HPL.out, HW.out], by rw [HPL.out]; exact HPRE.out, by rw [HPL.out]; exact hlt⟩
      dsimp only [encW] at hy
      gi_wp2
      refine ⟨wideD _, hR.mono ?_⟩
      rintro e w5 (⟨rfl, hj5⟩ | ⟨rfl, hj5⟩)
      ·gi_wp2
       go_roundw
       case rel => first | exact ⟨k + 1, pre ++ [(k, false)], by go_num, by omega, by rw [allW_take hlt, ← HPRE.out, HW.out], hj5⟩ | ((repeat apply Exists.intro); exact ⟨⟨k + 1, pre ++ [(k, false)], by go_num, by omega, by rw [allW_take hlt, ← HPRE.out, HW.out], hj5⟩, rfl⟩)
       case measure => simp [intOf]; omega
      ·gi_wp2
       refine bodyPost_ret (results_none rfl _ _ _) rfl ?_
       exact ⟨⟨_, rfl⟩, .inr ⟨_, ⟨k, hlt, by rw [allW_take hlt, ← HPRE.out, HW.out]⟩, hj5⟩⟩
  ·have hd1 : decide (k < l.length) = false := by simpa using hlt
   gi_wp2
   go_end0
   refine ⟨⟨_, rfl⟩, .inl ⟨pre, ?_, hj⟩⟩
   unfold SW
   rw [HPRE.out, List.take_of_length_le (by rw [allW_len]; omega)]
end Go.Proofs.YtjldbbcdhdfliaaGreatDoor
/-
 Walks over package trace: check, Check.
-/
namespace Go.Proofs.YtjldbbcdhdfliaaGreatDoor
open Go.RowKit Go.Shelf Go.Sort
attribute [local go_sem] Oper.semAt_some

theorem wp_weak {P : Program} {c : Code} {K : Act → World → Prop} {Q : Exit → Act → World → Prop} {a : Act} {w : World} (h : c.wp P (Exit.then K (fun _ _ _ => False)) a w) : c.wp P (Exit.then K Q) a w :=
 Code.wp_mono (fun e a w h => by cases e <;> first | exact h | exact h.elim) h
/-- The place of the first wrong event. -/
def firstW (l : List Ev) : Option Nat := (List.range l.length).find? (wrongAt l)
theorem firstW_none {l : List Ev} (h : ∀ k, k < l.length → wrongAt l k = false) : firstW l = none := by
 unfold firstW
 rw [List.find?_eq_none]
 intro k hk
 have := h k (by simpa using hk)
 simp [this]
theorem firstW_some {l : List Ev} {k : Nat} (hk : k < l.length) (hw : wrongAt l k = true) (h : ∀ j, j < k → wrongAt l j = false) : firstW l = some k := by
 unfold firstW
 rw [List.find?_eq_some_iff_getElem]
 refine ⟨hw, k, by simpa using hk, by simp, fun j hj => ?_⟩
 simp [h j hj]
def chkV (r : Option Nat) : Value := match r with
 | some k => .tuple #[.int .i64 (k : Nat), .bool true]
 | none => .tuple #[.int .i64 0, .bool false]
theorem belowG {B : Nat} {W W' : World} {row : Option Nat} (hg : W.grownBy W' row) (hB : B ≤ W.heap.size) (hr : ∀ g, row = some g → B ≤ g) : Below B W W' := grown_belowE hg hB hr
set_option maxRecDepth 100000 in
set_option maxHeartbeats 4000000 in
theorem check_any (l : List Ev) (hll : l.length ≤ 1000000) (a : Option Addr) (cap : Nat) (b mb : Nat) (w : World) (hT : TabT w b mb) (hE : IsEs (· < w.heap.size) w l a) : Calls Tryz.prog 44 #[.pointer (some ⟨b, 0, none⟩), .slice a l.length cap] w fun e w' => e = .returned (chkV (firstW l)) ∧ Below w.heap.size w w' := by
 have s1 : (w.alloc (.cells #[.int .i64 0] 3)).heap.size = w.heap.size + 1 := by simp
 have ha1 := (B1.new w 3 (.int .i64 0)).alloc (.cells #[.bool false] 4)
 have hw1 := B1.new (w.alloc (.cells #[.int .i64 0] 3)) 4 (.bool false)
 rw [s1] at hw1
 have hb1 : Below w.heap.size w ((w.alloc (.cells #[.int .i64 0] 3)).alloc (.cells #[.bool false] 4)) := (below_alloc _ _).alloc (by simp) _
 clear s1
 refine callsIn_wide.1 (callsIn_of_wp_marks (n := 4) Tryz.func44 rfl trivial ?_ rfl)
 simp only [Tryz.ntmps44, List.size_toArray, List.length_cons, List.length_nil, Nat.reduceAdd, Nat.reduceSub, Array.replicate_succ, Array.replicate_zero, List.push_toArray, List.append_toArray, List.nil_append, List.cons_append]
 refine wpIn_wide.2 ?_
 go_upto_region 1 with fail
 generalize (w.alloc (.cells #[.int .i64 0] 3)).alloc (.cells #[.bool false] 4) = w1 at *
 go_wp2_with fail
 go_step3
 go_wp2_with fail
 go_step3
 go_wp2_with fail
 refine (wrongs_any b a l.length cap _).mono ?_
 rintro e w2 ⟨rfl, rfl⟩
 have hb2 : Below w1.heap.size w1 ((w1.alloc (.cells #[.pointer (some ⟨b, 0, none⟩)] 78)).alloc (.cells #[.slice a l.length cap] 38)) := (below_alloc _ _).alloc (by simp) _
 have hct : ((w1.alloc (.cells #[.pointer (some ⟨b, 0, none⟩)] 78)).alloc (.cells #[.slice a l.length cap] 38)).cell? ⟨w1.heap.size, 0, none⟩ = some (.pointer (some ⟨b, 0, none⟩)) := ((B1.new w1 78 (.pointer (some ⟨b, 0, none⟩))).alloc _).c
 have hcl : ((w1.alloc (.cells #[.pointer (some ⟨b, 0, none⟩)] 78)).alloc (.cells #[.slice a l.length cap] 38)).cell? ⟨w1.heap.size + 1, 0, none⟩ = some (.slice a l.length cap) := by
  have := (B1.new (w1.alloc (.cells #[.pointer (some ⟨b, 0, none⟩)] 78)) 38 (.slice a l.length cap)).c
  rwa [show (w1.alloc (.cells #[.pointer (some ⟨b, 0, none⟩)] 78)).heap.size = w1.heap.size + 1 by simp] at this
 have ha2 := ha1.belowAll hb2
 have hw2 := hw1.belowAll hb2
 have hbw := hb1.trans (hb2.mono hb1.size)
 have hT2 := hT.belowAll hbw
 have hE2 := hE.later hbw
 clear ha1 hw1 hb1 hb2 hT hE
 generalize (w1.alloc (.cells #[.pointer (some ⟨b, 0, none⟩)] 78)).alloc (.cells #[.slice a l.length cap] 38) = w2 at *
 generalize w1.heap.size = tbx at *
 go_wp2_with fail
 refine wpIn_wide.1 (wp_range (n := 4) (gf := 112) (lb := #[.pointer (some ⟨tbx + 1, 0, none⟩), .pointer (some ⟨tbx, 0, none⟩)]) rfl (enters_of Tryz.func112 (by kernel_rfl) rfl) (wrongs_iter _ l hll a cap (tbx + 1) tbx b mb w2 hcl hct hT2 hE2) (fun _ => rfl)
  (fun pre W => Below w2.heap.size w2 W ∧ ∀ j, j < pre.length → wrongAt l j = false)
  (fun c pre W => c = .exit 0 ∧ ∃ k, pre.length = k + 1 ∧ k < l.length ∧ wrongAt l k = true ∧ (∀ j, j < k → wrongAt l j = false) ∧ B1 W w.heap.size 3 (.int .i64 (k : Nat)) ∧ B1 W (w.heap.size + 1) 4 (.bool true) ∧ Below w.heap.size w W) ?_ ?_ (fun _ _ h => h.1) ?_ ?_ ?_ ?_)
 ·rintro pre W W' ⟨h1, h2⟩ hg
  exact ⟨h1.trans (belowG hg h1.size fun g hg => by injection hg; omega), h2⟩
 ·rintro c pre W W' ⟨h0, k, h1, h2, h3, h4, h5, h6, h7⟩ hg
  have hlt := hw2.lt
  exact ⟨h0, k, h1, h2, h3, h4, (hg.block _ h5.lt (fun e => by injection e; omega)).trans h5, (hg.block _ h6.lt (fun e => by injection e; omega)).trans h6, h7.trans (belowG hg h7.size fun g hg => by injection hg; omega)⟩
 ·intro W hg
  exact ⟨belowG hg (Nat.le_refl _) (fun g hg => by cases hg), fun j hj => by simp at hj⟩
 ·rintro pre x W ⟨hbp, hfp⟩ ⟨rfl, -, hlt⟩ hWl
  have ha3 := ha2.belowAll hbp
  have hw3 := hw2.belowAll hbp
  have hz2 := hw2.lt
  have HFP := Lib.hid hfp
  simp only [encW]
  cases hwr : wrongAt l pre.length
  ·have HWR := Lib.hid hwr
   clear hwr hfp
   gi_wp2
   refine ⟨World.grownBy.refl _ _, ?_⟩
   intro w3 hg3 hl3 hr3
   gi_wp2
   refine ⟨⟨rfl, rfl⟩, hbp.trans (belowG hg3 hbp.size fun g hg => by injection hg; omega), ?_⟩
   intro j hj
   simp at hj
   by_cases e : j = pre.length
   ·rw [e]; exact HWR.out
   ·exact HFP.out j (by omega)
  ·have HWR := Lib.hid hwr
   clear hwr hfp
   gi_wp2
   refine ⟨World.grownBy.refl _ _, ?_⟩
   intro w3 hg3 hl3 hr3
   have ha4 : B1 w3 w.heap.size 3 (.int .i64 0) := (hg3.block _ ha3.lt (fun e => by injection e; omega)).trans ha3
   have hw4 : B1 w3 (w.heap.size + 1) 4 (.bool false) := (hg3.block _ hw3.lt (fun e => by injection e; omega)).trans hw3
   have hb4 := hbp.trans (belowG hg3 hbp.size fun g hg => by injection hg; omega)
   have c0 := ha4.c
   have f0 := ha4.fz 0
   have c1 := hw4.c
   have f1 := hw4.fz 0
   gi_wp2
   refine ⟨⟨?_, ?_⟩, rfl, pre.length, by simp, hlt, HWR.out, HFP.out, (ha4.set _).far (by simp) _, (hw4.far (by simp) _).set _, ?_⟩
   ·rw [Below.heap_setCell _ _ _ _ (by simp; omega), Below.heap_setCell _ _ _ _ (by simp; omega)]
   ·rw [Below.heap_setCell _ _ _ _ (by simp; omega), Below.heap_setCell _ _ _ _ (by simp; omega)]
   ·exact (((hbw.trans (hb4.mono hbw.size))).setCell (p := ⟨w.heap.size, 0, none⟩) (Nat.le_refl _) _).setCell (p := ⟨w.heap.size + 1, 0, none⟩) (by simp) _
 ·rintro xs W hS ⟨hbp, hfp⟩ hD
  have HF := Lib.hid (firstW_none (l := l) fun k hk => hfp k (by rw [hS, allW_len]; exact hk))
  have ha3 := ha2.belowAll hbp
  have hw3 := hw2.belowAll hbp
  have hb3 := hbw.trans (hbp.mono hbw.size)
  have hz2 := hw2.lt
  have c0 := ha3.c
  have f0 := ha3.fz 0
  have c1 := hw3.c
  have f1 := hw3.fz 0
  clear hfp hS
  go_wp2_with fail
  refine wp_weak ?_
  go_region
  go_wp2_with fail
  have hD9 : (((W.setCell ⟨w.heap.size, 0, none⟩ (.int .i64 0)).setCell ⟨w.heap.size + 1, 0, none⟩ (.bool false)).drew).heap[w2.heap.size]? = some (.deferred (some [])) := ((Below.heap_setCell _ _ _ _ (by simp; omega)).trans (Below.heap_setCell _ _ _ _ (by simp; omega))).trans hD
  have ha9 : B1 ((((W.setCell ⟨w.heap.size, 0, none⟩ (.int .i64 0)).setCell ⟨w.heap.size + 1, 0, none⟩ (.bool false)).drew).putObj w2.heap.size (.deferred none)) w.heap.size 3 (.int .i64 0) := (World.putObj_heap_other (by omega)).trans ((ha3.set _).far (by simp) _)
  have hw9 : B1 ((((W.setCell ⟨w.heap.size, 0, none⟩ (.int .i64 0)).setCell ⟨w.heap.size + 1, 0, none⟩ (.bool false)).drew).putObj w2.heap.size (.deferred none)) (w.heap.size + 1) 4 (.bool false) := (World.putObj_heap_other (by omega)).trans ((hw3.far (by simp) _).set _)
  have hb9 : Below w.heap.size w ((((W.setCell ⟨w.heap.size, 0, none⟩ (.int .i64 0)).setCell ⟨w.heap.size + 1, 0, none⟩ (.bool false)).drew).putObj w2.heap.size (.deferred none)) := by
   have h1 := (hb3.setCell (p := ⟨w.heap.size, 0, none⟩) (Nat.le_refl _) (.int .i64 0)).setCell (p := ⟨w.heap.size + 1, 0, none⟩) (by simp) (.bool false)
   exact ⟨h1.os, h1.tape, h1.output, by simpa using h1.size, fun j hj => (World.putObj_heap_other (by omega)).trans (h1.block j hj)⟩
  refine ⟨by simp, .inl ⟨_, _, rfl, run_takeDeferred hD9, ?_⟩⟩
  exact ⟨.tuple #[(.int .i64 0), (.bool false)], by simp [results, Tryz.results44, go_sem, ha9.c, hw9.c], by rw [HF.out]; rfl, hb9⟩
 ·rintro c pre W hSp ⟨rfl, k, h1, h2, h3, h4, h5, h6, h7⟩ hD
  have HF := Lib.hid (firstW_some h2 h3 h4)
  refine wpIn_exit ?_
  have c0 := h5.c
  have f0 := h5.fz 0
  have c1 := h6.c
  have f1 := h6.fz 0
  simp only [Exit.inBlock, Exit.then]
  go_wp2_with fail
  refine wp_weak ?_
  go_region
  go_wp2_with fail
  have hz2 := hw2.lt
  have hD9 : (((W.setCell ⟨w.heap.size, 0, none⟩ (.int .i64 (k : Nat))).setCell ⟨w.heap.size + 1, 0, none⟩ (.bool true)).drew).heap[w2.heap.size]? = some (.deferred (some [])) := ((Below.heap_setCell _ _ _ _ (by simp; omega)).trans (Below.heap_setCell _ _ _ _ (by simp; omega))).trans hD
  have ha9 : B1 ((((W.setCell ⟨w.heap.size, 0, none⟩ (.int .i64 (k : Nat))).setCell ⟨w.heap.size + 1, 0, none⟩ (.bool true)).drew).putObj w2.heap.size (.deferred none)) w.heap.size 3 (.int .i64 (k : Nat)) := (World.putObj_heap_other (by omega)).trans ((h5.set _).far (by simp) _)
  have hw9 : B1 ((((W.setCell ⟨w.heap.size, 0, none⟩ (.int .i64 (k : Nat))).setCell ⟨w.heap.size + 1, 0, none⟩ (.bool true)).drew).putObj w2.heap.size (.deferred none)) (w.heap.size + 1) 4 (.bool true) := (World.putObj_heap_other (by omega)).trans ((h6.far (by simp) _).set _)
  have hb9 : Below w.heap.size w ((((W.setCell ⟨w.heap.size, 0, none⟩ (.int .i64 (k : Nat))).setCell ⟨w.heap.size + 1, 0, none⟩ (.bool true)).drew).putObj w2.heap.size (.deferred none)) := by
   have h1 := (h7.setCell (p := ⟨w.heap.size, 0, none⟩) (Nat.le_refl _) (.int .i64 (k : Nat))).setCell (p := ⟨w.heap.size + 1, 0, none⟩) (by simp) (.bool true)
   exact ⟨h1.os, h1.tape, h1.output, by simpa using h1.size, fun j hj => (World.putObj_heap_other (by omega)).trans (h1.block j hj)⟩
  refine ⟨by simp, .inl ⟨_, _, rfl, run_takeDeferred hD9, ?_⟩⟩
  exact ⟨.tuple #[(.int .i64 (k : Nat)), (.bool true)], by simp [results, Tryz.results44, go_sem, ha9.c, hw9.c], by rw [HF.out]; rfl, hb9⟩
/-- What Check hands back. -/
def CkV (l : List Ev) : Value := match firstW l with
 | some k => .tuple #[.int .i64 (k : Nat), .int .i64 230]
 | none => .tuple #[.int .i64 0, .int .i64 0]
set_option maxRecDepth 100000 in
set_option maxHeartbeats 1000000 in
theorem TCheck_any (l : List Ev) (hll : l.length ≤ 1000000) (a : Option Addr) (cap : Nat) (w : World) (hE : IsEs (· < w.heap.size) w l a) : Calls Tryz.prog 14 #[.slice a l.length cap] w fun e w' => e = .returned (CkV l) ∧ Below w.heap.size w w' := by
 obtain ⟨r, hr⟩ : ∃ r, firstW l = r := ⟨_, rfl⟩
 have HR := Lib.hid hr
 unfold CkV
 rw [hr]
 clear hr
 cases r
 all_goals
  go_enter Tryz.func14, Tryz.ntmps14
  go_wp2_with fail
  refine (tables_any _).mono ?_
  rintro e w1 ⟨b, mb, rfl, -, -, hT, hb1⟩
  go_wp2_with fail
  refine (check_any l hll a cap b mb _ hT (hE.later hb1)).mono ?_
  rw [HR.out]
  simp only [chkV]
  rintro e w2 ⟨rfl, hb2⟩
  go_wp2_with fail
  go_ret2
  exact ⟨rfl, hb1.trans (hb2.mono hb1.size)⟩
end Go.Proofs.YtjldbbcdhdfliaaGreatDoor
