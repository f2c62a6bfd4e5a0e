/-
  Walks over the reference of layer 23: Check. Printed by gen_uj.py.
-/
import Derived.Test.YtjldbbcdhdfliaaGreatDoorUi
import Derived.Test.YtjldbbcdhdfliaaGreatDoorToTp
import Derived.Lib.QuietBelow
import Derived.Deep.QuietTactic
import Derived.BigQuiet
namespace Go.Proofs.YtjldbbcdhdfliaaGreatDoor
open Go.RowKit Go.Sort

theorem isE_regrownC {x : Ev} {v : Value} {w : World} (h : IsE (· < w.heap.size) w x v) (d : Nat) (os : Array Obj) : IsE (· < (grow (redrawn w d) os).heap.size) (grow (redrawn w d) os) x v := h.later (below_regrown w d os)
theorem okW_succ {l : List Ev} {q : Nat} (h : ∀ i, i < q → wrongAt l i = false) (hq : wrongAt l q = false) : ∀ i, i < q + 1 → wrongAt l i = false := by
  intro i hi
  rcases Nat.lt_or_ge i q with h1 | h1
  · exact h i h1
  · obtain rfl : i = q := by omega
    exact hq
set_option maxRecDepth 100000 in
set_option maxHeartbeats 4000000 in
theorem rCheckE_any (l : List Ev) (hl : l.length ≤ 1000000) (b1 : Option Addr) (cap : Nat) (w : World) (hE1 : IsEs (· < w.heap.size) w l b1) (hnd : ∀ x ∈ l, nd x.v ≤ 2000000) :
    Calls Tryz.prog 15 #[.slice b1 l.length cap] w fun e w' => e = .returned (CkV l) ∧ Below w.heap.size w w' := by
  obtain ⟨C, hC⟩ : ∃ C, CkV l = C := ⟨_, rfl⟩
  have HC := Lib.hid hC
  rw [hC]
  clear hC
  obtain ⟨n, hn⟩ : ∃ n, l.length = n := ⟨_, rfl⟩
  have HN := Lib.hid hn
  rw [hn] at hl ⊢
  clear hn
  have HE1 := Lib.hid hE1
  have HND := Lib.hid hnd
  clear hE1 hnd
  go_enter Tryz.func15, Tryz.ntmps15
  go_wp2_with fail
  go_loopw [4] (fun i wr => ∃ j : Nat, i = .int .i64 (j : Nat) ∧ j ≤ n ∧ (∀ m, m < j → wrongAt l m = false) ∧ Below w.heap.size w wr) (fun i _ => n - (intOf i).toNat)
  case atStart => exact ⟨0, rfl, Nat.zero_le _, fun m hm => by omega, Below.refl _ _⟩
  case round =>
    obtain ⟨j, rfl, hj, hok, hb⟩ := hrel
    have HOK := Lib.hid hok
    clear hok
    by_cases hlt : j < n
    · have hd1 : decide (j < n) = true := by simpa using hlt
      have hlt2 : (j : Int) < (n : Int) := by omega
      obtain ⟨x, hx⟩ : ∃ x, l[j]? = some x := ⟨l[j]'(by have := HN.out; omega), List.getElem?_eq_getElem _⟩
      have hndx := HND.out x (List.mem_of_getElem? hx)
      obtain ⟨g1, o1, kk, nn, a1, len1, cap1, ha1, hg1, hc1, hv1, hr1⟩ := HE1.out j x hx
      subst ha1
      have hi1 : IsE (· < wr.heap.size) wr x (.agg #[.int .i64 x.k, .int .i64 x.st, .int .i64 x.th, .int .i64 x.sy, .int .i64 x.br, .int .i64 x.pa, .int .i64 x.n, .int .i64 kk, .int .i64 nn, .slice a1 len1 cap1]) := IsE.more (w := wr) ⟨kk, nn, a1, len1, cap1, rfl, hv1.below hb, hr1⟩ fun g hg => Nat.lt_of_lt_of_le hg hb.size
      have p0 := fun d os => cell_regrown (show wr.cell? ⟨g1, o1 + j * 10, none⟩ = some (.int .i64 x.k) from (hb.cell (p := ⟨g1, o1 + j * 10, none⟩) hg1).trans (hc1 0 (.int .i64 x.k) rfl)) d os
      have p1 := fun d os => cell_regrown (show wr.cell? ⟨g1, o1 + j * 10 + 1, none⟩ = some (.int .i64 x.st) from (hb.cell (p := ⟨g1, o1 + j * 10 + 1, none⟩) hg1).trans (hc1 1 (.int .i64 x.st) rfl)) d os
      have p2 := fun d os => cell_regrown (show wr.cell? ⟨g1, o1 + j * 10 + 2, none⟩ = some (.int .i64 x.th) from (hb.cell (p := ⟨g1, o1 + j * 10 + 2, none⟩) hg1).trans (hc1 2 (.int .i64 x.th) rfl)) d os
      have p3 := fun d os => cell_regrown (show wr.cell? ⟨g1, o1 + j * 10 + 3, none⟩ = some (.int .i64 x.sy) from (hb.cell (p := ⟨g1, o1 + j * 10 + 3, none⟩) hg1).trans (hc1 3 (.int .i64 x.sy) rfl)) d os
      have p4 := fun d os => cell_regrown (show wr.cell? ⟨g1, o1 + j * 10 + 4, none⟩ = some (.int .i64 x.br) from (hb.cell (p := ⟨g1, o1 + j * 10 + 4, none⟩) hg1).trans (hc1 4 (.int .i64 x.br) rfl)) d os
      have p5 := fun d os => cell_regrown (show wr.cell? ⟨g1, o1 + j * 10 + 5, none⟩ = some (.int .i64 x.pa) from (hb.cell (p := ⟨g1, o1 + j * 10 + 5, none⟩) hg1).trans (hc1 5 (.int .i64 x.pa) rfl)) d os
      have p6 := fun d os => cell_regrown (show wr.cell? ⟨g1, o1 + j * 10 + 6, none⟩ = some (.int .i64 x.n) from (hb.cell (p := ⟨g1, o1 + j * 10 + 6, none⟩) hg1).trans (hc1 6 (.int .i64 x.n) rfl)) d os
      have p7 := fun d os => cell_regrown (show wr.cell? ⟨g1, o1 + j * 10 + 7, none⟩ = some (.int .i64 kk) from (hb.cell (p := ⟨g1, o1 + j * 10 + 7, none⟩) hg1).trans (hc1 7 (.int .i64 kk) rfl)) d os
      have p8 := fun d os => cell_regrown (show wr.cell? ⟨g1, o1 + j * 10 + 8, none⟩ = some (.int .i64 nn) from (hb.cell (p := ⟨g1, o1 + j * 10 + 8, none⟩) hg1).trans (hc1 8 (.int .i64 nn) rfl)) d os
      have p9 := fun d os => cell_regrown (show wr.cell? ⟨g1, o1 + j * 10 + 9, none⟩ = some (.slice a1 len1 cap1) from (hb.cell (p := ⟨g1, o1 + j * 10 + 9, none⟩) hg1).trans (hc1 9 (.slice a1 len1 cap1) rfl)) d os
      have cR : ∀ d os, Calls Tryz.prog 45 #[.agg #[.int .i64 x.k, .int .i64 x.st, .int .i64 x.th, .int .i64 x.sy, .int .i64 x.br, .int .i64 x.pa, .int .i64 x.n, .int .i64 kk, .int .i64 nn, .slice a1 len1 cap1]] (grow (redrawn wr d) os) fun e w'' => e = .returned (.bool (rightE x)) ∧ ∃ p : Regrown, w'' = grow (redrawn wr p.d) p.os := fun d os => Calls.regrown_of (rRightE_any x _ _ (isE_regrownC hi1 d os) hndx)
      have HX := Lib.hid hx
      clear hc1 hv1 hr1 hi1 hx hndx
      cases hr : rightE x
      · have HW := Lib.hid (wrong_bad HX.out hr)
        rw [hr] at cR
        clear hr
        go_upto_region 4 with fail
        refine wp_region_quiet_below (by kernel_rfl) (by kernel_rfl) ?_
        repeat (go_big_quiet_step (exact cR _ _))
        refine wpQuiet_nil ?_
        intro _ hw'
        obtain ⟨⟨dq, osq⟩, hw''⟩ := hw'
        subst hw''
        have hb3 := below_regrown wr dq osq
        have hb4 := hb.trans (hb3.mono hb.size)
        clear p0 p1 p2 p3 p4 p5 p6 p7 p8 p9 cR hb3
        generalize grow (redrawn wr dq) osq = w3 at *
        obtain rfl : C = .tuple #[.int .i64 (j : Nat), .int .i64 230] := by
          rw [← HC.out]
          unfold CkV
          rw [firstW_some (k := j) (by have := HN.out; omega) HW.out HOK.out]
        go_wp2_with fail
        go_ret2
        exact ⟨rfl, hb4⟩
      · rw [hr] at cR
        rcases Nat.eq_zero_or_pos j with hk0 | hkp
        · have HW : Hid (wrongAt l j = false) := by show _ = _; subst hk0; exact wrong_zero HX.out hr
          have hd2 : decide ((0 : Int) < (j : Int)) = false := by simp; omega
          have hd3 : decide (0 < j) = false := by simp; omega
          clear hr hk0
          go_upto_region 4 with fail
          refine wp_region_quiet_below (by kernel_rfl) (by kernel_rfl) ?_
          repeat (go_big_quiet_step (exact cR _ _))
          refine wpQuiet_nil ?_
          intro _ hw'
          obtain ⟨⟨dq, osq⟩, hw''⟩ := hw'
          subst hw''
          have hb3 := below_regrown wr dq osq
          have hb4 := hb.trans (hb3.mono hb.size)
          clear p0 p1 p2 p3 p4 p5 p6 p7 p8 p9 cR hb3
          generalize grow (redrawn wr dq) osq = w3 at *
          go_wp2_with fail
          go_roundw
          case rel => first | exact ⟨j + 1, by go_num, by omega, okW_succ HOK.out HW.out, hb4⟩ | ((repeat apply Exists.intro); exact ⟨⟨j + 1, by go_num, by omega, okW_succ HOK.out HW.out, hb4⟩, rfl⟩)
          case measure => simp [intOf]; omega
        · obtain ⟨i, hj1⟩ : ∃ i, j = i + 1 := ⟨j - 1, by omega⟩
          obtain ⟨z, hz⟩ : ∃ z, l[i]? = some z := ⟨l[i]'(by have := HN.out; omega), List.getElem?_eq_getElem _⟩
          have hws : wrongAt l j = decide (x.st < z.st) := by have h1 := HX.out; subst hj1; exact wrong_succ h1 hz hr
          have hd2 : decide ((0 : Int) < (j : Int)) = true := by simp; omega
          have hd3 : decide (0 < j) = true := by simpa using hkp
          have hsub : IntKind.i64.wrap ((j : Int) - 1) = (i : Int) := by rw [hj1]; exact (IntWalk.i64_in _ (by omega)).trans (by omega)
          have hjl : i < n := by omega
          have hjl2 : (i : Int) < (n : Int) := by omega
          obtain ⟨g3, o3, kk3, nn3, a3, len3, cap3, ha3, hg3, hcel3, hv3, hrg3⟩ := HE1.out i z hz
          injection ha3 with ha3
          injection ha3 with ha3 ho3 _
          subst ha3 ho3
          have z0 := fun d os => cell_regrown (show wr.cell? ⟨g1, o1 + i * 10 + 1, none⟩ = some (.int .i64 z.st) from (hb.cell (p := ⟨g1, o1 + i * 10 + 1, none⟩) hg1).trans (hcel3 1 (.int .i64 z.st) rfl)) d os
          clear hr hj1 hz hcel3 hv3 hrg3 hg3
          by_cases hzs : x.st < z.st
          · have hd4 : decide (x.st < z.st) = true := by simpa using hzs
            have HW : Hid (wrongAt l j = true) := by show _ = _; rw [hws, hd4]
            clear hws hzs
            go_upto_region 4 with fail
            refine wp_region_quiet_below (by kernel_rfl) (by kernel_rfl) ?_
            repeat (go_big_quiet_step (exact cR _ _))
            refine wpQuiet_nil ?_
            intro _ hw'
            obtain ⟨⟨dq, osq⟩, hw''⟩ := hw'
            subst hw''
            have hb3 := below_regrown wr dq osq
            have hb4 := hb.trans (hb3.mono hb.size)
            clear p0 p1 p2 p3 p4 p5 p6 p7 p8 p9 cR hb3
            generalize grow (redrawn wr dq) osq = w3 at *
            obtain rfl : C = .tuple #[.int .i64 (j : Nat), .int .i64 230] := by
              rw [← HC.out]
              unfold CkV
              rw [firstW_some (k := j) (by have := HN.out; omega) HW.out HOK.out]
            go_wp2_with fail
            go_ret2
            exact ⟨rfl, hb4⟩
          · have hd4 : decide (x.st < z.st) = false := by simpa using hzs
            have HW : Hid (wrongAt l j = false) := by show _ = _; rw [hws, hd4]
            clear hws hzs
            go_upto_region 4 with fail
            refine wp_region_quiet_below (by kernel_rfl) (by kernel_rfl) ?_
            repeat (go_big_quiet_step (exact cR _ _))
            refine wpQuiet_nil ?_
            intro _ hw'
            obtain ⟨⟨dq, osq⟩, hw''⟩ := hw'
            subst hw''
            have hb3 := below_regrown wr dq osq
            have hb4 := hb.trans (hb3.mono hb.size)
            clear p0 p1 p2 p3 p4 p5 p6 p7 p8 p9 cR hb3
            generalize grow (redrawn wr dq) osq = w3 at *
            go_wp2_with fail
            go_roundw
            case rel => first | exact ⟨j + 1, by go_num, by omega, okW_succ HOK.out HW.out, hb4⟩ | ((repeat apply Exists.intro); exact ⟨⟨j + 1, by go_num, by omega, okW_succ HOK.out HW.out, hb4⟩, rfl⟩)
            case measure => simp [intOf]; omega
    · have hd1 : decide (j < n) = false := by simpa using hlt
      obtain rfl : C = .tuple #[.int .i64 0, .int .i64 0] := by
        rw [← HC.out]
        unfold CkV
        rw [firstW_none (fun k hk => HOK.out k (by have := HN.out; omega))]
      go_wp2_with fail
      go_ret2
      exact ⟨rfl, hb⟩
end Go.Proofs.YtjldbbcdhdfliaaGreatDoor
