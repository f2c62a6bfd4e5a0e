/-
  The reference's Same of functions and programs: two that read alike are the same.
-/
import Derived.Test.YtjendlnicbieoaaGreatDoorProA
namespace Go.Proofs.YtjendlnicbieoaaGreatDoor
open Go.RowKit Go.Sort

theorem same_blks (w : World) (xs ys : List Value) (T : TypeId) :
    Blk ((w.alloc (.cells xs.toArray T)).alloc (.cells ys.toArray T)) w.heap.size T xs ∧ Blk ((w.alloc (.cells xs.toArray T)).alloc (.cells ys.toArray T)) (w.heap.size + 1) T ys := by
  have h1 := (Blk.new w T xs).alloc (.cells ys.toArray T)
  have h2 := Blk.new (w.alloc (.cells xs.toArray T)) T ys
  rw [World.size_alloc] at h2
  exact ⟨h1, h2⟩
theorem cellA {w : World} {p : Addr} {v : Value} (h : w.cell? p = some v) (O : Obj) : (w.alloc O).cell? p = some v := ((below_new w O).cell (block_lt_of_cell h)).trans h
set_option maxRecDepth 100000 in
set_option maxHeartbeats 8000000 in
theorem rsame6_self (f : Fn) (h200 : f.ns.length ≤ 1000000) (na1 na2 : Option Addr) (c1 c2 : Nat) (w : World) (hf1 : FnAt (· < w.heap.size) w f na1 c1) (hf2 : FnAt (· < w.heap.size) w f na2 c2) :
    Calls Tryz.prog 57 #[fnV f na1 c1, fnV f na2 c2] w fun e w' => e = .returned (.bool true) ∧ Below w.heap.size w w' := by
  obtain ⟨hb1, hb2⟩ := same_blks w [.int .i64 f.ps, .slice na1 f.ns.length c1] [.int .i64 f.ps, .slice na2 f.ns.length c2] 46
  have hw1 : Below w.heap.size w ((w.alloc (.cells #[.int .i64 f.ps, .slice na1 f.ns.length c1] 46)).alloc (.cells #[.int .i64 f.ps, .slice na2 f.ns.length c2] 46)) := (below_new _ _).alloc (by simp) _
  have a0 := hb1.c 0 rfl
  have a1 := hb1.c 1 rfl
  have b0 := hb2.c 0 rfl
  have b1 := hb2.c 1 rfl
  unfold fnV
  go_enter Tryz.func57, Tryz.ntmps57
  go_upto_region 3 with fail
  have hz1 : w.heap.size + 1 < ((w.alloc (.cells #[.int .i64 f.ps, .slice na1 f.ns.length c1] 46)).alloc (.cells #[.int .i64 f.ps, .slice na2 f.ns.length c2] 46)).heap.size := hb2.lt
  clear a0 a1 b0 b1
  simp only [List.toArray] at hb1 hb2
  generalize (w.alloc (.cells #[.int .i64 f.ps, .slice na1 f.ns.length c1] 46)).alloc (.cells #[.int .i64 f.ps, .slice na2 f.ns.length c2] 46) = w1 at *
  go_wp2_with fail
  go_loopw [5, 6, 7, 8] (fun ix _ _ _ wr => ∃ k : Nat, ix = .int .i64 (k : Nat) ∧ k ≤ f.ns.length ∧ Below w1.heap.size w1 wr) (fun ix _ _ _ _ => f.ns.length - (intOf ix).toNat)
  case atStart => exact ⟨0, rfl, Nat.zero_le _, Below.refl _ _⟩
  case round =>
    obtain ⟨k, rfl, hk, hbr⟩ := hrel
    have d1 := hb1.belowAll hbr
    have d2 := hb2.belowAll hbr
    have a1 := d1.c 1 rfl
    have b1 := d2.c 1 rfl
    have hbw := hw1.trans (hbr.mono hw1.size)
    by_cases hlt : k < f.ns.length
    case' neg =>
      have hkd : decide (k < f.ns.length) = false := decide_eq_false hlt
      go_wp2_with fail
      go_ret
      exact ⟨rfl, hbw⟩
    case' pos =>
      have hkd : decide (k < f.ns.length) = true := decide_eq_true hlt
      have hms := sub_lt hlt
      obtain ⟨x, hx⟩ : ∃ x, f.ns[k]? = some x := ⟨f.ns[k], List.getElem?_eq_getElem hlt⟩
      obtain ⟨g1, o1, la1, lc1, rfl, hg1, p0, p1, p2, hl1, hm1, hI1, -, -⟩ := hf1.ns.cells hbw hx
      obtain ⟨g2, o2, la2, lc2, rfl, hg2, q0, q1, q2, hl2, hm2, hI2, -, -⟩ := hf2.ns.cells hbw hx
      clear hx
      have hxl := Nat.le_trans hl1 hm1
      unfold maxLen at hxl
      go_upto_region 6 with fail
      have A1 := fun O => cellA a1 O
      have A2 := fun O O' => cellA (cellA a1 O) O'
      have B1 := fun O => cellA b1 O
      have B2 := fun O O' => cellA (cellA b1 O) O'
      have P0 := fun O => cellA p0 O
      have P1 := fun O => cellA p1 O
      have P2 := fun O => cellA p2 O
      have Q0 := fun O => cellA q0 O
      have Q1 := fun O => cellA q1 O
      have Q2 := fun O => cellA q2 O
      have P3 := fun O O' => cellA (cellA p0 O) O'
      have P4 := fun O O' => cellA (cellA p1 O) O'
      have P5 := fun O O' => cellA (cellA p2 O) O'
      have Q3 := fun O O' => cellA (cellA q0 O) O'
      have Q4 := fun O O' => cellA (cellA q1 O) O'
      have Q5 := fun O O' => cellA (cellA q2 O) O'
      go_region
      have hbe : Below wr.heap.size wr (((wr.alloc (.cells #[.int .i64 x.op, .int .i64 x.n, .slice la1 x.l.length lc1] 59)).alloc (.cells #[.int .i64 x.op, .int .i64 x.n, .slice la2 x.l.length lc2] 59)).drew) := ((below_new _ _).alloc (by simp) _).drew
      obtain ⟨e1, e2⟩ := same_blks wr [.int .i64 x.op, .int .i64 x.n, .slice la1 x.l.length lc1] [.int .i64 x.op, .int .i64 x.n, .slice la2 x.l.length lc2] 59
      replace e1 := e1.drew
      replace e2 := e2.drew
      simp only [List.toArray] at e1 e2
      obtain ⟨N1, hN1⟩ : ∃ n, n = wr.heap.size := ⟨_, rfl⟩
      obtain ⟨N2, hN2⟩ : ∃ n, n = wr.heap.size + 1 := ⟨_, rfl⟩
      rw [← hN2] at e2 ⊢
      rw [← hN1] at e1 ⊢
      generalize ((wr.alloc (.cells #[.int .i64 x.op, .int .i64 x.n, .slice la1 x.l.length lc1] 59)).alloc (.cells #[.int .i64 x.op, .int .i64 x.n, .slice la2 x.l.length lc2] 59)).drew = w4 at *
      rotate_left
      have hbe : Below wr.heap.size wr (((wr.alloc (.cells #[.int .i64 x.op, .int .i64 x.n, .slice la2 x.l.length lc2] 59)).alloc (.cells #[.int .i64 x.op, .int .i64 x.n, .slice la1 x.l.length lc1] 59)).drew) := ((below_new _ _).alloc (by simp) _).drew
      obtain ⟨e2, e1⟩ := same_blks wr [.int .i64 x.op, .int .i64 x.n, .slice la2 x.l.length lc2] [.int .i64 x.op, .int .i64 x.n, .slice la1 x.l.length lc1] 59
      replace e1 := e1.drew
      replace e2 := e2.drew
      simp only [List.toArray] at e1 e2
      obtain ⟨N2, hN1⟩ : ∃ n, n = wr.heap.size := ⟨_, rfl⟩
      obtain ⟨N1, hN2⟩ : ∃ n, n = wr.heap.size + 1 := ⟨_, rfl⟩
      rw [← hN2] at e1 ⊢
      rw [← hN1] at e2 ⊢
      generalize ((wr.alloc (.cells #[.int .i64 x.op, .int .i64 x.n, .slice la2 x.l.length lc2] 59)).alloc (.cells #[.int .i64 x.op, .int .i64 x.n, .slice la1 x.l.length lc1] 59)).drew = w4 at *
      all_goals
        clear A1 A2 B1 B2 P0 P1 P2 P3 P4 P5 Q0 Q1 Q2 Q3 Q4 Q5 p0 p1 p2 q0 q1 q2 a1 b1 hN1 hN2
        have hb4 := hbr.trans (hbe.mono hbr.size)
        have hbw4 := hbw.trans (hbe.mono hbw.size)
        have hJ1 := hI1.below (hbe.mono hbw.size)
        have hJ2 := hI2.below (hbe.mono hbw.size)
        clear d1 d2 hI1 hI2 hbe
        have n10 := e1.c 0 rfl
        have n11 := e1.c 1 rfl
        have n12 := e1.c 2 rfl
        have n20 := e2.c 0 rfl
        have n21 := e2.c 1 rfl
        have n22 := e2.c 2 rfl
        go_wp2_with fail
        go_loopw [8] (fun ix wq => ∃ i : Nat, ix = .int .i64 (i : Nat) ∧ i ≤ x.l.length ∧ Below w4.heap.size w4 wq) (fun ix _ => x.l.length - (intOf ix).toNat)
        case atStart => exact ⟨0, rfl, Nat.zero_le _, Below.refl _ _⟩
        case round =>
          obtain ⟨i, rfl, hi, hbq⟩ := hrel
          have t1 := (e1.belowAll hbq).c 2 rfl
          have t2 := (e2.belowAll hbq).c 2 rfl
          clear n10 n11 n12 n20 n21 n22
          by_cases hil : i < x.l.length
          case' pos =>
            have hid : decide (i < x.l.length) = true := decide_eq_true hil
            have hms2 := sub_lt hil
            obtain ⟨y, hy⟩ : ∃ y, x.l[i]? = some y := ⟨x.l[i], List.getElem?_eq_getElem hil⟩
            obtain ⟨h1, r1, rfl, hh1, s1, -⟩ := hJ1 i y hy
            obtain ⟨h2, r2, rfl, hh2, s2, -⟩ := hJ2 i y hy
            have v1 := (hbq.cell (p := ⟨h1, r1 + i, none⟩) (by have := hbw4.size; dsimp only; omega)).trans s1
            have v2 := (hbq.cell (p := ⟨h2, r2 + i, none⟩) (by have := hbw4.size; dsimp only; omega)).trans s2
            clear hy s1 s2
            go_upto_region 12 with fail
            go_quiet (fail)
            go_wp2_with fail
            go_roundw
            case' rel => exact ⟨i + 1, by go_num, hil, ⟨hbq.os, hbq.tape, hbq.output, hbq.size, hbq.block⟩⟩
            case' measure => exact meas_lt hms2
          case' neg =>
            have hid : decide (i < x.l.length) = false := decide_eq_false hil
            have hb5 := hb4.trans (hbq.mono hb4.size)
            go_wp2_with fail
            go_roundw
            case' rel => exact ⟨k + 1, by go_num, hlt, hb5⟩
            case' measure => exact meas_lt hms
set_option maxRecDepth 100000 in
set_option maxHeartbeats 4000000 in
theorem rfuns_self (p : List Fn) (hp : ∀ f ∈ p, f.ns.length ≤ 1000000) (hpl : p.length ≤ 1000000) (pa1 pa2 : Option Addr) (c1 c2 : Nat) (w : World) (hf1 : PAt (· < w.heap.size) w p pa1 c1) (hf2 : PAt (· < w.heap.size) w p pa2 c2) :
    Calls Tryz.prog 34 #[.slice pa1 p.length c1, .slice pa2 p.length c2] w fun e w' => e = .returned (.bool true) ∧ Below w.heap.size w w' := by
  go_enter Tryz.func34, Tryz.ntmps34
  go_wp2_with fail
  go_loopw [5] (fun ix wr => ∃ k : Nat, ix = .int .i64 (k : Nat) ∧ k ≤ p.length ∧ Below w.heap.size w wr) (fun ix _ => p.length - (intOf ix).toNat)
  case atStart => exact ⟨0, rfl, Nat.zero_le _, Below.refl _ _⟩
  case round =>
    obtain ⟨k, rfl, hk, hbr⟩ := hrel
    by_cases hlt : k < p.length
    case' neg =>
      have hkd : decide (k < p.length) = false := decide_eq_false hlt
      go_wp2_with fail
      go_ret
      exact ⟨rfl, hbr⟩
    case' pos =>
      have hkd : decide (k < p.length) = true := decide_eq_true hlt
      have hms := sub_lt hlt
      obtain ⟨f, hf⟩ : ∃ f, p[k]? = some f := ⟨p[k], List.getElem?_eq_getElem hlt⟩
      have hfl := hp f (List.mem_of_getElem? hf)
      obtain ⟨g1, o1, na1, l1, rfl, hg1, p0, p1, hl1, hm1, hI1, hr1⟩ := hf1.fs.cells hbr hf
      obtain ⟨g2, o2, na2, l2, rfl, hg2, q0, q1, hl2, hm2, hI2, hr2⟩ := hf2.fs.cells hbr hf
      have A1 : FnAt (· < wr.heap.size) wr f na1 l1 := ⟨hI1.more fun j hj => Nat.lt_of_lt_of_le hj hbr.size, hl1, hm1, hr1⟩
      have A2 : FnAt (· < wr.heap.size) wr f na2 l2 := ⟨hI2.more fun j hj => Nat.lt_of_lt_of_le hj hbr.size, hl2, hm2, hr2⟩
      have cS : ∀ d os, Calls Tryz.prog 57 #[.agg #[.int .i64 f.ps, .slice na1 f.ns.length l1], .agg #[.int .i64 f.ps, .slice na2 f.ns.length l2]] (grow (redrawn wr d) os) fun e w'' => e = .returned (.bool true) ∧ ∃ p : Regrown, w'' = grow (redrawn wr p.d) p.os := fun d os =>
        Calls.regrown_of (rsame6_self f hfl na1 na2 l1 l2 _ (A1.later (below_regrown wr d os)) (A2.later (below_regrown wr d os)))
      have y0 := fun d os => cell_regrown p0 d os
      have y1 := fun d os => cell_regrown p1 d os
      have z0 := fun d os => cell_regrown q0 d os
      have z1 := fun d os => cell_regrown q1 d os
      clear hf p0 p1 q0 q1 hI1 hI2 A1 A2 hfl
      go_upto_region 6 with fail
      refine wp_region_quiet_below (by kernel_rfl) (by kernel_rfl) ?_
      repeat (go_big_quiet_step (exact cS _ _))
      refine wpQuiet_nil ?_
      intro _ hw'
      obtain ⟨⟨dq, osq⟩, hw''⟩ := hw'
      subst hw''
      have hb3 := hbr.trans ((below_regrown wr dq osq).mono hbr.size)
      clear cS y0 y1 z0 z1
      generalize grow (redrawn wr dq) osq = w3 at *
      go_wp2_with fail
      go_roundw
      case' rel => exact ⟨k + 1, by go_num, hlt, hb3⟩
      case' measure => exact meas_lt hms
set_option maxHeartbeats 1000000 in
theorem rsame_self (p : List Fn) (hp : ∀ f ∈ p, f.ns.length ≤ 1000000) (hpl : p.length ≤ 1000000) (pa1 pa2 : Option Addr) (c1 c2 : Nat) (w : World) (hf1 : PAt (· < w.heap.size) w p pa1 c1) (hf2 : PAt (· < w.heap.size) w p pa2 c2) :
    Calls Tryz.prog 14 #[prV p pa1 c1, prV p pa2 c2] w fun e w' => e = .returned (.bool true) ∧ Below w.heap.size w w' := by
  obtain ⟨hb1, hb2⟩ := same_blks w [.slice pa1 p.length c1] [.slice pa2 p.length c2] 24
  have hw1 : Below w.heap.size w ((w.alloc (.cells #[.slice pa1 p.length c1] 24)).alloc (.cells #[.slice pa2 p.length c2] 24)) := (below_new _ _).alloc (by simp) _
  have a0 := hb1.c 0 rfl
  have b0 := hb2.c 0 rfl
  have hF := rfuns_self p hp hpl pa1 pa2 c1 c2 _ (hf1.later hw1) (hf2.later hw1)
  unfold prV
  go_enter Tryz.func14, Tryz.ntmps14
  go_wp2_with (go_at_call 34; refine hF.mono ?_; rintro e w2 ⟨rfl, hb2⟩)
  go_ret
  exact ⟨rfl, hw1.trans (hb2.mono hw1.size)⟩
end Go.Proofs.YtjendlnicbieoaaGreatDoor
