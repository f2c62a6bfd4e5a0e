/-
  Packages fun, program: Same of two programs that read alike.
-/
import Derived.Test.YtjendlnicbieoaaGreatDoorSs
import Derived.Test.YtjendlnicbieoaaGreatDoorShelf
namespace Go.Proofs.YtjendlnicbieoaaGreatDoor
open Go.RowKit Go.Sort

/-- Two rows of numbers that read alike. -/
theorem eqI_self (l : List Int) (hl : l.length ≤ 1000000000) (a1 a2 : Option Addr) (c1 c2 : Nat) (w : World) (h1 : IsI (· < w.heap.size) w l a1) (h2 : IsI (· < w.heap.size) w l a2) :
    Calls Tryz.prog 64 #[.slice a1 l.length c1, .slice a2 l.length c2] w fun e w' => e = .returned (.bool true) ∧ Below w.heap.size w w' := by
  cases l with
  | nil =>
    refine (Tryz.slices_Equal_int_empty a1 a2 c1 0 c2 w (by omega)).mono ?_
    rintro e w' ⟨rfl, rfl⟩
    exact ⟨rfl, Below.refl _ _⟩
  | cons x r =>
    obtain ⟨b1, o1, rfl, -, -, -⟩ := h1 0 x rfl
    obtain ⟨b2, o2, rfl, -, -, -⟩ := h2 0 x rfl
    have hc : ∀ {b o : Nat}, IsI (· < w.heap.size) w (x :: r) (some ⟨b, o, none⟩) → ∀ j, j < (x :: r).length → w.cell? ⟨b, o + j, none⟩ = some (.int .i64 ((x :: r).getD j 0)) := by
      intro b o h j hj
      obtain ⟨g, o', e, -, hv, -⟩ := h j _ (List.getElem?_eq_getElem hj)
      injection e with e
      injection e with e1 e2
      subst e1
      subst e2
      rw [hv, List.getD_eq_getElem?_getD, List.getElem?_eq_getElem hj]
      rfl
    refine (Tryz.slices_Equal_int b1 o1 (x :: r).length c1 b2 o2 (x :: r).length c2 (x :: r) (x :: r) w (Nat.le_refl _) (Nat.le_refl _) (by omega) (by omega) (hc h1) (hc h2)).mono ?_
    rintro e w' ⟨rfl, q, rfl⟩
    exact ⟨by simp, ⟨rfl, rfl, rfl, Nat.le_refl _, fun _ _ => rfl⟩⟩
set_option maxRecDepth 100000 in
set_option maxHeartbeats 2000000 in
theorem eqNd_self (x : Nd) (hx : x.l.length ≤ 1000000) (la1 la2 : Option Addr) (c1 c2 : Nat) (w : World) (h1 : IsI (· < w.heap.size) w x.l la1) (h2 : IsI (· < w.heap.size) w x.l la2) :
    Calls Tryz.prog 63 #[.agg #[.int .i64 x.op, .int .i64 x.n, .slice la1 x.l.length c1], .agg #[.int .i64 x.op, .int .i64 x.n, .slice la2 x.l.length c2]] w fun e w' => e = .returned (.bool true) ∧ Below w.heap.size w w' := by
  obtain ⟨hb1, hb2⟩ := same_blks w [.int .i64 x.op, .int .i64 x.n, .slice la1 x.l.length c1] [.int .i64 x.op, .int .i64 x.n, .slice la2 x.l.length c2] 59
  have hw1 : Below w.heap.size w ((w.alloc (.cells #[.int .i64 x.op, .int .i64 x.n, .slice la1 x.l.length c1] 59)).alloc (.cells #[.int .i64 x.op, .int .i64 x.n, .slice la2 x.l.length c2] 59)) := (below_new _ _).alloc (by simp) _
  have a0 := hb1.c 0 rfl
  have a1 := hb1.c 1 rfl
  have a2 := hb1.c 2 rfl
  have b0 := hb2.c 0 rfl
  have b1 := hb2.c 1 rfl
  have b2 := hb2.c 2 rfl
  have hE := eqI_self x.l (by omega) la1 la2 c1 c2 _ (h1.below hw1 |>.more fun _ hg => Nat.lt_of_lt_of_le hg hw1.size) (h2.below hw1 |>.more fun _ hg => Nat.lt_of_lt_of_le hg hw1.size)
  go_enter Tryz.func63, Tryz.ntmps63
  go_wp2_with (go_at_call 64; refine hE.mono ?_; rintro e w2 ⟨rfl, hb2⟩)
  go_ret
  exact ⟨rfl, hw1.trans (hb2.mono hw1.size)⟩
set_option maxRecDepth 100000 in
set_option maxHeartbeats 4000000 in
theorem eqNs_self (l : List Nd) (hl : l.length ≤ 1000000) (hx : ∀ x ∈ l, x.l.length ≤ 1000000) (a1 a2 : Option Addr) (c1 c2 : Nat) (w : World) (h1 : IsNs (· < w.heap.size) w l a1) (h2 : IsNs (· < w.heap.size) w l a2) :
    Calls Tryz.prog 62 #[.slice a1 l.length c1, .slice a2 l.length c2, .func (.func 63) #[] #[]] w fun e w' => e = .returned (.bool true) ∧ Below w.heap.size w w' := by
  have HX := Lib.hid hx
  clear hx
  go_enter Tryz.func62, Tryz.ntmps62
  go_wp2_with fail
  go_loopw [7, 8, 9, 17] (fun _ _ _ ix wr => ∃ k : Nat, ix = .int .i64 (k : Nat) ∧ k ≤ l.length ∧ Below w.heap.size w wr) (fun _ _ _ ix _ => l.length - (intOf ix).toNat)
  case atStart => exact ⟨0, rfl, Nat.zero_le _, Below.refl _ _⟩
  case round =>
    obtain ⟨k, rfl, hk, hbr⟩ := hrel
    by_cases hlt : k < l.length
    case' neg =>
      have hkd : decide (k < l.length) = false := decide_eq_false hlt
      go_wp2_with fail
      go_ret
      exact ⟨rfl, hbr⟩
    case' pos =>
      have hkd : decide (k < l.length) = true := decide_eq_true hlt
      have hms := sub_lt hlt
      obtain ⟨x, hx⟩ : ∃ x, l[k]? = some x := ⟨l[k], List.getElem?_eq_getElem hlt⟩
      obtain ⟨g1, o1, la1, lc1, rfl, hg1, p0, p1, p2, hl1, hm1, hI1, -, -⟩ := h1.cells hbr hx
      obtain ⟨g2, o2, la2, lc2, rfl, hg2, q0, q1, q2, hl2, hm2, hI2, -, -⟩ := h2.cells hbr hx
      have hb9 := below_new wr (.cells #[.int .i64 x.op, .int .i64 x.n, .slice la1 x.l.length lc1] 59)
      have z0 := (hb9.cell (p := ⟨g2, o2 + k * 3, none⟩) (by have := hbr.size; dsimp only; omega)).trans q0
      have z1 := (hb9.cell (p := ⟨g2, o2 + k * 3 + 1, none⟩) (by have := hbr.size; dsimp only; omega)).trans q1
      have z2 := (hb9.cell (p := ⟨g2, o2 + k * 3 + 2, none⟩) (by have := hbr.size; dsimp only; omega)).trans q2
      obtain ⟨e1, e2⟩ := same_blks wr [.int .i64 x.op, .int .i64 x.n, .slice la1 x.l.length lc1] [.int .i64 x.op, .int .i64 x.n, .slice la2 x.l.length lc2] 59
      have hwe : Below wr.heap.size wr ((wr.alloc (.cells #[.int .i64 x.op, .int .i64 x.n, .slice la1 x.l.length lc1] 59)).alloc (.cells #[.int .i64 x.op, .int .i64 x.n, .slice la2 x.l.length lc2] 59)) := (below_new _ _).alloc (by simp) _
      have n10 := e1.c 0 rfl
      have n11 := e1.c 1 rfl
      have n12 := e1.c 2 rfl
      have n20 := e2.c 0 rfl
      have n21 := e2.c 1 rfl
      have n22 := e2.c 2 rfl
      have hS := eqNd_self x (HX.out x (List.mem_of_getElem? hx)) la1 la2 lc1 lc2 _ (hI1.below (hwe.mono hbr.size) |>.more fun _ hg => by have := hbr.size; have := hwe.size; omega) (hI2.below (hwe.mono hbr.size) |>.more fun _ hg => by have := hbr.size; have := hwe.size; omega)
      clear hx
      go_wp2_with (go_at_call 63; refine hS.mono ?_; rintro e w2 ⟨rfl, hb2⟩)
      go_roundw
      case' rel => exact ⟨k + 1, by go_num, hlt, hbr.trans ((hwe.trans (hb2.mono hwe.size)).mono hbr.size)⟩
      case' measure => exact meas_lt hms
set_option maxRecDepth 100000 in
set_option maxHeartbeats 2000000 in
theorem eqF_self (f : Fn) (hf : f.ns.length ≤ 1000000) (hx : ∀ x ∈ f.ns, x.l.length ≤ 1000000) (na1 na2 : Option Addr) (c1 c2 : Nat) (w : World) (h1 : FnAt (· < w.heap.size) w f na1 c1) (h2 : FnAt (· < w.heap.size) w f na2 c2) :
    Calls Tryz.prog 37 #[fnV f na1 c1, fnV f na2 c2] w fun e w' => e = .returned (.bool true) ∧ Below w.heap.size w w' := by
  obtain ⟨hb1, hb2⟩ := same_blks w [.int .i64 f.ps, .slice na1 f.ns.length c1] [.int .i64 f.ps, .slice na2 f.ns.length c2] 46
  have hw1 : Below w.heap.size w ((w.alloc (.cells #[.int .i64 f.ps, .slice na1 f.ns.length c1] 46)).alloc (.cells #[.int .i64 f.ps, .slice na2 f.ns.length c2] 46)) := (below_new _ _).alloc (by simp) _
  have a0 := hb1.c 0 rfl
  have a1 := hb1.c 1 rfl
  have b0 := hb2.c 0 rfl
  have b1 := hb2.c 1 rfl
  have hE := eqNs_self f.ns hf hx na1 na2 c1 c2 _ (h1.later hw1).ns (h2.later hw1).ns
  clear hx
  unfold fnV
  go_enter Tryz.func37, Tryz.ntmps37
  go_wp2_with (go_at_call 62; refine hE.mono ?_; rintro e w2 ⟨rfl, hb2⟩)
  go_ret
  exact ⟨rfl, hw1.trans (hb2.mono hw1.size)⟩
set_option maxRecDepth 100000 in
set_option maxHeartbeats 4000000 in
theorem eqFs_self (p : List Fn) (hp : p.length ≤ 1000000) (hf : ∀ f ∈ p, f.ns.length ≤ 1000000 ∧ ∀ x ∈ f.ns, x.l.length ≤ 1000000) (a1 a2 : Option Addr) (c1 c2 : Nat) (w : World) (h1 : IsFs (· < w.heap.size) w p a1) (h2 : IsFs (· < w.heap.size) w p a2) :
    Calls Tryz.prog 36 #[.slice a1 p.length c1, .slice a2 p.length c2, .func (.func 37) #[] #[]] w fun e w' => e = .returned (.bool true) ∧ Below w.heap.size w w' := by
  have HX := Lib.hid hf
  clear hf
  go_enter Tryz.func36, Tryz.ntmps36
  go_wp2_with fail
  go_loopw [7, 8, 9, 17] (fun _ _ _ ix wr => ∃ k : Nat, ix = .int .i64 (k : Nat) ∧ k ≤ p.length ∧ Below w.heap.size w wr) (fun _ _ _ ix _ => p.length - (intOf ix).toNat)
  case atStart => exact ⟨0, rfl, Nat.zero_le _, Below.refl _ _⟩
  case round =>
    obtain ⟨k, rfl, hk, hbr⟩ := hrel
    by_cases hlt : k < p.length
    case' neg =>
      have hkd : decide (k < p.length) = false := decide_eq_false hlt
      go_wp2_with fail
      go_ret
      exact ⟨rfl, hbr⟩
    case' pos =>
      have hkd : decide (k < p.length) = true := decide_eq_true hlt
      have hms := sub_lt hlt
      obtain ⟨f, hf⟩ : ∃ f, p[k]? = some f := ⟨p[k], List.getElem?_eq_getElem hlt⟩
      obtain ⟨g1, o1, la1, lc1, rfl, hg1, p0, p1, hl1, hm1, hI1, hr1⟩ := h1.cells hbr hf
      obtain ⟨g2, o2, la2, lc2, rfl, hg2, q0, q1, hl2, hm2, hI2, hr2⟩ := h2.cells hbr hf
      have hb9 := below_new wr (.cells #[.int .i64 f.ps, .slice la1 f.ns.length lc1] 46)
      have z0 := (hb9.cell (p := ⟨g2, o2 + k * 2, none⟩) (by have := hbr.size; dsimp only; omega)).trans q0
      have z1 := (hb9.cell (p := ⟨g2, o2 + k * 2 + 1, none⟩) (by have := hbr.size; dsimp only; omega)).trans q1
      obtain ⟨e1, e2⟩ := same_blks wr [.int .i64 f.ps, .slice la1 f.ns.length lc1] [.int .i64 f.ps, .slice la2 f.ns.length lc2] 46
      have hwe : Below wr.heap.size wr ((wr.alloc (.cells #[.int .i64 f.ps, .slice la1 f.ns.length lc1] 46)).alloc (.cells #[.int .i64 f.ps, .slice la2 f.ns.length lc2] 46)) := (below_new _ _).alloc (by simp) _
      have n10 := e1.c 0 rfl
      have n11 := e1.c 1 rfl
      have n20 := e2.c 0 rfl
      have n21 := e2.c 1 rfl
      have A1 : FnAt (· < wr.heap.size) wr f la1 lc1 := ⟨hI1.more fun j hj => Nat.lt_of_lt_of_le hj hbr.size, hl1, hm1, hr1⟩
      have A2 : FnAt (· < wr.heap.size) wr f la2 lc2 := ⟨hI2.more fun j hj => Nat.lt_of_lt_of_le hj hbr.size, hl2, hm2, hr2⟩
      obtain ⟨hf1, hf2⟩ := HX.out f (List.mem_of_getElem? hf)
      have hS := eqF_self f hf1 hf2 la1 la2 lc1 lc2 _ (A1.later hwe) (A2.later hwe)
      unfold fnV at hS
      clear hf hf2
      go_wp2_with (go_at_call 37; refine hS.mono ?_; rintro e w2 ⟨rfl, hb2⟩)
      go_roundw
      case' rel => exact ⟨k + 1, by go_num, hlt, hbr.trans ((hwe.trans (hb2.mono hwe.size)).mono hbr.size)⟩
      case' measure => exact meas_lt hms
set_option maxHeartbeats 1000000 in
theorem psame_self (p : List Fn) (hp : p.length ≤ 1000000) (hf : ∀ f ∈ p, f.ns.length ≤ 1000000 ∧ ∀ x ∈ f.ns, x.l.length ≤ 1000000) (pa1 pa2 : Option Addr) (c1 c2 : Nat) (w : World) (hf1 : PAt (· < w.heap.size) w p pa1 c1) (hf2 : PAt (· < w.heap.size) w p pa2 c2) :
    Calls Tryz.prog 16 #[prV p pa1 c1, prV p pa2 c2] w fun e w' => e = .returned (.bool true) ∧ Below w.heap.size w w' := by
  obtain ⟨hb1, hb2⟩ := same_blks w [.slice pa1 p.length c1] [.slice pa2 p.length c2] 24
  have hw1 : Below w.heap.size w ((w.alloc (.cells #[.slice pa1 p.length c1] 24)).alloc (.cells #[.slice pa2 p.length c2] 24)) := (below_new _ _).alloc (by simp) _
  have a0 := hb1.c 0 rfl
  have b0 := hb2.c 0 rfl
  have hF := eqFs_self p hp hf pa1 pa2 c1 c2 _ (hf1.later hw1).fs (hf2.later hw1).fs
  clear hf
  unfold prV
  go_enter Tryz.func16, Tryz.ntmps16
  go_wp2_with (go_at_call 36; refine hF.mono ?_; rintro e w2 ⟨rfl, hb2⟩)
  go_ret
  exact ⟨rfl, hw1.trans (hb2.mono hw1.size)⟩
end Go.Proofs.YtjendlnicbieoaaGreatDoor
