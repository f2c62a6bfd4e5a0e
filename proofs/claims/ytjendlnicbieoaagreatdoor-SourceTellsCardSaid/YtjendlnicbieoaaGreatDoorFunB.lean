/-
  Walks over package fun: right: a node of a view.
-/
import Derived.Test.YtjendlnicbieoaaGreatDoorFunA
import Derived.LoopTactic
import Derived.RegionTactic
import Derived.Lib.QuietBelow
import Derived.BigQuiet
import Derived.Lib.Hide
import Derived.Deep.OwnRows
namespace Go.Proofs.YtjendlnicbieoaaGreatDoor
open Go.RowKit Go.Sort

def arr (l : List Int) : List Value := l.map fun x => .int .i64 x
theorem arr_at {l : List Int} {i : Nat} {x : Int} (h : l[i]? = some x) : (arr l)[i]? = some (.int .i64 x) := by simp [arr, h]
theorem arr_set (l : List Int) (i : Nat) (x : Int) : (arr l).set i (.int .i64 x) = arr (l.set i x) := by simp [arr, List.map_set]
def ups (q : Pl) : List Int := q.map (·.1)
def deps (q : Pl) : List Int := q.map (·.2)
theorem ups_at {q : Pl} {i : Nat} (h : i < q.length) : (ups q)[i]? = some (pl q i).1 := by
  unfold ups pl
  simp [List.getD_eq_getElem?_getD, List.getElem?_eq_getElem h]
theorem deps_at {q : Pl} {i : Nat} (h : i < q.length) : (deps q)[i]? = some (pl q i).2 := by
  unfold deps pl
  simp [List.getD_eq_getElem?_getD, List.getElem?_eq_getElem h]
theorem ups_set (q : Pl) (i : Nat) (x : Int × Int) : ups (q.set i x) = (ups q).set i x.1 := by simp [ups, List.map_set]
theorem deps_set (q : Pl) (i : Nat) (x : Int × Int) : deps (q.set i x) = (deps q).set i x.2 := by simp [deps, List.map_set]
/-- A view of a function: its block, the rows of parents and of depths. -/
structure Vw (w : World) (V P D : Nat) (f : Fn) (na : Option Addr) (cap : Nat) (q : Pl) : Prop where
  v : Blk w V 133 [.int .i64 f.ps, .slice na f.ns.length cap, .slice (some ⟨P, 0, none⟩) f.ns.length f.ns.length, .slice (some ⟨D, 0, none⟩) f.ns.length f.ns.length]
  p : Blk w P 3 (arr (ups q))
  d : Blk w D 3 (arr (deps q))
  len : q.length = f.ns.length
  pd : P ≠ D
  vp : V ≠ P
  vd : V ≠ D
theorem Vw.fr {S : Nat → Prop} {w w' : World} {V P D : Nat} {f : Fn} {na : Option Addr} {cap : Nat} {q : Pl} (h : Vw w V P D f na cap q) (hf : Fr S w w') (h1 : ¬ S V) (h2 : ¬ S P) (h3 : ¬ S D) : Vw w' V P D f na cap q :=
  ⟨h.v.fr hf h1, h.p.fr hf h2, h.d.fr hf h3, h.len, h.pd, h.vp, h.vd⟩
theorem Vw.belowAll {w w' : World} {V P D : Nat} {f : Fn} {na : Option Addr} {cap : Nat} {q : Pl} (h : Vw w V P D f na cap q) (hb : Below w.heap.size w w') : Vw w' V P D f na cap q :=
  h.fr (S := fun _ => False) (Fr.belowAll hb) id id id
theorem set_self (l : List Int) (m : Nat) (x : Int) (h : l[m]? = some x) : l.set m x = l := by
  apply List.ext_getElem?
  intro j
  rw [List.getElem?_set]
  by_cases e : m = j
  · subst e
    obtain ⟨h1, h2⟩ := List.getElem?_eq_some_iff.1 h
    simp [h1, h2]
  · simp [e]
theorem Vw.setP {w : World} {V P D m : Nat} {f : Fn} {na : Option Addr} {cap : Nat} {q : Pl} (h : Vw w V P D f na cap q) (hm : m < q.length) (a : Int) : Vw (w.setCell ⟨P, m, none⟩ (.int .i64 a)) V P D f na cap (q.set m (a, (pl q m).2)) := by
  refine ⟨h.v.far h.vp _, ?_, ?_, by simpa using h.len, h.pd, h.vp, h.vd⟩
  · have := h.p.set m (.int .i64 a)
    rwa [arr_set, ← ups_set q m (a, (pl q m).2)] at this
  · rw [deps_set, set_self _ _ _ (deps_at hm)]
    exact h.d.far (Ne.symm h.pd) _
theorem Vw.setD {w : World} {V P D m : Nat} {f : Fn} {na : Option Addr} {cap : Nat} {q : Pl} (h : Vw w V P D f na cap q) (hm : m < q.length) (a : Int) : Vw (w.setCell ⟨D, m, none⟩ (.int .i64 a)) V P D f na cap (q.set m ((pl q m).1, a)) := by
  refine ⟨h.v.far h.vd _, ?_, ?_, by simpa using h.len, h.pd, h.vp, h.vd⟩
  · rw [ups_set, set_self _ _ _ (ups_at hm)]
    exact h.p.far h.pd _
  · have := h.d.set m (.int .i64 a)
    rwa [arr_set, ← deps_set q m ((pl q m).1, a)] at this
theorem set_two (q : Pl) (m : Nat) (hm : m < q.length) (a b : Int) : (q.set m (a, (pl q m).2)).set m ((pl (q.set m (a, (pl q m).2)) m).1, b) = q.set m (a, b) := by
  rw [pl_set _ _ _ _ hm, if_pos rfl, List.set_set]
theorem kids16 {op : Int} {m : Nat} (h : kidsOk op m = true) : m ≤ 16 := by
  unfold kidsOk at h
  repeat' split at h
  all_goals (simp at h; try omega)
theorem cast_ne_one {k : Nat} (h : ¬ k = 1) : ((k : Int) == 1) = false := by simp; omega
theorem sub_lt {k n : Nat} (h : k < n) : n - (k + 1) < n - k := by omega
theorem meas_lt {k n : Nat} (h : n - (k + 1) < n - k) : n - (intOf (.int .i64 ((k : Int) + 1))).toNat < n - (intOf (.int .i64 (k : Int))).toNat := by
  simp only [intOf]
  have e : ((k : Int) + 1).toNat = k + 1 := by omega
  rw [e, Int.toNat_natCast]
  exact h
theorem two_le {k n : Nat} (h : k = 1) (hl : k < n) : 2 ≤ n := by omega
theorem two_kids {n i k : Nat} {d : Int} {lt : Bool} {l : List Int} {p : Pl} {r : Option Pl} (h : k = 1) (hk : kidsP n i d lt (k + 1) (l.drop (k + 1)) p = r) : kidsP n i d lt 2 (l.drop 2) p = r := by
  subst h
  exact hk
theorem two_meas {k n : Nat} (h : k = 1) (hk : n - (k + 1) < n - k) : n - (intOf (.int .i64 2)).toNat < n - (intOf (.int .i64 (k : Int))).toNat := by
  subst h
  exact hk
def RightE (r : Option Pl) (V P D : Nat) (f : Fn) (na : Option Addr) (cap : Nat) (w : World) (e : Ending) (w' : World) : Prop := Fr (fun k => k = P ∨ k = D) w w' ∧ match r with
  | some q' => e = .returned (.bool true) ∧ Vw w' V P D f na cap q'
  | none => e = .returned (.bool false)
theorem RightE.no {r : Option Pl} {V P D : Nat} {f : Fn} {na : Option Addr} {cap : Nat} {w w' : World} (h : Hid (r = none)) (hf : Fr (fun k => k = P ∨ k = D) w w') : RightE r V P D f na cap w (.returned (.bool false)) w' := by
  unfold RightE
  rw [h.out]
  exact ⟨hf, rfl⟩
set_option maxRecDepth 100000 in
set_option maxHeartbeats 4000000 in
theorem right_any (f : Fn) (hn : f.ns.length ≤ 200) (na : Option Addr) (cap : Nat) (V P D i : Nat) (x : Nd) (q : Pl) (w : World) (hx : f.ns[i]? = some x) (hv : Vw w V P D f na cap q)
    (hd : ∀ j, j < q.length → -1 ≤ (pl q j).2 ∧ (pl q j).2 ≤ 1000) (ok : Nat → Prop) (hok : ∀ g, ok g → g < w.heap.size ∧ g ≠ P ∧ g ≠ D) (hns : IsNs ok w f.ns na) :
    Calls Tryz.prog 67 #[.pointer (some ⟨V, 0, none⟩), .int .i64 (i : Nat)] w (RightE (nodeP f.ns.length i x q) V P D f na cap w) := by
  have hi : i < f.ns.length := (List.getElem?_eq_some_iff.1 hx).1
  have hql := hv.len
  have hvl := hv.v.lt
  have hpl := hv.p.lt
  have hdl := hv.d.lt
  have v0 := hv.v.c 0 rfl
  have v1 := hv.v.c 1 rfl
  have v2 := hv.v.c 2 rfl
  have v3 := hv.v.c 3 rfl
  have p0 := hv.p.c i (arr_at (ups_at (q := q) (i := i) (by omega)))
  have d0 := hv.d.c i (arr_at (deps_at (q := q) (i := i) (by omega)))
  obtain ⟨g, o, la, lc, rfl, hg, c0, c1, c2, hlc, hcm, hL, r1, r2⟩ := hns i x hx
  have hdi : decide (i < f.ns.length) = true := by simpa using hi
  obtain ⟨r, hr⟩ : ∃ r, nodeP f.ns.length i x q = r := ⟨_, rfl⟩
  rw [hr]
  have hbad : badN i x q → Hid (r = none) := fun hb => by
    show _ = _
    rw [← hr]
    unfold nodeP
    rw [if_pos hb]
  obtain ⟨u, hu⟩ : ∃ u, (pl q i).1 = u := ⟨_, rfl⟩
  obtain ⟨dp, hdp⟩ : ∃ dp, (pl q i).2 = dp := ⟨_, rfl⟩
  have hwr : wrap64 (dp + 1) = dp + 1 := by
    have h1 := hd i (by omega)
    rw [hdp] at h1
    exact wrap64_id (by omega) (by omega)
  have HU := Lib.hid hu
  have HD := Lib.hid hdp
  rw [hu] at p0
  rw [hdp] at d0
  by_cases hA : 0 < i ∧ u < 0
  · have HB := hbad (.inl (by rw [hu]; exact hA))
    have q1 : decide (0 < (i : Int)) = true := by simp; omega
    have q2 : decide (u < 0) = true := by simpa using hA.2
    clear hbad hr
    go_enter Tryz.func67, Tryz.ntmps67
    go_wp2_with fail
    go_ret
    exact RightE.no HB (Fr.refl _ _)
  by_cases hB : 64 < dp
  · have HB := hbad (.inr (.inl (by rw [hdp]; exact hB)))
    have q3 : decide (64 < dp) = true := by simpa using hB
    clear hbad hr
    by_cases hi0 : 0 < i
    case' pos =>
      have q1 : decide (0 < (i : Int)) = true := by simp; omega
      have q2 : decide (u < 0) = false := by simp; omega
    case' neg =>
      have q1 : decide (0 < (i : Int)) = false := by simp; omega
    all_goals
      go_enter Tryz.func67, Tryz.ntmps67
      go_wp2_with fail
      go_ret
      exact RightE.no HB (Fr.refl _ _)
  have q3 : decide (64 < dp) = false := by simp; omega
  by_cases hi0 : 0 < i
  case' pos =>
    have q1 : decide (0 < (i : Int)) = true := by simp; omega
    have q2 : decide (u < 0) = false := by simp; omega
  case' neg =>
    have q1 : decide (0 < (i : Int)) = false := by simp; omega
  all_goals
    go_enter Tryz.func67, Tryz.ntmps67
    go_upto_region 4 with fail
    have hw1 : Below w.heap.size w (w.alloc (.cells #[.int .i64 x.op, .int .i64 x.n, .slice la x.l.length lc] 59)) := (Below.refl _ _).alloc (Nat.le_refl _) _
    have hN := Blk.new w 59 [.int .i64 x.op, .int .i64 x.n, .slice la x.l.length lc]
    rw [List.toArray] at hN
    have hv1 := hv.belowAll hw1
    have hL1 : IsI ok (w.alloc (.cells #[.int .i64 x.op, .int .i64 x.n, .slice la x.l.length lc] 59)) x.l la := hL.fr (S := fun _ => False) (Fr.belowAll hw1) fun g hg => ⟨(hok g hg).1, id⟩
    clear v0 v1 v2 v3 p0 d0 c0 c1 c2
    have hnb : w.heap.size ≠ V ∧ w.heap.size ≠ P ∧ w.heap.size ≠ D := by omega
    generalize w.alloc (.cells #[.int .i64 x.op, .int .i64 x.n, .slice la x.l.length lc] 59) = w1 at *
    have hF1 : Fr (fun k => k = P ∨ k = D) w w1 := Fr.belowAll hw1
    have hz1 := hw1.size
    have hnl := hN.lt
    have n0 := hN.c 0 rfl
    have n2 := hN.c 2 rfl
    generalize w.heap.size = nb at *
    go_upto_region 5 with (go_at_call 93; refine (children_any x.op _).mono ?_; rintro e w2 ⟨rfl, rfl⟩)
    have hkr := kidsR_ok x.op x.l.length
    have HK : Hid (kidsOk x.op x.l.length = _) := hkr
    clear hkr
    generalize (kidsR x.op).1 = least at *
    generalize (kidsR x.op).2.1 = most at *
    generalize (kidsR x.op).2.2 = isop at *
    have v0 := hv1.v.c 0 rfl
    have v1 := hv1.v.c 1 rfl
    have v2 := hv1.v.c 2 rfl
    have v3 := hv1.v.c 3 rfl
    have d0 := hv1.d.c i (arr_at (deps_at (q := q) (i := i) (by omega)))
    rw [hdp] at d0
    have hbad2 : kidsOk x.op x.l.length = false ∨ numOk x.op x.n dp = false → Hid (r = none) := fun h => hbad (.inr (.inr (by rw [hdp]; exact h)))
    clear hbad
    have m0 := fun d os => cell_regrown n0 d os
    have m1 := fun d os => cell_regrown (hN.c 1 rfl) d os
    have m2 := fun d os => cell_regrown n2 d os
    have x3 := fun d os => cell_regrown v3 d os
    have y0 := fun d os => cell_regrown d0 d os
    have cN : ∀ d os, Calls Tryz.prog 94 #[.agg #[.int .i64 x.op, .int .i64 x.n, .slice la x.l.length lc], .int .i64 dp] (grow (redrawn w1 d) os) fun e w'' => e = .returned (.bool (numOk x.op x.n dp)) ∧ ∃ p : Regrown, w'' = grow (redrawn w1 p.d) p.os := fun d os => Calls.regrown_of (fnumber_any x la lc dp _)
    have hdi2 : decide ((i : Int) < (f.ns.length : Int)) = true := by simpa using hi
    by_cases hg1 : isop = true ∧ least ≤ (x.l.length : Int) ∧ (x.l.length : Int) ≤ most
    case' neg =>
      have HR : Hid (r = none) := hbad2 (.inl (by rw [HK.out, Bool.and_eq_false_iff, Bool.and_eq_false_iff, decide_eq_false_iff_not, decide_eq_false_iff_not]; cases isop <;> simp at hg1 ⊢; omega))
      clear hbad2 hr hL1 hL HK
      cases isop
      case' true =>
        by_cases hg2 : (x.l.length : Int) < least
        case' pos =>
          have e1 : decide ((x.l.length : Int) < least) = true := by simpa using hg2
        case' neg =>
          have e1 : decide ((x.l.length : Int) < least) = false := by simpa using hg2
          have e2 : decide (most < (x.l.length : Int)) = true := by simp at hg1 ⊢; omega
      all_goals
        refine wp_region_quiet_below (by kernel_rfl) (by kernel_rfl) ?_
        repeat (go_big_quiet_step (fail))
        refine wpQuiet_nil ?_
        intro _ hw'
        obtain ⟨⟨dq, osq⟩, hw''⟩ := hw'
        subst hw''
        have hb3 := below_regrown w1 dq osq
        go_wp2_with fail
        go_ret
        exact RightE.no HR (hF1.same (Fr.below hb3 fun k h1 h2 => by omega))
    case' pos =>
      obtain ⟨rfl, hg2, hg3⟩ := hg1
      have hk : kidsOk x.op x.l.length = true := by rw [HK.out]; simp; omega
      have HKK := Lib.hid hk
      have e1 : decide ((x.l.length : Int) < least) = false := by simp; omega
      have e2 : decide (most < (x.l.length : Int)) = false := by simp; omega
      clear hk HK
      obtain ⟨nk, hnk⟩ : ∃ nk, numOk x.op x.n dp = nk := ⟨_, rfl⟩
      have HNK := Lib.hid hnk
      rw [hnk] at cN hbad2
      clear hnk
      refine wp_region_quiet_below (by kernel_rfl) (by kernel_rfl) ?_
      repeat (go_big_quiet_step (exact cN _ _))
      refine wpQuiet_nil ?_
      intro _ hw'
      obtain ⟨⟨dq, osq⟩, hw''⟩ := hw'
      subst hw''
      have hb3 := below_regrown w1 dq osq
      have hF3 : Fr (fun k => k = P ∨ k = D) w (grow (redrawn w1 dq) osq) := hF1.same (Fr.below hb3 fun k h1 h2 => by omega)
      have hv3 := hv1.belowAll hb3
      have hN3 := hN.belowAll hb3
      have hL3 : IsI ok (grow (redrawn w1 dq) osq) x.l la := hL1.fr (S := fun _ => False) (Fr.belowAll hb3) fun g hg => ⟨by have := (hok g hg).1; omega, id⟩
      have hz3 := hb3.size
      clear hv1 hN hL1 hL m0 m1 m2 x3 y0 cN v0 v1 v2 v3 d0 n0 n2 hb3 hF1 hw1
      generalize grow (redrawn w1 dq) osq = w3 at *
      cases nk
      case' false =>
        have HR := hbad2 (.inr rfl)
        clear hbad2
        go_wp2_with fail
        go_ret
        exact RightE.no HR hF3
      case' true =>
        have hbn : ¬ badN i x q := by
          unfold badN
          rw [HKK.out, HU.out, HD.out, HNK.out]
          simp
          omega
        unfold nodeP at hr
        rw [if_neg hbn, HD.out] at hr
        have n0 := hN3.c 0 rfl
        have n2 := hN3.c 2 rfl
        have hl16 := kids16 HKK.out
        clear hbad2 hbn
        go_wp2_with fail
        go_loopw [4, 9, 10, 79] (fun _ _ _ ix wr => ∃ (k : Nat) (p : Pl), ix = .int .i64 (k : Nat) ∧ k ≤ x.l.length ∧ kidsP f.ns.length i dp (x.op == 4) k (x.l.drop k) p = r ∧ Vw wr V P D f (some ⟨g, o, none⟩) cap p ∧ (pl p i).2 = dp ∧ Fr (fun k => k = P ∨ k = D) w3 wr) (fun _ _ _ ix _ => x.l.length - (intOf ix).toNat)
        case atStart => exact ⟨0, q, rfl, by omega, hr, hv3, HD.out, Fr.refl _ _⟩
        case round =>
          obtain ⟨k, p, rfl, hk, hrest, hvr, hdr, hfr⟩ := hrel
          have n2r := (hfr.cell (k := nb) (o := 2) (by omega) (by simp; omega)).trans n2
          have n0r := (hfr.cell (k := nb) (o := 0) (by omega) (by simp; omega)).trans n0
          by_cases hlt : k < x.l.length
          case' neg =>
            have hkd : decide (k < x.l.length) = false := by simpa using hlt
            rw [List.drop_of_length_le (by omega), kidsP] at hrest
            have HR := Lib.hid hrest
            clear hrest
            go_wp2_with fail
            go_ret
            unfold RightE
            rw [← HR.out]
            exact ⟨hF3.same hfr, rfl, hvr⟩
          case' pos =>
            have hkd : decide (k < x.l.length) = true := by simpa using hlt
            have hms := sub_lt hlt
            obtain ⟨c, hc⟩ : ∃ c, x.l[k]? = some c := ⟨x.l[k], List.getElem?_eq_getElem hlt⟩
            obtain ⟨lg, lo, hla, hlg, l0, hrc⟩ := hL3 k c hc
            subst hla
            have hog := hok lg hlg
            have l1 := (hfr.cell (k := lg) (o := lo + k) (by omega) (by simp; omega)).trans l0
            have hxk : x.l[k] = c := by rw [List.getElem?_eq_getElem hlt] at hc; exact Option.some.inj hc
            rw [List.drop_eq_getElem_cons hlt, kidsP, hxk] at hrest
            have v1 := hvr.v.c 1 rfl
            have v2 := hvr.v.c 2 rfl
            have v3 := hvr.v.c 3 rfl
            have hpl2 := hvr.len
            by_cases hb : c ≤ (i : Int) ∨ (f.ns.length : Int) ≤ c ∨ 0 ≤ (pl p c.toNat).1
            case' pos =>
              rw [if_pos hb] at hrest
              have HR : Hid (r = none) := hrest.symm
              clear hrest hr
              by_cases b1 : c ≤ (i : Int)
              case' pos =>
                have f1 : decide (c ≤ (i : Int)) = true := by simpa using b1
              case' neg =>
                have f1 : decide (c ≤ (i : Int)) = false := by simpa using b1
                by_cases b2 : (f.ns.length : Int) ≤ c
                case' pos =>
                  have f2 : decide ((f.ns.length : Int) ≤ c) = true := by simpa using b2
                case' neg =>
                  have f2 : decide ((f.ns.length : Int) ≤ c) = false := by simpa using b2
                  obtain ⟨m, rfl⟩ := Int.eq_ofNat_of_zero_le (show 0 ≤ c by omega)
                  have pm := hvr.p.c m (arr_at (ups_at (q := p) (i := m) (by omega)))
                  rw [Int.toNat_natCast] at hb
                  have f3 : decide (0 ≤ (pl p m).1) = true := by simp; omega
                  have f4 : decide (m < f.ns.length) = true := by simp; omega
              all_goals
                go_wp2_with fail
                go_ret
                exact RightE.no HR (hF3.same hfr)
            case' neg =>
              rw [if_neg hb] at hrest
              obtain ⟨m, rfl⟩ := Int.eq_ofNat_of_zero_le (show 0 ≤ c by omega)
              rw [Int.toNat_natCast] at hb hrest
              have hm : m < p.length := by omega
              have pm := hvr.p.c m (arr_at (ups_at (q := p) (i := m) (by omega)))
              have f1 : decide ((m : Int) ≤ (i : Int)) = false := by simp; omega
              have f2 : decide ((f.ns.length : Int) ≤ (m : Int)) = false := by simp; omega
              have f3 : decide (0 ≤ (pl p m).1) = false := by simp; omega
              have f4 : decide (m < f.ns.length) = true := by simp; omega
              have f5 : decide (m ≤ i) = false := by simp; omega
              have f6 : decide (f.ns.length ≤ m) = false := by simp; omega
              have fzP := hvr.p.fz m
              have HREST := Lib.hid hrest
              clear hrest hr hb
              go_wp2_with fail
              have hva := hvr.setP hm (i : Int)
              have hfa : Fr (fun k => k = P ∨ k = D) w3 (wr.setCell ⟨P, m, none⟩ (.int .i64 (i : Nat))) := hfr.same (Fr.set (.inl (.inl rfl)))
              clear n0r n2r l1 v1 v2 v3 pm fzP hfr hvr
              have hpm : (pl p m).2 = (pl p m).2 := rfl
              generalize wr.setCell ⟨P, m, none⟩ (.int .i64 (i : Nat)) = wa at *
              have v3 := hva.v.c 3 rfl
              have hmi : m ≠ i := by
                intro e
                subst e
                simp at f5
              have hsl : (p.set m ((i : Int), (pl p m).2)).length = p.length := by simp
              have da := hva.d.c i (arr_at (deps_at (by omega)))
              rw [pl_set _ _ _ _ hm, if_neg hmi, hdr] at da
              have dm := hva.d.c m (arr_at (deps_at (by omega)))
              have fzD := hva.d.fz m
              have hml : m < f.ns.length := by omega
              have hdi3 : decide (i < f.ns.length) = true := hdi
              go_region
              have hvb := (hva.setD (m := m) (by omega) dp).fr (S := fun _ => False) Fr.drew id id id
              rw [set_two p m hm] at hvb
              have hfb : Fr (fun k => k = P ∨ k = D) w3 ((wa.setCell ⟨D, m, none⟩ (.int .i64 dp)).drew) := (hfa.same (Fr.set (.inl (.inr rfl)))).same Fr.drew
              clear v3 da dm fzD hva hfa hpm hsl
              generalize (wa.setCell ⟨D, m, none⟩ (.int .i64 dp)).drew = wb at *
              have n0b := (hfb.cell (k := nb) (o := 0) (by omega) (by simp; omega)).trans n0
              have hsl : (p.set m ((i : Int), dp)).length = p.length := by simp
              have hpi : ∀ e, (pl (p.set m ((i : Int), e)) i).2 = dp := fun e => by rw [pl_set _ _ _ _ hm, if_neg hmi]; exact hdr
              by_cases h41 : x.op = 4 ∧ k = 1
              case' pos =>
                have g1 : (x.op == 4) = true := by simpa using h41.1
                have g2 : ((k : Int) == 1) = true := by rw [h41.2]; rfl
                have v3 := hvb.v.c 3 rfl
                have dm := hvb.d.c m (arr_at (deps_at (by omega)))
                rw [pl_set _ _ _ _ hm, if_pos rfl] at dm
                have fzD := hvb.d.fz m
                have HR2 : Hid (kidsP f.ns.length i dp (x.op == 4) (k + 1) (x.l.drop (k + 1)) (p.set m ((i : Int), dp + 1)) = r) := by
                  show _ = _
                  rw [← HREST.out, if_pos ⟨g1, h41.2⟩]
                clear HREST
                go_wp2_with fail
                have hvc := hvb.setD (m := m) (by omega) (dp + 1)
                rw [pl_set _ _ _ _ hm, if_pos rfl, List.set_set] at hvc
                go_roundw
                case' rel => exact ⟨2, p.set m ((i : Int), dp + 1), rfl, two_le h41.2 hlt, two_kids h41.2 HR2.out, hvc, hpi _, hfb.same (Fr.set (.inl (.inr rfl)))⟩
                case' measure => exact two_meas h41.2 hms
              case' neg =>
                have HR2 : Hid (kidsP f.ns.length i dp (x.op == 4) (k + 1) (x.l.drop (k + 1)) (p.set m ((i : Int), dp)) = r) := by
                  show _ = _
                  rw [← HREST.out, if_neg (by simpa using h41)]
                clear HREST
                by_cases g0 : x.op = 4
                case' pos =>
                  have g1 : (x.op == 4) = true := by simpa using g0
                  have g2 : ((k : Int) == 1) = false := cast_ne_one fun e => h41 ⟨g0, e⟩
                case' neg =>
                  have g1 : (x.op == 4) = false := by simpa using g0
                all_goals clear h41 g0 hwr
                all_goals
                  go_wp2_with fail
                  go_roundw
                  case' rel => exact ⟨k + 1, p.set m ((i : Int), dp), by go_num, hlt, HR2.out, hvb, hpi _, hfb⟩
                  case' measure => exact meas_lt hms
end Go.Proofs.YtjendlnicbieoaaGreatDoor
/-
  Walks over package fun: look: the view of a function, or its first wrong node; Where, Check.
-/
namespace Go.Proofs.YtjendlnicbieoaaGreatDoor
open Go.RowKit Go.Sort

/-- The nodes' places from a node on, or the first wrong one. -/
def nodesE (n : Nat) : Nat → List Nd → Pl → Except Nat Pl
  | _, [], p => .ok p
  | i, x :: r, p => match nodeP n i x p with
    | some q => nodesE n (i + 1) r q
    | none => .error i
theorem nodesE_P (n : Nat) : ∀ (l : List Nd) (i : Nat) (p : Pl), nodesP n i l p = match nodesE n i l p with
    | .ok q => some q
    | .error _ => none
  | [], i, p => rfl
  | x :: r, i, p => by
    rw [nodesP, nodesE]
    cases nodeP n i x p with
    | some q => exact nodesE_P n r (i + 1) q
    | none => rfl
/-- Is a function's head right? -/
def headOk (f : Fn) : Bool := decide (0 ≤ f.ps ∧ f.ps ≤ 9 ∧ 1 ≤ f.ns.length ∧ f.ns.length ≤ 200)
def lookP (f : Fn) : Except Nat Pl := if headOk f = true then nodesE f.ns.length 0 f.ns (startP f.ns.length f.ps) else .error 0
theorem okF_look (f : Fn) : okF f = match lookP f with
    | .ok _ => true
    | .error _ => false := by
  unfold okF lookP headOk
  by_cases h : 0 ≤ f.ps ∧ f.ps ≤ 9 ∧ 1 ≤ f.ns.length ∧ f.ns.length ≤ 200
  · rw [if_pos (by simpa using h), nodesE_P]
    simp only [h, and_self, decide_true, Bool.true_and]
    split <;> simp_all
  · rw [if_neg (by simpa using h)]
    simp [h]
/-- Depths stay small. -/
def Dep (q : Pl) : Prop := ∀ j, j < q.length → -1 ≤ (pl q j).2 ∧ (pl q j).2 ≤ 1000
theorem kidsP_dep (n i : Nat) (d : Int) (lt : Bool) (hd : -1 ≤ d ∧ d ≤ 64) : ∀ (l : List Int) (k : Nat) (p q : Pl), kidsP n i d lt k l p = some q → p.length = n → Dep p → Dep q
  | [], k, p, q, h, _, hp => by
    simp only [kidsP, Option.some.injEq] at h
    subst h
    exact hp
  | c :: r, k, p, q, h, hn, hp => by
    rw [kidsP] at h
    by_cases hb : c ≤ (i : Int) ∨ (n : Int) ≤ c ∨ 0 ≤ (pl p c.toNat).1
    · rw [if_pos hb] at h; cases h
    rw [if_neg hb] at h
    refine kidsP_dep n i d lt hd r (k + 1) _ q h (by simpa using hn) fun j hj => ?_
    rw [pl_set _ _ _ _ (by omega)]
    split
    · dsimp only
      split <;> omega
    · exact hp j (by simpa using hj)
theorem nodeP_dep {n i : Nat} {x : Nd} {p q : Pl} (h : nodeP n i x p = some q) (hn : p.length = n) (hi : i < n) (hp : Dep p) : Dep q ∧ q.length = n := by
  unfold nodeP at h
  by_cases hb : badN i x p
  · rw [if_pos hb] at h; cases h
  rw [if_neg hb] at h
  have h64 : (pl p i).2 ≤ 64 := by
    unfold badN at hb
    simp only [not_or, Int.not_lt] at hb
    exact hb.2.1
  exact ⟨kidsP_dep _ _ _ _ ⟨(hp i (by omega)).1, h64⟩ _ _ _ _ h hn hp, (kidsP_spec _ _ _ _ _ _ _ _ h hn).1⟩
/-- A function as a value. -/
def fnV (f : Fn) (na : Option Addr) (cap : Nat) : Value := .agg #[.int .i64 f.ps, .slice na f.ns.length cap]
theorem int_info : (Tryz.prog.info? 3).map (fun i => (i.zero, i.size, i.bytes)) = some (some (.int .i64 0), 1, 8) := by kernel_rfl
theorem made_arr (n : Nat) : madeCells #[.int .i64 0] n = (arr (List.replicate n 0)).toArray := by
  apply Array.ext
  · simp [madeCells, arr]
  · intro i h1 h2
    simp [madeCells, arr, Nat.mod_one]
theorem look_blks (w : World) (bs : Array Value) (n : Nat) (vs : List Value) (P D V : Nat) (hV : V = w.heap.size + 1 + 1 + 1) (h : (P = w.heap.size + 1 ∧ D = w.heap.size + 1 + 1) ∨ (P = w.heap.size + 1 + 1 ∧ D = w.heap.size + 1)) :
    Blk ((((w.alloc (.cells bs 46)).alloc (.cells (madeCells #[.int .i64 0] n) 3)).alloc (.cells (madeCells #[.int .i64 0] n) 3)).alloc (.cells vs.toArray 133)).drew P 3 (arr (List.replicate n 0)) ∧
    Blk ((((w.alloc (.cells bs 46)).alloc (.cells (madeCells #[.int .i64 0] n) 3)).alloc (.cells (madeCells #[.int .i64 0] n) 3)).alloc (.cells vs.toArray 133)).drew D 3 (arr (List.replicate n 0)) ∧
    Blk ((((w.alloc (.cells bs 46)).alloc (.cells (madeCells #[.int .i64 0] n) 3)).alloc (.cells (madeCells #[.int .i64 0] n) 3)).alloc (.cells vs.toArray 133)).drew V 133 vs ∧
    Below (w.alloc (.cells bs 46)).heap.size (w.alloc (.cells bs 46)) ((((w.alloc (.cells bs 46)).alloc (.cells (madeCells #[.int .i64 0] n) 3)).alloc (.cells (madeCells #[.int .i64 0] n) 3)).alloc (.cells vs.toArray 133)).drew ∧
    P ≠ D ∧ V ≠ P ∧ V ≠ D ∧ w.heap.size < P ∧ w.heap.size < D ∧ w.heap.size < V := by
  rw [made_arr]
  generalize hw1 : w.alloc (.cells bs 46) = w1
  have hs1 : w1.heap.size = w.heap.size + 1 := by rw [← hw1]; simp
  have h1 := (Blk.new w1 3 (arr (List.replicate n 0)))
  have h2 := (Blk.new (w1.alloc (.cells (arr (List.replicate n 0)).toArray 3)) 3 (arr (List.replicate n 0)))
  have h3 := (Blk.new ((w1.alloc (.cells (arr (List.replicate n 0)).toArray 3)).alloc (.cells (arr (List.replicate n 0)).toArray 3)) 133 vs)
  have h1' := ((h1.alloc (.cells (arr (List.replicate n 0)).toArray 3)).alloc (.cells vs.toArray 133)).drew
  have h2' := (h2.alloc (.cells vs.toArray 133)).drew
  have e2 : (w1.alloc (.cells (arr (List.replicate n 0)).toArray 3)).heap.size = w.heap.size + 1 + 1 := by simp [hs1]
  have e3 : ((w1.alloc (.cells (arr (List.replicate n 0)).toArray 3)).alloc (.cells (arr (List.replicate n 0)).toArray 3)).heap.size = w.heap.size + 1 + 1 + 1 := by simp [hs1]
  rw [hs1] at h1'
  rw [e2] at h2'
  rw [e3] at h3
  refine ⟨?_, ?_, by rw [hV]; exact h3.drew, ?_, by omega, by omega, by omega, by omega, by omega, by omega⟩
  · rcases h with ⟨rfl, rfl⟩ | ⟨rfl, rfl⟩
    · exact h1'
    · exact h2'
  · rcases h with ⟨rfl, rfl⟩ | ⟨rfl, rfl⟩
    · exact h2'
    · exact h1'
  · exact ((((Below.refl _ w1).alloc (Nat.le_refl _) _).alloc (by simp) _).alloc (by simp; omega) _).drew
theorem rep_at {k n : Nat} (h : k < n) : (List.replicate k (-1 : Int) ++ List.replicate (n - k) 0)[k]? = some 0 := by
  rw [List.getElem?_append_right (by simp), List.length_replicate, Nat.sub_self, List.getElem?_replicate, if_pos (by omega)]
theorem rep_set {k n : Nat} (h : k < n) : (List.replicate k (-1 : Int) ++ List.replicate (n - k) 0).set k (-1) = List.replicate (k + 1) (-1) ++ List.replicate (n - (k + 1)) 0 := by
  rw [List.set_append, if_neg (by simp), List.length_replicate, Nat.sub_self]
  obtain ⟨m, hm⟩ : ∃ m, n - k = m + 1 := ⟨n - k - 1, by omega⟩
  rw [hm, show n - (k + 1) = m by omega, List.replicate_succ, List.replicate_succ']
  simp
theorem start_ups (n : Nat) (d : Int) : ups (startP n d) = List.replicate n (-1) := by
  unfold startP
  rw [ups_set]
  cases n with
  | zero => rfl
  | succ n => simp [ups, List.replicate_succ]
theorem start_deps (n : Nat) (d : Int) : (List.replicate n (0 : Int)).set 0 d = deps (startP n d) := by
  unfold startP
  rw [deps_set]
  simp [deps]
theorem right_no {V P D : Nat} {f : Fn} {na : Option Addr} {cap : Nat} {w w' : World} {e : Ending} (h : RightE none V P D f na cap w e w') : e = .returned (.bool false) ∧ Fr (fun k => k = P ∨ k = D) w w' := ⟨h.2, h.1⟩
theorem right_yes {q : Pl} {V P D : Nat} {f : Fn} {na : Option Addr} {cap : Nat} {w w' : World} {e : Ending} (h : RightE (some q) V P D f na cap w e w') : e = .returned (.bool true) ∧ Fr (fun k => k = P ∨ k = D) w w' ∧ Vw w' V P D f na cap q := ⟨h.2.1, h.1, h.2.2⟩
def LookE (r : Except Nat Pl) (f : Fn) (na : Option Addr) (cap : Nat) (w : World) (e : Ending) (w' : World) : Prop := Below w.heap.size w w' ∧ match r with
  | .ok q => ∃ V P D, e = .returned (.tuple #[.pointer (some ⟨V, 0, none⟩), .int .i64 0, .bool true]) ∧ w.heap.size ≤ V ∧ w.heap.size ≤ P ∧ w.heap.size ≤ D ∧ Vw w' V P D f na cap q
  | .error i => e = .returned (.tuple #[.pointer none, .int .i64 (i : Nat), .bool false])
theorem LookE.no {r : Except Nat Pl} {i : Nat} {f : Fn} {na : Option Addr} {cap : Nat} {w w' : World} (h : Hid (r = .error i)) (hb : Below w.heap.size w w') : LookE r f na cap w (.returned (.tuple #[.pointer none, .int .i64 (i : Nat), .bool false])) w' := by
  unfold LookE
  rw [h.out]
  exact ⟨hb, rfl⟩
/-- What a function's value rests on. -/
structure FnAt (ok : Nat → Prop) (w : World) (f : Fn) (na : Option Addr) (cap : Nat) : Prop where
  ns : IsNs ok w f.ns na
  le : f.ns.length ≤ cap
  cap : cap ≤ maxLen
  ps : Rng f.ps
theorem FnAt.below {B : Nat} {w w' : World} {f : Fn} {na : Option Addr} {cap : Nat} (h : FnAt (· < B) w f na cap) (hb : Below B w w') : FnAt (· < B) w' f na cap := ⟨h.ns.below hb, h.le, h.cap, h.ps⟩
theorem FnAt.later {w w' : World} {f : Fn} {na : Option Addr} {cap : Nat} (h : FnAt (· < w.heap.size) w f na cap) (hb : Below w.heap.size w w') : FnAt (· < w'.heap.size) w' f na cap := ⟨(h.ns.below hb).more fun _ hg => Nat.lt_of_lt_of_le hg hb.size, h.le, h.cap, h.ps⟩
set_option maxRecDepth 100000 in
set_option maxHeartbeats 4000000 in
theorem look_any (f : Fn) (na : Option Addr) (cap : Nat) (w : World) (hf : FnAt (· < w.heap.size) w f na cap) :
    Calls Tryz.prog 39 #[fnV f na cap] w (LookE (lookP f) f na cap w) := by
  obtain ⟨r, hr⟩ : ∃ r, lookP f = r := ⟨_, rfl⟩
  rw [hr]
  have hb := Blk.new w 46 [.int .i64 f.ps, .slice na f.ns.length cap]
  have hw1 : Below w.heap.size w (w.alloc (.cells #[.int .i64 f.ps, .slice na f.ns.length cap] 46)) := (Below.refl _ _).alloc (Nat.le_refl _) _
  have hf1 := hf.later hw1
  have hlc := hf.le
  have hcm := hf.cap
  have c0 := hb.c 0 rfl
  have c1 := hb.c 1 rfl
  unfold lookP headOk at hr
  unfold fnV
  by_cases hh : 0 ≤ f.ps ∧ f.ps ≤ 9 ∧ 1 ≤ f.ns.length ∧ f.ns.length ≤ 200
  case' neg =>
    rw [if_neg (by simpa using hh)] at hr
    have HR : Hid (r = .error 0) := hr.symm
    clear hr
    by_cases h1 : f.ps < 0
    case' pos =>
      have f1 : decide (f.ps < 0) = true := by simpa using h1
    case' neg =>
      have f1 : decide (f.ps < 0) = false := by simpa using h1
      by_cases h2 : 9 < f.ps
      case' pos =>
        have f2 : decide (9 < f.ps) = true := by simpa using h2
      case' neg =>
        have f2 : decide (9 < f.ps) = false := by simpa using h2
        by_cases h3 : f.ns.length < 1
        case' pos =>
          have f3 : decide (f.ns.length < 1) = true := by simpa using h3
        case' neg =>
          have f3 : decide (f.ns.length < 1) = false := by simpa using h3
          have h4 : 200 < f.ns.length := by omega
    all_goals
      clear hh
      go_enter Tryz.func39, Tryz.ntmps39
      go_wp2_with fail
      all_goals first | (go_ret3; exact LookE.no HR hw1) | trace_state
  case' pos =>
    rw [if_pos (by simpa using hh)] at hr
    obtain ⟨h0, h9, h1, h200⟩ := hh
    have f1 : decide (f.ps < 0) = false := by simp; omega
    have f2 : decide (9 < f.ps) = false := by simp; omega
    have f3 : decide (f.ns.length < 1) = false := decide_eq_false (by omega)
    have f4 : decide (200 < f.ns.length) = false := decide_eq_false (by omega)
    have hmk := run_make_row' (P := Tryz.prog) 57 3 (.int .i64 0) 8 Tryz.underlying57 int_info rfl .i64 .i64 f.ns.length (by omega) (by omega)
    have HREST := Lib.hid hr
    clear hr
    go_enter Tryz.func39, Tryz.ntmps39
    go_upto_region 4 with fail
    go_region
    obtain ⟨V, hV⟩ : ∃ V, V = w.heap.size + 1 + 1 + 1 := ⟨_, rfl⟩
    obtain ⟨D, hD⟩ : ∃ D, D = w.heap.size + 1 + 1 := ⟨_, rfl⟩
    obtain ⟨P, hP⟩ : ∃ P, P = w.heap.size + 1 := ⟨_, rfl⟩
    rw [← hV, ← hD, ← hP]
    rotate_left
    obtain ⟨V, hV⟩ : ∃ V, V = w.heap.size + 1 + 1 + 1 := ⟨_, rfl⟩
    obtain ⟨P, hP⟩ : ∃ P, P = w.heap.size + 1 + 1 := ⟨_, rfl⟩
    obtain ⟨D, hD⟩ : ∃ D, D = w.heap.size + 1 := ⟨_, rfl⟩
    rw [← hV, ← hP, ← hD]
    all_goals
      obtain ⟨hbP, hbD, hbV, hbl, hPD, hVP, hVD, hlP, hlD, hlV⟩ := look_blks w #[.int .i64 f.ps, .slice na f.ns.length cap] f.ns.length [.int .i64 f.ps, .slice na f.ns.length cap, .slice (some ⟨P, 0, none⟩) f.ns.length f.ns.length, .slice (some ⟨D, 0, none⟩) f.ns.length f.ns.length] P D V hV (by omega)
      have hb2 := hb.belowAll hbl
      have hw2 := hw1.trans (hbl.mono (by simp))
      have hf2 := hf.later hw2
      have hz2 := hbl.size
      have hns1 : w.heap.size < (w.alloc (.cells #[.int .i64 f.ps, .slice na f.ns.length cap] 46)).heap.size := by simp
      clear hb hf1 c0 c1 hbl hmk hw1 hV hP hD
      generalize hW2 : World.drew _ = w2 at *
      clear hW2
      generalize World.alloc w _ = w1 at *
      have v0 := hbV.c 0 rfl
      have v1 := hbV.c 1 rfl
      have v2 := hbV.c 2 rfl
      have v3 := hbV.c 3 rfl
      go_wp2_with fail
      go_loopw [7, 40] (fun _ ix wr => ∃ k : Nat, ix = .int .i64 (k : Nat) ∧ k ≤ f.ns.length ∧ Blk wr P 3 (arr (List.replicate k (-1) ++ List.replicate (f.ns.length - k) 0)) ∧ Fr (fun b => b = P) w2 wr) (fun _ ix _ => f.ns.length - (intOf ix).toNat)
      case atStart => exact ⟨0, rfl, Nat.zero_le _, hbP, Fr.refl _ _⟩
      case round =>
        obtain ⟨k, rfl, hk, hbk, hfr⟩ := hrel
        have v2r := (hfr.cell (k := V) (o := 2) hbV.lt hVP).trans v2
        by_cases hlt : k < f.ns.length
        case' pos =>
          have hkd : decide (k < f.ns.length) = true := by simpa using hlt
          have pk := hbk.c k (arr_at (rep_at hlt))
          have fzk := hbk.fz k
          have hms := sub_lt hlt
          go_wp2_with fail
          go_roundw
          case' rel => exact ⟨k + 1, by go_num, hlt, by have := hbk.set k (.int .i64 (-1)); rwa [arr_set, rep_set hlt] at this, hfr.same (Fr.set (.inl rfl))⟩
          case' measure => exact meas_lt hms
        case' neg =>
          have hkd : decide (k < f.ns.length) = false := by simpa using hlt
          obtain rfl : k = f.ns.length := by omega
          rw [Nat.sub_self, List.replicate_zero, List.append_nil] at hbk
          have hbD3 := hbD.fr hfr hPD.symm
          have hb3 := hb2.fr hfr (show ¬ w.heap.size = P by omega)
          have hbV3 := hbV.fr hfr hVP
          have hns3 : IsNs (· < w.heap.size) wr f.ns na := (hf.ns.below hw2).fr hfr fun g hg => ⟨by omega, by omega⟩
          have hw3 : Below w.heap.size w wr := hw2.trans (hfr.toBelow _ (fun k hk => by omega) (by omega))
          have hz3 := hw3.size
          clear hbP hbD hb2 v2r hkd hfr hlt hk hbV v0 v1 v2 v3 hw2
          have v3 := hbV3.c 3 rfl
          have c0 := hb3.c 0 rfl
          have c1 := hb3.c 1 rfl
          have dm := hbD3.c 0 (arr_at (x := 0) (by rw [List.getElem?_replicate, if_pos (Nat.lt_of_lt_of_le Nat.zero_lt_one h1)]))
          have fzD := hbD3.fz 0
          go_wp2_with fail
          go_region
          have hvw : Vw ((wr.setCell ⟨D, 0, none⟩ (.int .i64 f.ps)).drew) V P D f na cap (startP f.ns.length f.ps) := by
            refine ⟨(hbV3.far hVD _).drew, ?_, ?_, by simp [startP], hPD, hVP, hVD⟩
            · rw [start_ups]
              exact (hbk.far hPD _).drew
            · have := (hbD3.set 0 (.int .i64 f.ps)).drew
              rwa [arr_set, start_deps] at this
          have hw4 : Below w.heap.size w ((wr.setCell ⟨D, 0, none⟩ (.int .i64 f.ps)).drew) := (hw3.setCell (by dsimp only; omega) _).drew
          have hb4 := (hb3.far (q := ⟨D, 0, none⟩) (by dsimp only; omega) (.int .i64 f.ps)).drew
          have hns4 := (hns3.fr (S := fun k => k = D) (Fr.set (q := ⟨D, 0, none⟩) (u := .int .i64 f.ps) (.inl rfl)) fun g hg => ⟨by omega, by omega⟩).fr (S := fun _ => False) Fr.drew fun g hg => ⟨by simp [World.setCell]; omega, id⟩
          clear hbk hbD3 hb3 hbV3 hns3 v3 c0 c1 dm fzD hf2
          generalize (wr.setCell ⟨D, 0, none⟩ (.int .i64 f.ps)).drew = w5 at *
          have c1 := hb4.c 1 rfl
          have hz5 := hw4.size
          have hdep : Dep (startP f.ns.length f.ps) := fun j hj => by
            unfold startP at hj ⊢
            rw [pl_set _ _ _ _ (by simp; omega)]
            split
            · dsimp only; omega
            · simp only [List.length_set, List.length_replicate] at hj
              unfold pl
              simp [List.getD_eq_getElem?_getD, hj]
          go_wp2_with fail
          go_loopw [8, 60] (fun _ ix wr => ∃ (k : Nat) (p : Pl), ix = .int .i64 (k : Nat) ∧ k ≤ f.ns.length ∧ nodesE f.ns.length k (f.ns.drop k) p = r ∧ Vw wr V P D f na cap p ∧ Dep p ∧ Fr (fun k => k = P ∨ k = D) w5 wr) (fun _ ix _ => f.ns.length - (intOf ix).toNat)
          case atStart => exact ⟨0, _, rfl, Nat.zero_le _, HREST.out, hvw, hdep, Fr.refl _ _⟩
          case round =>
            obtain ⟨k, p, rfl, hk, hrest, hvr, hdr, hfr⟩ := hrel
            have hw6 : Below w.heap.size w wr := hw4.trans (hfr.toBelow _ (fun k hk => by omega) (by omega))
            by_cases hlt : k < f.ns.length
            case' pos =>
              have hkd : decide (k < f.ns.length) = true := by simpa using hlt
              have hms := sub_lt hlt
              have hnr := hns4.fr hfr fun g hg => ⟨by omega, by omega⟩
              rw [List.drop_eq_getElem_cons hlt, nodesE] at hrest
              have hR := right_any f h200 na cap V P D k f.ns[k] p wr (List.getElem?_eq_getElem hlt) hvr hdr (· < w.heap.size) (fun g hg => ⟨by have := hw6.size; omega, by omega, by omega⟩) hnr
              obtain ⟨qq, hqq⟩ : ∃ qq, nodeP f.ns.length k f.ns[k] p = qq := ⟨_, rfl⟩
              rw [hqq] at hR hrest
              have hndd := fun q (h : qq = some q) => nodeP_dep (hqq.trans h) hvr.len hlt hdr
              clear hqq hvw hdep
              cases qq with
              | none =>
                have HR : Hid (r = .error k) := hrest.symm
                clear hrest hndd
                go_wp2_with (go_at_call 67; refine hR.mono ?_; rintro e wr2 hcase; obtain ⟨rfl, hfr2⟩ := right_no hcase)
                go_ret3
                exact LookE.no HR (hw6.trans (hfr2.toBelow _ (fun k hk => by omega) (by have := hw6.size; omega)))
              | some p2 =>
                obtain ⟨hd2, -⟩ := hndd p2 rfl
                have HR2 := Lib.hid hrest
                clear hrest hndd
                go_wp2_with (go_at_call 67; refine hR.mono ?_; rintro e wr2 hcase; obtain ⟨rfl, hfr2, hv2⟩ := right_yes hcase)
                go_roundw
                case' rel => exact ⟨k + 1, p2, by go_num, hlt, HR2.out, hv2, hd2, hfr.same hfr2⟩
                case' measure => exact meas_lt hms
            case' neg =>
              have hkd : decide (k < f.ns.length) = false := by simpa using hlt
              rw [List.drop_of_length_le (by omega), nodesE] at hrest
              have HR := Lib.hid hrest
              clear hrest
              go_wp2_with fail
              go_ret3
              unfold LookE
              rw [← HR.out]
              exact ⟨hw6, V, P, D, rfl, by omega, by omega, by omega, hvr⟩
/-- Where: the first wrong node, and the error. -/
def whereF (f : Fn) : Int × Int := match lookP f with
  | .ok _ => (0, 0)
  | .error i => ((i : Int), 60)
set_option maxRecDepth 100000 in
set_option maxHeartbeats 1000000 in
theorem fwhere_any (f : Fn) (na : Option Addr) (cap : Nat) (w : World) (hf : FnAt (· < w.heap.size) w f na cap) :
    Calls Tryz.prog 65 #[fnV f na cap] w fun e w' => e = .returned (.tuple #[.int .i64 (whereF f).1, .int .i64 (whereF f).2]) ∧ Below w.heap.size w w' := by
  have hw1 : Below w.heap.size w (w.alloc (.cells #[.int .i64 f.ps, .slice na f.ns.length cap] 46)) := (Below.refl _ _).alloc (Nat.le_refl _) _
  have hb := Blk.new w 46 [.int .i64 f.ps, .slice na f.ns.length cap]
  have hf1 := hf.later hw1
  have c0 := hb.c 0 rfl
  have c1 := hb.c 1 rfl
  have hL := look_any f na cap _ hf1
  unfold fnV at hL ⊢
  unfold whereF
  obtain ⟨r, hr⟩ : ∃ r, lookP f = r := ⟨_, rfl⟩
  rw [hr] at hL ⊢
  clear hr
  go_enter Tryz.func65, Tryz.ntmps65
  cases r with
  | ok q =>
    go_wp2_with (go_at_call 39; refine hL.mono ?_; rintro e w2 ⟨hb2, V, P, D, rfl, -⟩)
    go_ret2
    exact ⟨rfl, hw1.trans (hb2.mono (by simp))⟩
  | error i =>
    go_wp2_with (go_at_call 39; refine hL.mono ?_; rintro e w2 ⟨hb2, rfl⟩)
    go_ret2
    exact ⟨rfl, hw1.trans (hb2.mono (by simp))⟩
theorem whereF_ok (f : Fn) : (whereF f).2 = if okF f = true then 0 else 60 := by
  rw [okF_look]
  unfold whereF
  cases lookP f <;> rfl
set_option maxRecDepth 100000 in
set_option maxHeartbeats 1000000 in
theorem fcheck_any (f : Fn) (na : Option Addr) (cap : Nat) (w : World) (hf : FnAt (· < w.heap.size) w f na cap) :
    Calls Tryz.prog 105 #[fnV f na cap] w fun e w' => e = .returned (.int .i64 (if okF f = true then 0 else 60)) ∧ Below w.heap.size w w' := by
  have hw1 : Below w.heap.size w (w.alloc (.cells #[.int .i64 f.ps, .slice na f.ns.length cap] 46)) := (Below.refl _ _).alloc (Nat.le_refl _) _
  have hb := Blk.new w 46 [.int .i64 f.ps, .slice na f.ns.length cap]
  have hf1 := hf.later hw1
  have c0 := hb.c 0 rfl
  have c1 := hb.c 1 rfl
  have hL := fwhere_any f na cap _ hf1
  rw [whereF_ok] at hL
  unfold fnV at hL ⊢
  obtain ⟨z, hz⟩ : ∃ z : Int, (if okF f = true then 0 else 60) = z := ⟨_, rfl⟩
  rw [hz] at hL ⊢
  clear hz
  go_enter Tryz.func105, Tryz.ntmps105
  go_wp2_with (go_at_call 65; refine hL.mono ?_; rintro e w2 ⟨rfl, hb2⟩)
  go_ret
  exact ⟨rfl, hw1.trans (hb2.mono (by simp))⟩
end Go.Proofs.YtjendlnicbieoaaGreatDoor
