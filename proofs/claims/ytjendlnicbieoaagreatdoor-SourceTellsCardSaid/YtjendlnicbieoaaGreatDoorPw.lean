/-
  The reference of layers 6 and 7: Where, Right: may a program be?
-/
import Derived.Test.YtjendlnicbieoaaGreatDoorPa
import Derived.Test.YtjendlnicbieoaaGreatDoorProA
namespace Go.Proofs.YtjendlnicbieoaaGreatDoor
open Go.RowKit Go.Sort
attribute [local go_sem] Oper.semAt_some

set_option maxRecDepth 100000 in
set_option maxHeartbeats 1000000 in
theorem rwhere_any (f : Fn) (na : Option Addr) (cap : Nat) (w : World) (hf : FnAt (· < w.heap.size) w f na cap) :
    Calls Tryz.prog 81 #[fnV f na cap] w fun e w' => e = .returned (.tuple #[.int .i64 (whereF f).1, .int .i64 (whereF f).2]) ∧ Below w.heap.size w w' := by
  have hw1 : Below w.heap.size w (w.alloc (.cells #[.int .i64 f.ps, .slice na f.ns.length cap] 46)) := (Below.refl _ _).alloc (Nat.le_refl _) _
  have hb := Blk.new w 46 [.int .i64 f.ps, .slice na f.ns.length cap]
  have hf1 := hf.later hw1
  have c0 := hb.c 0 rfl
  have c1 := hb.c 1 rfl
  have hL := places_any f na cap _ hf1
  unfold PlE fnV at hL
  unfold fnV
  unfold whereF
  obtain ⟨r, hr⟩ : ∃ r, lookP f = r := ⟨_, rfl⟩
  rw [hr] at hL ⊢
  clear hr
  go_enter Tryz.func81, Tryz.ntmps81
  cases r with
  | ok q =>
    go_wp2_with (go_at_call 101; refine hL.mono ?_; rintro e w2 ⟨hb2, T, rfl⟩)
    go_ret2
    exact ⟨rfl, hw1.trans (hb2.mono (by simp))⟩
  | error i =>
    go_wp2_with (go_at_call 101; refine hL.mono ?_; rintro e w2 ⟨hb2, rfl⟩)
    go_ret2
    exact ⟨rfl, hw1.trans (hb2.mono (by simp))⟩
theorem nameOk_of {p : List Fn} {x : Nd} (hn : namesOp x.op = true) {m : Nat} (hm : x.n = (m : Int)) {g : Fn} (hg : p[m]? = some g) : nameOk p x = (g.ps == wantN x) := by
  unfold nameOk
  have hl := (List.getElem?_eq_some_iff.1 hg).1
  rw [if_pos hn, hm, Int.toNat_natCast, hg]
  dsimp only
  rw [fitN_want, decide_eq_true (by omega), Bool.true_and]
theorem nameOk_no {p : List Fn} {x : Nd} (hn : namesOp x.op = true) (hm : (p.length : Int) ≤ x.n) : nameOk p x = false := by
  unfold nameOk
  rw [if_pos hn]
  split
  · rw [decide_eq_false (by omega)]
    rfl
  · rfl
theorem node_nums {f : Fn} (hok : okF f = true) {j : Nat} {x : Nd} (hx : f.ns[j]? = some x) : x.l.length ≤ 16 ∧ (namesOp x.op = true → 0 ≤ x.n) := by
  obtain ⟨q, hq⟩ := okF_good hok
  obtain ⟨k1, k2, -⟩ := hq.to_.fit _ x (List.getElem?_eq_some_iff.1 hx).1 hx
  exact ⟨kids16 k1, fun h => (num_named k2 h).1⟩
set_option maxRecDepth 100000 in
set_option maxHeartbeats 8000000 in
theorem rpwhere_any (p : List Fn) (pa : Option Addr) (cap : Nat) (w : World) (hP : PAt (· < w.heap.size) w p pa cap) : Calls Tryz.prog 54 #[prV p pa cap] w (PwE p w) := by
  have hb := Blk.new w 24 [.slice pa p.length cap]
  have hw1 := below_new w (.cells #[.slice pa p.length cap] 24)
  have c0 := hb.c 0 rfl
  have hno : ∀ P : Prop, ((okP p = true) → P) → ¬ P → Hid (okP p = false) := fun P h1 h2 => Bool.eq_false_iff.2 fun h => h2 (h1 h)
  have HIFF := Lib.hid (@okP_iff p)
  have hle := hP.le
  have hcm := hP.cap
  unfold prV
  by_cases hlen : 1 ≤ p.length ∧ p.length ≤ 64
  case' neg =>
    have HR : Hid (okP p = false) := hno _ (fun h => (HIFF.out.1 h).1) hlen
    clear hno
    by_cases h1 : p.length < 1
    case' pos =>
      have q1 : decide (p.length < 1) = true := decide_eq_true h1
    case' neg =>
      have q1 : decide (p.length < 1) = false := decide_eq_false h1
      have q2 : 64 < p.length := by omega
    all_goals
      go_enter Tryz.func54, Tryz.ntmps54
      go_wp2_with fail
      go_ret3
      exact PwE.no HR hw1
  case' pos =>
    obtain ⟨h1, h64⟩ := hlen
    have HNO := Lib.hid hno
    clear hno
    have q1 : decide (p.length < 1) = false := decide_eq_false (by omega)
    have q2 : decide (64 < p.length) = false := decide_eq_false (by omega)
    go_enter Tryz.func54, Tryz.ntmps54
    go_wp2_with fail
    have hz1 : w.heap.size < (w.alloc (.cells #[.slice pa p.length cap] 24)).heap.size := by simp
    clear c0
    generalize w.alloc (.cells #[.slice pa p.length cap] 24) = w1 at *
    go_loopw [6] (fun ix wr => ∃ k : Nat, ix = .int .i64 (k : Nat) ∧ k ≤ p.length ∧ (∀ f ∈ p.take k, okF f = true) ∧ Below w1.heap.size w1 wr) (fun ix _ => p.length - (intOf ix).toNat)
    case atStart => exact ⟨0, rfl, Nat.zero_le _, by simp, Below.refl _ _⟩
    case round =>
      obtain ⟨k, rfl, hk, hall, hbr⟩ := hrel
      have HALL := Lib.hid hall
      clear hall
      by_cases hlt : k < p.length
      case' pos =>
        have hkd : decide (k < p.length) = true := by simpa using hlt
        have hms := sub_lt hlt
        obtain ⟨f, hf⟩ : ∃ f, p[k]? = some f := ⟨p[k], List.getElem?_eq_getElem hlt⟩
        have hbw := hw1.trans (hbr.mono hw1.size)
        obtain ⟨g, o, na, fc, rfl, hg, g0, g1, hfl, hfc, hfn, hfr⟩ := hP.fs.cells hbw hf
        have c0 := (hb.belowAll hbr).c 0 rfl
        have hAt : FnAt (· < wr.heap.size) wr f na fc := ⟨hfn.more fun j hj => Nat.lt_of_lt_of_le hj hbw.size, hfl, hfc, hfr⟩
        have hW := rwhere_any f na fc _ hAt
        rw [whereF_ok] at hW
        unfold fnV at hW
        have HF := Lib.hid hf
        have hbz := hbr.size
        cases hok : okF f with
        | true =>
          rw [if_pos hok] at hW
          have HA2 : Hid (∀ f ∈ p.take (k + 1), okF f = true) := by
            intro y hy
            rw [List.take_succ_eq_append_getElem hlt, List.mem_append] at hy
            rcases hy with hy | hy
            · exact HALL.out y hy
            · rw [List.mem_singleton.1 hy]
              have := HF.out
              rw [List.getElem?_eq_getElem hlt] at this
              rw [Option.some.inj this]
              exact hok
          clear hf hok hAt
          go_wp2_with (go_at_call 81; refine hW.mono ?_; rintro e w3 ⟨rfl, hb3⟩)
          go_roundw
          case' rel => exact ⟨k + 1, by go_num, hlt, HA2.out, hbr.trans (hb3.mono hbz)⟩
          case' measure => exact meas_lt hms
        | false =>
          rw [if_neg (by rw [hok]; simp)] at hW
          have HR : Hid (okP p = false) := HNO.out _ (fun h => (HIFF.out.1 h).2.1) fun h => by
            have := h f (List.mem_of_getElem? hf)
            rw [hok] at this
            cases this
          clear hf hok hAt
          go_wp2_with (go_at_call 81; refine hW.mono ?_; rintro e w3 ⟨rfl, hb3⟩)
          go_ret3
          exact PwE.no HR (hbw.trans (hb3.mono hbw.size))
      case' neg =>
        have hkd : decide (k < p.length) = false := by simpa using hlt
        have HA : Hid (∀ f ∈ p, okF f = true) := by
          have := HALL.out
          rwa [List.take_of_length_le (by omega)] at this
        have hb2 := hb.belowAll hbr
        have hbw := hw1.trans (hbr.mono hw1.size)
        have hz2 := hbr.size
        obtain ⟨f0, hf0⟩ : ∃ f, p[0]? = some f := ⟨p[0], List.getElem?_eq_getElem (by omega)⟩
        obtain ⟨g, o, na, fc, hpa, hg, g0, g1, -, -, -, -⟩ := hP.fs.cells hbw hf0
        rw [Nat.zero_mul, Nat.add_zero] at g0
        subst hpa
        have c0 := hb2.c 0 rfl
        have hp0 : 0 < p.length := by omega
        have q3 : decide (0 < p.length) = true := decide_eq_true hp0
        have hhd : ∀ f r, p = f :: r → f = f0 := fun f r h => by
          rw [h] at hf0
          simpa using hf0
        have HHD := Lib.hid hhd
        have HF0 := Lib.hid hf0
        clear hb g1 hhd hf0 hbr
        by_cases h0 : f0.ps = 0
        case' neg =>
          have q4 : (f0.ps == 0) = false := by simpa using h0
          have HR : Hid (okP p = false) := HNO.out _ (fun h => (HIFF.out.1 h).2.2.1) fun ⟨f, r, e, h⟩ => by
            rw [HHD.out f r e] at h
            omega
          go_wp2_with fail
          go_ret3
          exact PwE.no HR hbw
        case' pos =>
          have HH : Hid (∃ f r, p = f :: r ∧ f.ps = 0) := by
            have h9 := HF0.out
            match p, h9 with
            | [], h9 => simp at h9
            | f :: r, h9 =>
              obtain rfl : f = f0 := by simpa using h9
              exact ⟨f, r, rfl, h0⟩
          rw [h0] at g0
          clear h0
          go_wp2_with fail
          clear c0 g0
          generalize wr = w2 at *
          go_loopw [9] (fun ix ws => ∃ k : Nat, ix = .int .i64 (k : Nat) ∧ k ≤ p.length ∧ (∀ f ∈ p.take k, f.ns.all (nameOk p) = true) ∧ Below w2.heap.size w2 ws) (fun ix _ => p.length - (intOf ix).toNat)
          case atStart => exact ⟨0, rfl, Nat.zero_le _, by simp, Below.refl _ _⟩
          case round =>
            obtain ⟨k2, rfl, hk2, hall2, hbs⟩ := hrel
            have HALL2 := Lib.hid hall2
            clear hall2
            have hbw2 := hbw.trans (hbs.mono hbw.size)
            by_cases hlt2 : k2 < p.length
            case' neg =>
              have hkd2 : decide (k2 < p.length) = false := by simpa using hlt2
              have HOK : Hid (okP p = true) := by
                refine HIFF.out.2 ⟨⟨h1, h64⟩, HA.out, HH.out, ?_⟩
                have := HALL2.out
                rwa [List.take_of_length_le (by omega)] at this
              go_wp2_with fail
              go_ret3
              refine ⟨hbw2, 0, 0, ?_⟩
              rw [if_pos HOK.out]
              rfl
            case' pos =>
              have hkd2 : decide (k2 < p.length) = true := by simpa using hlt2
              have hms2 := sub_lt hlt2
              obtain ⟨f, hf⟩ : ∃ f, p[k2]? = some f := ⟨p[k2], List.getElem?_eq_getElem hlt2⟩
              have hok := HA.out f (List.mem_of_getElem? hf)
              have HF := Lib.hid hf
              have HOKF := Lib.hid hok
              have hf200 : f.ns.length ≤ 200 := by
                obtain ⟨q, hq⟩ := okF_good hok
                exact hq.most
              clear hf hok
              go_wp2_with fail
              generalize wr = w3 at *
              go_loopw [10] (fun ix ws => ∃ j : Nat, ix = .int .i64 (j : Nat) ∧ j ≤ f.ns.length ∧ (∀ x ∈ f.ns.take j, nameOk p x = true) ∧ Below w3.heap.size w3 ws) (fun ix _ => f.ns.length - (intOf ix).toNat)
              case atStart => exact ⟨0, rfl, Nat.zero_le _, by simp, Below.refl _ _⟩
              case round =>
                obtain ⟨j, rfl, hj, hall3, hbt⟩ := hrel
                have HALL3 := Lib.hid hall3
                clear hall3
                have hbw3 := hbw2.trans (hbt.mono hbw2.size)
                obtain ⟨g2, o2, na2, fc2, hpa2, hg2, g3, g4, hfl, hfc, hfn, hfr⟩ := hP.fs.cells hbw3 HF.out
                injection hpa2 with hpa2
                injection hpa2 with e1 e2 _
                subst e1 e2
                have c0 := ((hb2.belowAll hbs).belowAll hbt).c 0 rfl
                have hzt := hbt.size
                have hzs := hbs.size
                by_cases hjl : j < f.ns.length
                case' neg =>
                  have hjd : decide (j < f.ns.length) = false := by simpa using hjl
                  have HA2 : Hid (∀ f ∈ p.take (k2 + 1), f.ns.all (nameOk p) = true) := by
                    intro y hy
                    rw [List.take_succ_eq_append_getElem hlt2, List.mem_append] at hy
                    rcases hy with hy | hy
                    · exact HALL2.out y hy
                    · rw [List.mem_singleton.1 hy]
                      have := HF.out
                      rw [List.getElem?_eq_getElem hlt2] at this
                      rw [Option.some.inj this, List.all_eq_true]
                      have h3 := HALL3.out
                      rwa [List.take_of_length_le (by omega)] at h3
                  go_wp2_with fail
                  go_roundw
                  case' rel => exact ⟨k2 + 1, by go_num, hlt2, HA2.out, hbs.trans (hbt.mono hzs)⟩
                  case' measure => exact meas_lt hms2
                case' pos =>
                  have hjd : decide (j < f.ns.length) = true := by simpa using hjl
                  have hms3 := sub_lt hjl
                  obtain ⟨x, hx⟩ : ∃ x, f.ns[j]? = some x := ⟨f.ns[j], List.getElem?_eq_getElem hjl⟩
                  obtain ⟨g5, o5, la, lc, rfl, hg5, r0, r1, r2, hxc, hxm, -, -, -⟩ := hfn j x hx
                  obtain ⟨hx16, hxn⟩ := node_nums HOKF.out hx
                  have hxa : f.ns[j] = x := by rw [List.getElem?_eq_getElem hjl] at hx; exact Option.some.inj hx
                  have hstep : nameOk p x = true → Hid (∀ x ∈ f.ns.take (j + 1), nameOk p x = true) := fun h => by
                    intro y hy
                    rw [List.take_succ_eq_append_getElem hjl, List.mem_append] at hy
                    rcases hy with hy | hy
                    · exact HALL3.out y hy
                    · rw [List.mem_singleton.1 hy, hxa]
                      exact h
                  have hstop : nameOk p x = false → Hid (okP p = false) := fun h => HNO.out _ (fun h => (HIFF.out.1 h).2.2.2) fun ha => by
                    have := List.all_eq_true.1 (ha f (List.mem_of_getElem? HF.out)) x (List.mem_of_getElem? hx)
                    rw [h] at this
                    cases this
                  have hgr : g5 < wr.heap.size := by have := hbw3.size; omega
                  have hN := Blk.new wr 59 [.int .i64 x.op, .int .i64 x.n, .slice la x.l.length lc]
                  have hbn := below_new wr (.cells #[.int .i64 x.op, .int .i64 x.n, .slice la x.l.length lc] 59)
                  have hNm := rpnames_any x (by omega) la lc
                  unfold ndV at hNm
                  clear hx hxa
                  go_upto_region 19 with fail
                  have hw6 : Below w3.heap.size w3 (wr.alloc (.cells #[.int .i64 x.op, .int .i64 x.n, .slice la x.l.length lc] 59)) := hbt.trans (hbn.mono hzt)
                  have hbox := ((hb2.belowAll hbs).belowAll hbt).belowAll hbn
                  have hbw6 : Below w.heap.size w (wr.alloc (.cells #[.int .i64 x.op, .int .i64 x.n, .slice la x.l.length lc] 59)) := hbw3.trans (hbn.mono hbw3.size)
                  clear c0 g3 g4 r0 r1 r2 hgr hfn hbn
                  generalize wr.alloc (.cells #[.int .i64 x.op, .int .i64 x.n, .slice la x.l.length lc] 59) = w6 at *
                  have hnl := hN.lt
                  have hz6 := hw6.size
                  generalize wr.heap.size = nb at *
                  have n0 := hN.c 0 rfl
                  have n1 := hN.c 1 rfl
                  have n2 := hN.c 2 rfl
                  have hNm6 := hNm w6
                  obtain ⟨wn, hwn⟩ : ∃ wn, wantN x = wn := ⟨_, rfl⟩
                  rw [hwn] at hNm6
                  cases hnm : namesOp x.op with
                  | false =>
                    rw [hnm, if_neg (by simp)] at hNm6
                    have HS := hstep (by
                      unfold nameOk
                      rw [if_neg (by rw [hnm]; simp)])
                    clear hwn hnm hstep hstop hNm
                    go_wp2_with (go_at_call 82; refine hNm6.mono ?_; rintro e w7 ⟨rfl, hb7⟩)
                    go_roundw
                    case' rel => exact ⟨j + 1, by go_num, hjl, HS.out, hw6.trans (hb7.mono hz6)⟩
                    case' measure => exact meas_lt hms3
                  | true =>
                    rw [hnm, if_pos rfl] at hNm6
                    have hx0 := hxn hnm
                    clear hNm
                    by_cases hbig : (p.length : Int) ≤ x.n
                    case' pos =>
                      have HB := hstop (nameOk_no hnm hbig)
                      have q5 : decide ((p.length : Int) ≤ x.n) = true := by simpa using hbig
                      clear hwn hnm hstep hstop hbig
                      go_upto_region 20 with (go_at_call 82; refine hNm6.mono ?_; rintro e w7 ⟨rfl, hb7⟩)
                      have n1 := (hN.belowAll hb7).c 1 rfl
                      have c0 := (hbox.belowAll hb7).c 0 rfl
                      go_wp2_with fail
                      go_ret3
                      exact PwE.no HB (hbw6.trans (hb7.mono hbw6.size))
                    case' neg =>
                      obtain ⟨m, hm⟩ := Int.eq_ofNat_of_zero_le hx0
                      have hml : m < p.length := by omega
                      obtain ⟨h, hh⟩ : ∃ h, p[m]? = some h := ⟨p[m], List.getElem?_eq_getElem hml⟩
                      have hno2 := nameOk_of hnm hm hh
                      have q5 : decide ((p.length : Int) ≤ x.n) = false := by simp; omega
                      have q6 : decide (p.length ≤ m) = false := by simp; omega
                      have q7 : decide (m < p.length) = true := by simp; omega
                      obtain ⟨g8, o8, na8, fc8, hpa8, hg8, g9, -, -, -, -, -⟩ := hP.fs.cells hbw6 hh
                      injection hpa8 with hpa8
                      injection hpa8 with e1 e2 _
                      subst e1 e2
                      rw [hwn] at hno2
                      have hgz : g < w6.heap.size := by have := hbw6.size; omega
                      by_cases hpw : h.ps = wn
                      case' pos =>
                        have HS := hstep (by rw [hno2, hpw]; simp)
                        rw [hpw] at g9
                        rw [hm] at hN hNm6 q5
                        clear hwn hnm hstep hstop hbig hno2 hpw hm hh n1 hx0 hxn
                        have n1 := hN.c 1 rfl
                        go_upto_region 20 with (go_at_call 82; refine hNm6.mono ?_; rintro e w7 ⟨rfl, hb7⟩)
                        have n1 := (hN.belowAll hb7).c 1 rfl
                        have c0 := (hbox.belowAll hb7).c 0 rfl
                        have g10 := (hb7.cell (p := ⟨g, o + m * 2, none⟩) hgz).trans g9
                        go_wp2_with fail
                        go_roundw
                        case' rel => exact ⟨j + 1, by go_num, hjl, HS.out, hw6.trans (hb7.mono hz6)⟩
                        case' measure => exact meas_lt hms3
                      case' neg =>
                        have HB := hstop (by rw [hno2]; simpa using hpw)
                        have q8 : (h.ps == wn) = false := by simpa using hpw
                        rw [hm] at hN hNm6 q5
                        clear hwn hnm hstep hstop hbig hno2 hpw hm hh n1 hx0 hxn
                        have n1 := hN.c 1 rfl
                        go_upto_region 20 with (go_at_call 82; refine hNm6.mono ?_; rintro e w7 ⟨rfl, hb7⟩)
                        have n1 := (hN.belowAll hb7).c 1 rfl
                        have c0 := (hbox.belowAll hb7).c 0 rfl
                        have g10 := (hb7.cell (p := ⟨g, o + m * 2, none⟩) hgz).trans g9
                        go_wp2_with fail
                        go_ret3
                        exact PwE.no HB (hbw6.trans (hb7.mono hbw6.size))
set_option maxRecDepth 100000 in
set_option maxHeartbeats 1000000 in
theorem rright_any (p : List Fn) (pa : Option Addr) (cap : Nat) (w : World) (hP : PAt (· < w.heap.size) w p pa cap) : Calls Tryz.prog 29 #[prV p pa cap] w fun e w' => e = .returned (.bool (okP p)) ∧ Below w.heap.size w w' := by
  have hb := Blk.new w 24 [.slice pa p.length cap]
  have hw1 := below_new w (.cells #[.slice pa p.length cap] 24)
  have c0 := hb.c 0 rfl
  have hL := rpwhere_any p pa cap _ (hP.later hw1)
  unfold PwE prV at hL
  unfold prV
  obtain ⟨b, hbb⟩ : ∃ b, okP p = b := ⟨_, rfl⟩
  rw [hbb] at hL ⊢
  clear hbb
  go_enter Tryz.func29, Tryz.ntmps29
  cases b with
  | true =>
    rw [if_pos rfl] at hL
    go_wp2_with (go_at_call 54; refine hL.mono ?_; rintro e w2 ⟨hb2, a, b, rfl⟩)
    go_ret
    exact ⟨rfl, hw1.trans (hb2.mono (by simp))⟩
  | false =>
    rw [if_neg (by simp)] at hL
    go_wp2_with (go_at_call 54; refine hL.mono ?_; rintro e w2 ⟨hb2, a, b, rfl⟩)
    go_ret
    exact ⟨rfl, hw1.trans (hb2.mono (by simp))⟩
end Go.Proofs.YtjendlnicbieoaaGreatDoor
