/-
  The reference's Places: the nodes' places, or the first wrong node.
-/
import Derived.Test.YtjendlnicbieoaaGreatDoorFunB
import Derived.Laws.MakeOwn
import Derived.Test.YtjendlnicbieoaaGreatDoorProA
namespace Go.Proofs.YtjendlnicbieoaaGreatDoor
open Go.RowKit Go.Sort
attribute [local go_sem] Oper.semAt_some

def ars (q : Pl) : List Value := q.flatMap fun x => [.int .i64 x.1, .int .i64 x.2]
theorem ars_at {q : Pl} {i : Nat} (h : i < q.length) : (ars q)[i * 2]? = some (.int .i64 (pl q i).1) ∧ (ars q)[i * 2 + 1]? = some (.int .i64 (pl q i).2) := by
  induction q generalizing i with
  | nil => simp at h
  | cons x r ih =>
    cases i with
    | zero => exact ⟨rfl, rfl⟩
    | succ i =>
      have := ih (i := i) (by simpa using h)
      rw [show (i + 1) * 2 = i * 2 + 1 + 1 by omega]
      exact this
theorem ars_set {q : Pl} {i : Nat} (h : i < q.length) (a : Int) : (ars q).set (i * 2) (.int .i64 a) = ars (q.set i (a, (pl q i).2)) ∧ (ars q).set (i * 2 + 1) (.int .i64 a) = ars (q.set i ((pl q i).1, a)) := by
  induction q generalizing i with
  | nil => simp at h
  | cons x r ih =>
    cases i with
    | zero => exact ⟨rfl, rfl⟩
    | succ i =>
      have := ih (i := i) (by simpa using h)
      rw [show (i + 1) * 2 = i * 2 + 1 + 1 by omega]
      refine ⟨?_, ?_⟩
      · exact congrArg (fun z => Value.int .i64 x.1 :: .int .i64 x.2 :: z) this.1
      · exact congrArg (fun z => Value.int .i64 x.1 :: .int .i64 x.2 :: z) this.2
theorem ars_rep (n : Nat) : ars (List.replicate n (0, 0)) = List.replicate (n * 2) (.int .i64 0) := by
  induction n with
  | zero => rfl
  | succ n ih => rw [List.replicate_succ, show (n + 1) * 2 = n * 2 + 1 + 1 by omega, List.replicate_succ, List.replicate_succ, ← ih]; rfl
theorem pl_made (n : Nat) : madeCells (Value.agg #[.int .i64 0, .int .i64 0]).cells (n * 2) = (ars (List.replicate n (0, 0))).toArray := by
  have hc : (Value.agg #[.int .i64 0, .int .i64 0]).cells = #[.int .i64 0, .int .i64 0] := rfl
  rw [hc]
  apply Array.toList_inj.1
  rw [ars_rep]
  apply List.ext_getElem?
  intro j
  rw [List.getElem?_replicate]
  by_cases hj : j < n * 2
  · rw [if_pos hj]
    rcases Nat.mod_two_eq_zero_or_one j with e | e <;> simp [madeCells, hj, e]
  · rw [if_neg hj]
    simp [madeCells, hj]
theorem place_info : (Tryz.prog.info? 188).map (fun i => (i.zero, i.size, i.bytes)) = some (some (.agg #[.int .i64 0, .int .i64 0]), 2, 16) := by kernel_rfl
theorem make_places (n : Nat) (hn : n ≤ 200) (w : World) : (Instr.makeSlice 168 (.int .i64 (n : Int)) (.int .i64 (n : Int))).run Tryz.prog w = .ok (.slice (some ⟨w.heap.size, 0, none⟩) n n) (w.alloc (.cells (ars (List.replicate n (0, 0))).toArray 188)) := by
  obtain ⟨i, hi, hz, hs, hb⟩ := info_partsS place_info
  have hr := run_make (P := Tryz.prog) w 168 188 i _ Tryz.underlying168 hi hz .i64 .i64 n n (by omega) (Int.le_refl _) (by rw [hb]; omega) (by omega)
  rw [hs, Int.toNat_natCast, pl_made] at hr
  exact hr
/-- A row of places. -/
def Pr (w : World) (T : Nat) (q : Pl) : Prop := Blk w T 188 (ars q)
theorem Pr.setA {w : World} {T m : Nat} {q : Pl} (h : Pr w T q) (hm : m < q.length) (a : Int) : Pr (w.setCell ⟨T, m * 2, none⟩ (.int .i64 a)) T (q.set m (a, (pl q m).2)) := by
  have := Blk.set (t := 188) h (m * 2) (.int .i64 a)
  rwa [(ars_set hm a).1] at this
theorem Pr.setB {w : World} {T m : Nat} {q : Pl} (h : Pr w T q) (hm : m < q.length) (a : Int) : Pr (w.setCell ⟨T, m * 2 + 1, none⟩ (.int .i64 a)) T (q.set m ((pl q m).1, a)) := by
  have := Blk.set (t := 188) h (m * 2 + 1) (.int .i64 a)
  rwa [(ars_set hm a).2] at this
theorem Pr.setAB {w : World} {T m : Nat} {q : Pl} (h : Pr w T q) (hm : m < q.length) (a b : Int) : Pr ((w.setCell ⟨T, m * 2, none⟩ (.int .i64 a)).setCell ⟨T, m * 2 + 1, none⟩ (.int .i64 b)) T (q.set m (a, b)) := by
  have := (h.setA hm a).setB (m := m) (by simpa using hm) b
  rwa [set_two q m hm] at this
theorem repl_at {n k : Nat} (h : k < n) : pl (List.replicate k ((-1 : Int), (0 : Int)) ++ List.replicate (n - k) (0, 0)) k = (0, 0) := by
  unfold pl
  rw [List.getD_eq_getElem?_getD, List.getElem?_append_right (by simp), List.length_replicate, Nat.sub_self, List.getElem?_replicate, if_pos (by omega)]
  rfl
theorem repl_set {n k : Nat} (h : k < n) : (List.replicate k ((-1 : Int), (0 : Int)) ++ List.replicate (n - k) (0, 0)).set k (-1, 0) = List.replicate (k + 1) (-1, 0) ++ List.replicate (n - (k + 1)) (0, 0) := by
  rw [List.set_append, if_neg (by simp), List.length_replicate, Nat.sub_self]
  obtain ⟨m, hm⟩ : ∃ m, n - k = m + 1 := ⟨n - k - 1, by omega⟩
  rw [hm, show n - (k + 1) = m by omega, List.replicate_succ, List.replicate_succ']
  simp
/-- What follows a node. -/
def nxE (n k : Nat) (ns : List Nd) : Option Pl → Except Nat Pl
  | some q => nodesE n (k + 1) (ns.drop (k + 1)) q
  | none => .error k
theorem nodesE_nx (n k : Nat) (x : Nd) (ns : List Nd) (p : Pl) : nodesE n k (x :: ns.drop (k + 1)) p = nxE n k ns (nodeP n k x p) := by
  rw [nodesE]
  cases nodeP n k x p <;> rfl
def PlE (r : Except Nat Pl) (f : Fn) (w : World) (e : Ending) (w' : World) : Prop := Below w.heap.size w w' ∧ match r with
  | .ok _ => ∃ T, e = .returned (.tuple #[.slice (some ⟨T, 0, none⟩) f.ns.length f.ns.length, .int .i64 0, .bool false])
  | .error i => e = .returned (.tuple #[.slice none 0 0, .int .i64 (i : Nat), .bool true])
theorem PlE.no {r : Except Nat Pl} {i : Nat} {f : Fn} {w w' : World} (h : Hid (r = .error i)) (hb : Below w.heap.size w w') : PlE r f w (.returned (.tuple #[.slice none 0 0, .int .i64 (i : Nat), .bool true])) w' := by
  unfold PlE
  rw [h.out]
  exact ⟨hb, rfl⟩
set_option maxRecDepth 100000 in
set_option maxHeartbeats 4000000 in
theorem places_any (f : Fn) (na : Option Addr) (cap : Nat) (w : World) (hf : FnAt (· < w.heap.size) w f na cap) :
    Calls Tryz.prog 101 #[fnV f na cap] w (PlE (lookP f) f w) := by
  obtain ⟨r, hr⟩ : ∃ r, lookP f = r := ⟨_, rfl⟩
  rw [hr]
  have hb := Blk.new w 46 [.int .i64 f.ps, .slice na f.ns.length cap]
  have hw1 : Below w.heap.size w (w.alloc (.cells #[.int .i64 f.ps, .slice na f.ns.length cap] 46)) := (Below.refl _ _).alloc (Nat.le_refl _) _
  have hlc := hf.le
  have hcm := hf.cap
  have c0 := hb.c 0 rfl
  have c1 := hb.c 1 rfl
  unfold lookP headOk at hr
  unfold fnV
  by_cases hh : 0 ≤ f.ps ∧ f.ps ≤ 9 ∧ 1 ≤ f.ns.length ∧ f.ns.length ≤ 200
  case' neg =>
    rw [if_neg (by simpa using hh)] at hr
    have HR : Hid (r = .error 0) := hr.symm
    clear hr
    by_cases h1 : f.ps < 0
    case' pos =>
      have f1 : decide (f.ps < 0) = true := by simpa using h1
    case' neg =>
      have f1 : decide (f.ps < 0) = false := by simpa using h1
      by_cases h2 : 9 < f.ps
      case' pos =>
        have f2 : decide (9 < f.ps) = true := by simpa using h2
      case' neg =>
        have f2 : decide (9 < f.ps) = false := by simpa using h2
        by_cases h3 : f.ns.length < 1
        case' pos =>
          have f3 : decide (f.ns.length < 1) = true := by simpa using h3
        case' neg =>
          have f3 : decide (f.ns.length < 1) = false := by simpa using h3
          have h4 : 200 < f.ns.length := by omega
    all_goals
      clear hh
      go_enter Tryz.func101, Tryz.ntmps101
      go_wp2_with fail
      all_goals first | (go_ret3; exact PlE.no HR hw1) | trace_state
  case' pos =>
    rw [if_pos (by simpa using hh)] at hr
    obtain ⟨h0, h9, h1, h200⟩ := hh
    have f1 : decide (f.ps < 0) = false := by simp; omega
    have f2 : decide (9 < f.ps) = false := by simp; omega
    have f3 : decide (f.ns.length < 1) = false := decide_eq_false (by omega)
    have f4 : decide (200 < f.ns.length) = false := decide_eq_false (by omega)
    have hmk := make_places f.ns.length h200 (w.alloc (.cells #[.int .i64 f.ps, .slice na f.ns.length cap] 46))
    rw [World.size_alloc] at hmk
    have HREST := Lib.hid hr
    clear hr
    have hT : Pr ((w.alloc (.cells #[.int .i64 f.ps, .slice na f.ns.length cap] 46)).alloc (.cells (ars (List.replicate f.ns.length (0, 0))).toArray 188)) (w.heap.size + 1) (List.replicate f.ns.length (0, 0)) := by
      have := Blk.new (w.alloc (.cells #[.int .i64 f.ps, .slice na f.ns.length cap] 46)) 188 (ars (List.replicate f.ns.length (0, 0)))
      rwa [World.size_alloc] at this
    have hw2 : Below w.heap.size w ((w.alloc (.cells #[.int .i64 f.ps, .slice na f.ns.length cap] 46)).alloc (.cells (ars (List.replicate f.ns.length (0, 0))).toArray 188)) := hw1.alloc (by simp) _
    have hb2 := hb.alloc (.cells (ars (List.replicate f.ns.length (0, 0))).toArray 188)
    go_enter Tryz.func101, Tryz.ntmps101
    go_upto_region 5 with fail
    have hf2 := hf.later hw2
    clear hb c0 c1 hmk hw1
    generalize (w.alloc (.cells #[.int .i64 f.ps, .slice na f.ns.length cap] 46)).alloc (.cells (ars (List.replicate f.ns.length (0, 0))).toArray 188) = w2 at *
    obtain ⟨T, hTe⟩ : ∃ T, w.heap.size + 1 = T := ⟨_, rfl⟩
    rw [hTe] at hT ⊢
    have hwT : w.heap.size < T := by omega
    go_wp2_with fail
    go_loopw [7] (fun ix wr => ∃ k : Nat, ix = .int .i64 (k : Nat) ∧ k ≤ f.ns.length ∧ Pr wr T (List.replicate k (-1, 0) ++ List.replicate (f.ns.length - k) (0, 0)) ∧ Fr (fun b => b = T) w2 wr) (fun ix _ => f.ns.length - (intOf ix).toNat)
    case atStart => exact ⟨0, rfl, Nat.zero_le _, hT, Fr.refl _ _⟩
    case round =>
      obtain ⟨k, rfl, hk, hbk, hfr⟩ := hrel
      by_cases hlt : k < f.ns.length
      case' pos =>
        have hkd : decide (k < f.ns.length) = true := by simpa using hlt
        have hrl : (List.replicate k ((-1 : Int), (0 : Int)) ++ List.replicate (f.ns.length - k) (0, 0)).length = f.ns.length := by simp; omega
        have pk := hbk.c (k * 2) (ars_at (by omega)).1
        have pk2 := hbk.c (k * 2 + 1) (ars_at (by omega)).2
        have fzk := hbk.fz (k * 2)
        have fzk2 := hbk.fz (k * 2 + 1)
        have hms := sub_lt hlt
        have hset := hbk.setAB (m := k) (by omega) (-1) 0
        rw [repl_set hlt] at hset
        clear hrl
        go_wp2_with fail
        go_roundw
        case' rel => exact ⟨k + 1, by go_num, hlt, hset, (hfr.same (Fr.set (.inl rfl))).same (Fr.set (.inl rfl))⟩
        case' measure => exact meas_lt hms
      case' neg =>
        have hkd : decide (k < f.ns.length) = false := by simpa using hlt
        obtain rfl : k = f.ns.length := by omega
        rw [Nat.sub_self, List.replicate_zero, List.append_nil] at hbk
        have hb3 := hb2.fr hfr (show ¬ w.heap.size = T by omega)
        have hns3 : IsNs (· < w.heap.size) wr f.ns na := (hf.ns.below hw2).fr hfr fun g hg => ⟨by have := hw2.size; omega, by omega⟩
        have hw3 : Below w.heap.size w wr := hw2.trans (hfr.toBelow _ (fun k hk => by omega) (by have := hw2.size; omega))
        have hz3 := hw3.size
        clear hb2 hkd hfr hlt hk hT hw2
        have hrl : (List.replicate f.ns.length ((-1 : Int), (0 : Int))).length = f.ns.length := by simp
        have c0 := hb3.c 0 rfl
        have c1 := hb3.c 1 rfl
        have dm := hbk.c (0 * 2 + 1) (ars_at (by omega)).2
        rw [Nat.zero_mul, Nat.zero_add] at dm
        have fzD := hbk.fz 1
        have hst := hbk.setB (m := 0) (by omega) f.ps
        rw [Nat.zero_mul, Nat.zero_add] at hst
        have hse : (List.replicate f.ns.length ((-1 : Int), (0 : Int))).set 0 ((pl (List.replicate f.ns.length ((-1 : Int), (0 : Int))) 0).1, f.ps) = startP f.ns.length f.ps := by
          unfold startP
          congr 2
          unfold pl
          rw [List.getD_eq_getElem?_getD, List.getElem?_replicate, if_pos (by omega)]
          rfl
        rw [hse] at hst
        have hf4 : Fr (fun b => b = T) wr (wr.setCell ⟨T, 1, none⟩ (.int .i64 f.ps)) := Fr.set (.inl rfl)
        clear hrl hse
        go_upto_region 10 with fail
        have hb5 := hb3.fr hf4 (show ¬ w.heap.size = T by omega)
        have hns5 := hns3.fr hf4 fun g hg => ⟨by omega, by omega⟩
        have hw5 : Below w.heap.size w (wr.setCell ⟨T, 1, none⟩ (.int .i64 f.ps)) := hw3.trans (hf4.toBelow _ (fun k hk => by omega) (by omega))
        clear c0 c1 dm fzD hf4 hb3 hns3 hw3 hbk hf2
        generalize wr.setCell ⟨T, 1, none⟩ (.int .i64 f.ps) = w5 at *
        have hdep : Dep (startP f.ns.length f.ps) := fun j hj => by
          unfold startP at hj ⊢
          rw [pl_set _ _ _ _ (by simp; omega)]
          split
          · dsimp only; omega
          · simp only [List.length_set, List.length_replicate] at hj
            unfold pl
            simp [List.getD_eq_getElem?_getD, hj]
        have hz5 := hw5.size
        have hsl : (startP f.ns.length f.ps).length = f.ns.length := by simp [startP]
        go_wp2_with fail
        go_loopw [8] (fun ix wr => ∃ (k : Nat) (p : Pl), ix = .int .i64 (k : Nat) ∧ k ≤ f.ns.length ∧ nodesE f.ns.length k (f.ns.drop k) p = r ∧ Pr wr T p ∧ p.length = f.ns.length ∧ Dep p ∧ Fr (fun b => b = T) w5 wr) (fun ix _ => f.ns.length - (intOf ix).toNat)
        case atStart => exact ⟨0, _, rfl, Nat.zero_le _, HREST.out, hst, hsl, hdep, Fr.refl _ _⟩
        case round =>
          obtain ⟨k, p, rfl, hk, hrest, hp, hpl, hdr, hfr⟩ := hrel
          clear hst hsl hdep
          have hwr : Below w.heap.size w wr := hw5.trans (hfr.toBelow _ (fun k hk => by omega) (by omega))
          by_cases hlt : k < f.ns.length
          case' neg =>
            have hkd : decide (k < f.ns.length) = false := by simpa using hlt
            rw [List.drop_of_length_le (by omega), nodesE] at hrest
            have HR := Lib.hid hrest
            clear hrest hpl
            go_wp2_with fail
            go_ret3
            unfold PlE
            rw [← HR.out]
            exact ⟨hwr, T, rfl⟩
          case' pos =>
            have hkd : decide (k < f.ns.length) = true := by simpa using hlt
            have hms := sub_lt hlt
            obtain ⟨x, hx⟩ : ∃ x, f.ns[k]? = some x := ⟨f.ns[k], List.getElem?_eq_getElem hlt⟩
            have hxe : f.ns[k] = x := by rw [List.getElem?_eq_getElem hlt] at hx; exact Option.some.inj hx
            rw [List.drop_eq_getElem_cons hlt, hxe, nodesE_nx] at hrest
            obtain ⟨g, o, la, lc, rfl, hg, q0, q1, q2, hxc, hxm, hLI, r1, r2⟩ := (hns5.fr hfr fun g hg => ⟨by omega, by omega⟩) k x hx
            have hbx := hb5.fr hfr (show ¬ w.heap.size = T by omega)
            have c0 := hbx.c 0 rfl
            have c1 := hbx.c 1 rfl
            have hgr : g < wr.heap.size := by have := hwr.size; omega
            have hN := Blk.new wr 59 [.int .i64 x.op, .int .i64 x.n, .slice la x.l.length lc]
            have hbn := below_new wr (.cells #[.int .i64 x.op, .int .i64 x.n, .slice la x.l.length lc] 59)
            have hTr : T < wr.heap.size := Blk.lt hp
            have HREST2 := Lib.hid hrest
            clear hrest hxe
            go_upto_region 14 with fail
            have hw6 : Below w.heap.size w (wr.alloc (.cells #[.int .i64 x.op, .int .i64 x.n, .slice la x.l.length lc] 59)) := hwr.trans (hbn.mono (by have := hwr.size; omega))
            have hfr6 : Fr (fun b => b = T) w5 (wr.alloc (.cells #[.int .i64 x.op, .int .i64 x.n, .slice la x.l.length lc] 59)) := hfr.same (Fr.belowAll hbn)
            have hp6 : Pr (wr.alloc (.cells #[.int .i64 x.op, .int .i64 x.n, .slice la x.l.length lc] 59)) T p := Blk.belowAll hp hbn
            have hLI6 : IsI (fun g => g < w.heap.size) (wr.alloc (.cells #[.int .i64 x.op, .int .i64 x.n, .slice la x.l.length lc] 59)) x.l la := hLI.fr (S := fun _ => False) (Fr.belowAll hbn) fun g hg => ⟨by have := hwr.size; omega, id⟩
            have hnT : wr.heap.size ≠ T := by omega
            have hwn : w.heap.size ≤ wr.heap.size := hwr.size
            clear q0 q1 q2 c0 c1 hbx hbn hp hfr hLI hwr hgr hTr
            generalize wr.alloc (.cells #[.int .i64 x.op, .int .i64 x.n, .slice la x.l.length lc] 59) = w6 at *
            have hnl := hN.lt
            generalize wr.heap.size = nb at *
            obtain ⟨u, hu⟩ : ∃ u, (pl p k).1 = u := ⟨_, rfl⟩
            obtain ⟨dp, hdp⟩ : ∃ dp, (pl p k).2 = dp := ⟨_, rfl⟩
            have p0 := Blk.c hp6 (k * 2) (ars_at (by omega)).1
            have p1 := Blk.c hp6 (k * 2 + 1) (ars_at (by omega)).2
            rw [hu] at p0
            rw [hdp] at p1
            have n0 := hN.c 0 rfl
            have n1 := hN.c 1 rfl
            have n2 := hN.c 2 rfl
            have m0 := fun d os => cell_regrown n0 d os
            have m1 := fun d os => cell_regrown n1 d os
            have m2 := fun d os => cell_regrown n2 d os
            have y0 := fun d os => cell_regrown p0 d os
            have y1 := fun d os => cell_regrown p1 d os
            have hdb := hdr k (by omega)
            rw [hdp] at hdb
            have HU := Lib.hid hu
            have HD := Lib.hid hdp
            have hbad : badN k x p → Hid (r = .error k) := fun hb => by
              show _ = _
              rw [← HREST2.out]
              unfold nodeP
              rw [if_pos hb]
              rfl
            obtain ⟨kk, hkk⟩ : ∃ kk, kidsOk x.op x.l.length = kk := ⟨_, rfl⟩
            obtain ⟨nk, hnk⟩ : ∃ nk, numOk x.op x.n dp = nk := ⟨_, rfl⟩
            have HKK := Lib.hid hkk
            have HNK := Lib.hid hnk
            have cK : ∀ d os, Calls Tryz.prog 116 #[.int .i64 x.op, .int .i64 (x.l.length : Nat)] (grow (redrawn w6 d) os) fun e w'' => e = .returned (.bool kk) ∧ ∃ p : Regrown, w'' = grow (redrawn w6 p.d) p.os := fun d os => (beneath_any x.op x.l.length _).mono (by
              rintro e w' ⟨rfl, rfl⟩
              exact ⟨by rw [hkk], ⟨d, os⟩, rfl⟩)
            have cN : ∀ d os, Calls Tryz.prog 117 #[.int .i64 x.op, .int .i64 x.n, .int .i64 dp] (grow (redrawn w6 d) os) fun e w'' => e = .returned (.bool nk) ∧ ∃ p : Regrown, w'' = grow (redrawn w6 p.d) p.os := fun d os => (rnumber_any x.op x.n dp _).mono (by
              rintro e w' ⟨rfl, rfl⟩
              exact ⟨by rw [hnk], ⟨d, os⟩, rfl⟩)
            clear hu hdp hkk hnk
            go_upto_region 15 with fail
            by_cases hA : 0 < k ∧ u < 0
            case' pos =>
              have HB := hbad (.inl (by rw [HU.out]; exact hA))
              have q1 : decide (0 < k) = true := by simp; omega
              have q2 : decide (u < 0) = true := by simpa using hA.2
              clear hbad hA
              refine wp_region_quiet_below (by kernel_rfl) (by kernel_rfl) ?_
              repeat (go_big_quiet_step (with_reducible first | exact cK _ _ | exact cN _ _))
              refine wpQuiet_nil ?_
              intro _ hw'
              obtain ⟨⟨dq, osq⟩, hw''⟩ := hw'
              subst hw''
              have hb3 := below_regrown w6 dq osq
              go_wp2_with fail
              go_ret3
              exact PlE.no HB (hw6.trans (hb3.mono (by have := hw6.size; omega)))
            case' neg =>
              by_cases hk0 : 0 < k
              case' pos =>
                have q1 : decide (0 < k) = true := by simp; omega
                have q2 : decide (u < 0) = false := by simp; omega
              case' neg =>
                have q1 : decide (0 < k) = false := by simp; omega
              all_goals
                by_cases hB : 64 < dp
                case' pos =>
                  have HB := hbad (.inr (.inl (by rw [HD.out]; exact hB)))
                  have q3 : decide (64 < dp) = true := by simpa using hB
                  clear hbad hA hB
                  refine wp_region_quiet_below (by kernel_rfl) (by kernel_rfl) ?_
                  repeat (go_big_quiet_step (with_reducible first | exact cK _ _ | exact cN _ _))
                  refine wpQuiet_nil ?_
                  intro _ hw'
                  obtain ⟨⟨dq, osq⟩, hw''⟩ := hw'
                  subst hw''
                  have hb3 := below_regrown w6 dq osq
                  go_wp2_with fail
                  go_ret3
                  exact PlE.no HB (hw6.trans (hb3.mono (by have := hw6.size; omega)))
                case' neg =>
                  have q3 : decide (64 < dp) = false := by simp; omega
                  cases kk
                  case' false =>
                    have HB := hbad (.inr (.inr (.inl HKK.out)))
                    clear hbad hA hB
                    refine wp_region_quiet_below (by kernel_rfl) (by kernel_rfl) ?_
                    repeat (go_big_quiet_step (with_reducible first | exact cK _ _ | exact cN _ _))
                    refine wpQuiet_nil ?_
                    intro _ hw'
                    obtain ⟨⟨dq, osq⟩, hw''⟩ := hw'
                    subst hw''
                    have hb3 := below_regrown w6 dq osq
                    go_wp2_with fail
                    go_ret3
                    exact PlE.no HB (hw6.trans (hb3.mono (by have := hw6.size; omega)))
                  case' true =>
                    cases nk
                    case' false =>
                      have HB := hbad (.inr (.inr (.inr (by rw [HD.out]; exact HNK.out))))
                      clear hbad hA hB
                      refine wp_region_quiet_below (by kernel_rfl) (by kernel_rfl) ?_
                      repeat (go_big_quiet_step (with_reducible first | exact cK _ _ | exact cN _ _))
                      refine wpQuiet_nil ?_
                      intro _ hw'
                      obtain ⟨⟨dq, osq⟩, hw''⟩ := hw'
                      subst hw''
                      have hb3 := below_regrown w6 dq osq
                      go_wp2_with fail
                      go_ret3
                      exact PlE.no HB (hw6.trans (hb3.mono (by have := hw6.size; omega)))
                    case' true =>
                      have hgood : ¬ badN k x p := by
                        unfold badN
                        rw [HU.out, HD.out, HKK.out, HNK.out]
                        simp
                        omega
                      have HG := Lib.hid hgood
                      clear hbad hgood
                      refine wp_region_quiet_below (by kernel_rfl) (by kernel_rfl) ?_
                      repeat (go_big_quiet_step (with_reducible first | exact cK _ _ | exact cN _ _))
                      refine wpQuiet_nil ?_
                      intro _ hw'
                      obtain ⟨⟨dq, osq⟩, hw''⟩ := hw'
                      subst hw''
                      have hb3 := below_regrown w6 dq osq
                      have hp7 : Pr (grow (redrawn w6 dq) osq) T p := Blk.belowAll hp6 hb3
                      have hfr7 : Fr (fun b => b = T) w5 (grow (redrawn w6 dq) osq) := hfr6.same (Fr.belowAll hb3)
                      have hN7 := hN.belowAll hb3
                      have hLI7 : IsI (fun g => g < w.heap.size) (grow (redrawn w6 dq) osq) x.l la := hLI6.fr (S := fun _ => False) (Fr.belowAll hb3) fun g hg => ⟨by have := hw6.size; omega, id⟩
                      have hw7 : Below w.heap.size w (grow (redrawn w6 dq) osq) := hw6.trans (hb3.mono (by have := hw6.size; omega))
                      clear cK cN m0 m1 m2 y0 y1 n0 n1 n2 p0 p1 hp6 hfr6 hN hLI6 hw6 hb3 hA hB
                      generalize grow (redrawn w6 dq) osq = w7 at *
                      obtain ⟨rk, hrk⟩ : ∃ rk, nodeP f.ns.length k x p = rk := ⟨_, rfl⟩
                      have HRK : Hid (kidsP f.ns.length k dp (x.op == 4) 0 x.l p = rk) := by
                        show _ = _
                        rw [← hrk]
                        unfold nodeP
                        rw [if_neg HG.out, HD.out]
                      have HND : Hid (∀ q, rk = some q → Dep q ∧ q.length = f.ns.length) := fun q h => nodeP_dep (hrk.trans h) hpl hlt hdr
                      have HNX : Hid (nxE f.ns.length k f.ns rk = r) := by
                        show _ = _
                        rw [← HREST2.out, hrk]
                      clear hrk hlt hkd
                      have hz7 := hw7.size
                      have hwr : wrap64 (dp + 1) = dp + 1 := wrap64_id (by omega) (by omega)
                      have hx16 : x.l.length ≤ 16 := kids16 HKK.out
                      have hlt : k < f.ns.length := by omega
                      have n0 := hN7.c 0 rfl
                      have n2 := hN7.c 2 rfl
                      go_wp2_with fail
                      go_loopw [11] (fun ix wr => ∃ (j : Nat) (p' : Pl), ix = .int .i64 (j : Nat) ∧ j ≤ x.l.length ∧ kidsP f.ns.length k dp (x.op == 4) j (x.l.drop j) p' = rk ∧ Pr wr T p' ∧ p'.length = f.ns.length ∧ (pl p' k).2 = dp ∧ Fr (fun b => b = T) w7 wr) (fun ix _ => x.l.length - (intOf ix).toNat)
                      case atStart => exact ⟨0, p, rfl, Nat.zero_le _, HRK.out, hp7, hpl, HD.out, Fr.refl _ _⟩
                      case round =>
                        obtain ⟨j, p', rfl, hj, hrest, hp, hpl', hpk, hfr⟩ := hrel
                        clear hp7
                        have n0r := (hfr.cell (k := nb) (o := 0) hN7.lt hnT).trans n0
                        have n2r := (hfr.cell (k := nb) (o := 2) hN7.lt hnT).trans n2
                        have hwx : Below w.heap.size w wr := hw7.trans (hfr.toBelow _ (fun k hk => by omega) (by omega))
                        by_cases hjl : j < x.l.length
                        case' neg =>
                          have hjd : decide (j < x.l.length) = false := by simpa using hjl
                          rw [List.drop_of_length_le (by omega), kidsP] at hrest
                          have hR := HNX.out
                          have hD2 := HND.out
                          rw [← hrest] at hR hD2
                          have hd3 := (hD2 p' rfl).1
                          have HR := Lib.hid hR
                          clear hrest hR hD2
                          go_wp2_with fail
                          go_roundw
                          case' rel => exact ⟨k + 1, p', by go_num, hlt, HR.out, hp, hpl', hd3, hfr7.same hfr⟩
                          case' measure => exact meas_lt hms
                        case' pos =>
                          have hjd : decide (j < x.l.length) = true := by simpa using hjl
                          have hms2 := sub_lt hjl
                          obtain ⟨c, hc⟩ : ∃ c, x.l[j]? = some c := ⟨x.l[j], List.getElem?_eq_getElem hjl⟩
                          obtain ⟨lg, lo, hla, hlg, l0, hrc⟩ := hLI7 j c hc
                          subst hla
                          have l1 := (hfr.cell (k := lg) (o := lo + j) (by omega) (by omega)).trans l0
                          have hxj : x.l[j] = c := by rw [List.getElem?_eq_getElem hjl] at hc; exact Option.some.inj hc
                          rw [List.drop_eq_getElem_cons hjl, kidsP, hxj] at hrest
                          clear l0 hxj hc n0 n2 hLI7
                          by_cases hb : c ≤ (k : Int) ∨ (f.ns.length : Int) ≤ c ∨ 0 ≤ (pl p' c.toNat).1
                          case' pos =>
                            rw [if_pos hb] at hrest
                            have HR : Hid (r = .error k) := by
                              show _ = _
                              rw [← HNX.out, ← hrest]
                              rfl
                            clear hrest
                            by_cases b1 : c ≤ (k : Int)
                            case' pos =>
                              have f1 : decide (c ≤ (k : Int)) = true := by simpa using b1
                            case' neg =>
                              have f1 : decide (c ≤ (k : Int)) = false := by simpa using b1
                              by_cases b2 : (f.ns.length : Int) ≤ c
                              case' pos =>
                                have f2 : decide ((f.ns.length : Int) ≤ c) = true := by simpa using b2
                              case' neg =>
                                have f2 : decide ((f.ns.length : Int) ≤ c) = false := by simpa using b2
                                obtain ⟨m, rfl⟩ := Int.eq_ofNat_of_zero_le (show 0 ≤ c by omega)
                                have pm := Blk.c hp (m * 2) (ars_at (by omega)).1
                                rw [Int.toNat_natCast] at hb
                                have f3 : decide (0 ≤ (pl p' m).1) = true := by simp; omega
                                have f4 : decide (m < f.ns.length) = true := by simp; omega
                            all_goals
                              clear hb
                              go_wp2_with fail
                              go_ret3
                              exact PlE.no HR hwx
                          case' neg =>
                            rw [if_neg hb] at hrest
                            obtain ⟨m, rfl⟩ := Int.eq_ofNat_of_zero_le (show 0 ≤ c by omega)
                            rw [Int.toNat_natCast] at hb hrest
                            have hm : m < p'.length := by omega
                            have pm := Blk.c hp (m * 2) (ars_at (by omega)).1
                            have pm1 := Blk.c hp (m * 2 + 1) (ars_at (by omega)).2
                            have pk := Blk.c hp (k * 2 + 1) (ars_at (by omega)).2
                            rw [hpk] at pk
                            have f1 : decide ((m : Int) ≤ (k : Int)) = false := by simp; omega
                            have f2 : decide ((f.ns.length : Int) ≤ (m : Int)) = false := by simp; omega
                            have f3 : decide (0 ≤ (pl p' m).1) = false := by simp; omega
                            have f4 : decide (m < f.ns.length) = true := by simp; omega
                            have f5 : decide (m ≤ k) = false := by simp; omega
                            have f6 : decide (f.ns.length ≤ m) = false := by simp; omega
                            have hkd : decide (k < f.ns.length) = true := by simpa using hlt
                            have fz0 := Blk.fz hp (m * 2)
                            have fz1 := Blk.fz hp (m * 2 + 1)
                            have hmk : m ≠ k := by omega
                            have HREST := Lib.hid hrest
                            clear hrest hb
                            have hpa := hp.setAB hm (k : Int) dp
                            have hfa : Fr (fun b => b = T) w7 ((wr.setCell ⟨T, m * 2, none⟩ (.int .i64 (k : Int))).setCell ⟨T, m * 2 + 1, none⟩ (.int .i64 dp)) := (hfr.same (Fr.set (.inl rfl))).same (Fr.set (.inl rfl))
                            have hsl : (p'.set m ((k : Int), dp)).length = p'.length := by simp
                            have hpi : ∀ e, (pl (p'.set m ((k : Int), e)) k).2 = dp := fun e => by rw [pl_set _ _ _ _ hm, if_neg hmk]; exact hpk
                            go_upto_region 24 with fail
                            clear n0r n2r l1 pm pm1 pk fz0 fz1 hfr hp
                            generalize (wr.setCell ⟨T, m * 2, none⟩ (.int .i64 (k : Int))).setCell ⟨T, m * 2 + 1, none⟩ (.int .i64 dp) = wb at *
                            have hzb := hfa.size
                            have n0b := (hfa.cell (k := nb) (o := 0) hN7.lt hnT).trans (hN7.c 0 rfl)
                            by_cases h41 : x.op = 4 ∧ j = 1
                            case' pos =>
                              have g1 : (x.op == 4) = true := by simpa using h41.1
                              have g2 : ((j : Int) == 1) = true := by rw [h41.2]; rfl
                              have dm := Blk.c hpa (m * 2 + 1) (ars_at (by omega)).2
                              rw [pl_set _ _ _ _ hm, if_pos rfl] at dm
                              have fzD := Blk.fz hpa (m * 2 + 1)
                              have HR2 : Hid (kidsP f.ns.length k dp (x.op == 4) (j + 1) (x.l.drop (j + 1)) (p'.set m ((k : Int), dp + 1)) = rk) := by
                                show _ = _
                                rw [← HREST.out, if_pos ⟨g1, h41.2⟩]
                              have hvc := hpa.setB (m := m) (by omega) (dp + 1)
                              rw [pl_set _ _ _ _ hm, if_pos rfl, List.set_set] at hvc
                              have hfc := hfa.same (Fr.set (w := wb) (q := ⟨T, m * 2 + 1, none⟩) (u := .int .i64 (dp + 1)) (.inl rfl))
                              clear HREST hpa hfa
                              go_wp2_with fail
                              go_roundw
                              case' rel => exact ⟨2, p'.set m ((k : Int), dp + 1), rfl, two_le h41.2 hjl, two_kids h41.2 HR2.out, hvc, by simpa using hpl', hpi _, hfc⟩
                              case' measure => exact two_meas h41.2 hms2
                            case' neg =>
                              have HR2 : Hid (kidsP f.ns.length k dp (x.op == 4) (j + 1) (x.l.drop (j + 1)) (p'.set m ((k : Int), dp)) = rk) := by
                                show _ = _
                                rw [← HREST.out, if_neg (by simpa using h41)]
                              clear HREST
                              by_cases g0 : x.op = 4
                              case' pos =>
                                have g1 : (x.op == 4) = true := by simpa using g0
                                have g2 : ((j : Int) == 1) = false := cast_ne_one fun e => h41 ⟨g0, e⟩
                              case' neg =>
                                have g1 : (x.op == 4) = false := by simpa using g0
                              all_goals clear h41 g0 hwr
                              all_goals
                                go_wp2_with fail
                                go_roundw
                                case' rel => exact ⟨j + 1, p'.set m ((k : Int), dp), by go_num, hjl, HR2.out, hpa, by simpa using hpl', hpi _, hfa⟩
                                case' measure => exact meas_lt hms2
end Go.Proofs.YtjendlnicbieoaaGreatDoor
