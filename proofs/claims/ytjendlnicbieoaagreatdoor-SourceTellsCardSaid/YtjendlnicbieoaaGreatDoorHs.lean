/-
  Layer 9's statements: SourceHolds, for every program and text.
-/
import Derived.Test.YtjendlnicbieoaaGreatDoorKaKb
import Derived.Test.YtjendlnicbieoaaGreatDoorNm
import Derived.Test.YtjendlnicbieoaaGreatDoorEq
import Derived.Test.YtjendlnicbieoaaGreatDoorFe
import Derived.Test.YtjendlnicbieoaaGreatDoorHf
namespace Go.Proofs.YtjendlnicbieoaaGreatDoor
open Go.RowKit Go.Sort
attribute [local go_sem] Oper.semAt_some

theorem okP_small {p : List Fn} (h : okP p = true) : p.length ≤ 1000000 ∧ ∀ f ∈ p, f.ns.length ≤ 1000000 ∧ ∀ x ∈ f.ns, x.l.length ≤ 1000000 := by
  unfold okP at h
  simp only [Bool.and_eq_true, List.all_eq_true, decide_eq_true_eq] at h
  refine ⟨by have := h.1.1.1.2; omega, fun f hf => ?_⟩
  obtain ⟨q, hq⟩ := okF_good (h.1.1.2 f hf)
  refine ⟨by have := hq.most; omega, fun x hx => ?_⟩
  obtain ⟨j, hj⟩ := List.mem_iff_getElem?.1 hx
  have := kids16 (hq.to_.fit j x (List.getElem?_eq_some_iff.1 hj).1 hj).1
  omega
theorem pat_rn {ok : Nat → Prop} {w : World} {p : List Fn} {pa : Option Addr} {cap : Nat} (h : PAt ok w p pa cap) : ∀ f ∈ p, ∀ x ∈ f.ns, Rn x.n := by
  intro f hf x hx
  obtain ⟨j, hj⟩ := List.mem_iff_getElem?.1 hf
  obtain ⟨g, o, na, cp, -, -, -, -, -, -, hns, -⟩ := h.fs j f hj
  obtain ⟨k, hk⟩ := List.mem_iff_getElem?.1 hx
  obtain ⟨g2, o2, la, lc, -, -, -, -, -, -, -, -, -, r⟩ := hns k x hk
  exact ⟨r.1, by have := r.2; omega⟩
theorem PAt.at_ {B : Nat} {w w' : World} {p : List Fn} {pa : Option Addr} {cap : Nat} (h : PAt (fun g => w.heap.size ≤ g ∧ g < B) w' p pa cap) : PAt (· < B) w' p pa cap := ⟨h.fs.more fun _ hg => hg.2, h.le, h.cap⟩
set_option maxRecDepth 100000 in
set_option maxHeartbeats 4000000 in
theorem sholds_out (p : List Fn) (pa : Option Addr) (cap : Nat) (s : ByteArray) (hin : fewP p = false ∨ 1500 < s.size) (w : World) (hP : PAt (· < w.heap.size) w p pa cap) (hE : EnvS w) :
    Calls Tryz.prog 4 #[prV p pa cap, .string s] w fun e w' => e = .returned (.bool true) ∧ Below w.heap.size w w' := by
  have hbp := (Blk.new w 24 [.slice pa p.length cap]).alloc (.cells #[.bool false] 4)
  have hbr := Blk.new (w.alloc (.cells #[.slice pa p.length cap] 24)) 4 [.bool false]
  rw [World.size_alloc] at hbr
  have hw1 : Below w.heap.size w ((w.alloc (.cells #[.slice pa p.length cap] 24)).alloc (.cells #[.bool false] 4)) := (below_new _ _).alloc (by simp) _
  have c0 := hbp.c 0 rfl
  have hF := few_any p pa cap _ (hP.later hw1)
  have hE1 := hE.belowAll hw1
  have hc : (fewP p = false) ∨ (fewP p = true ∧ decide ((s.size : Int) > 1500) = true) := by
    rcases hin with h | h
    · exact .inl h
    · cases e : fewP p with
      | false => exact .inl rfl
      | true => exact .inr ⟨rfl, by simp; omega⟩
  clear hin
  unfold prV at hF ⊢
  refine callsIn_wide.1 (callsIn_of_wp_marks (n := 4) Tryz.func4 rfl trivial ?_ rfl)
  simp only [Tryz.ntmps4, List.size_toArray, List.length_cons, List.length_nil, Nat.reduceAdd, Nat.reduceSub, Array.replicate_succ, Array.replicate_zero, List.push_toArray, List.append_toArray, List.nil_append, List.cons_append]
  refine wpIn_wide.2 ?_
  have go : ∀ (w2 w3 : World), Below ((w.alloc (.cells #[.slice pa p.length cap] 24)).alloc (.cells #[.bool false] 4)).heap.size ((w.alloc (.cells #[.slice pa p.length cap] 24)).alloc (.cells #[.bool false] 4)) w2 → Below w2.heap.size w2 w3 →
      Blk w3 (w.heap.size + 1) 4 [.bool false] ∧ Below w.heap.size w w3 := fun w2 w3 h1 h2 => ⟨(hbr.belowAll h1).belowAll h2, (hw1.trans (h1.mono hw1.size)).trans (h2.mono (by have := hw1.size; have := h1.size; omega))⟩
  have GO := Lib.hid go
  have HE1 := Lib.hid hE1
  clear go hE1
  rcases hc with h | ⟨h, h2⟩
  all_goals
    rw [h] at hF
    clear h
    go_upto_region 2 with (go_at_call 7; refine hF.mono ?_; rintro e w2 ⟨rfl, hb2⟩)
    have hW := works_any w2 (HE1.out.belowAll hb2)
    go_wp2_with (go_at_call 8; refine hW.mono ?_; rintro e w3 ⟨rfl, hb3⟩; obtain ⟨hr3, hw3⟩ := GO.out _ _ hb2 hb3; have r0 := hr3.c 0 rfl; have r1 := hr3.fz 0)
    have hr4 := hr3.set 0 (.bool true)
    have hw4 := hw3.setCell (p := ⟨w.heap.size + 1, 0, none⟩) (by dsimp only; omega) (.bool true)
    exact ⟨.bool true, by simp [results, Tryz.results4, go_sem, hr4.c 0 rfl], rfl, hw4⟩
theorem fnilO (lb ob : Nat) (w : World) : (binOp .eql 42 (.func (.func 42) #[] #[.pointer (some ⟨lb, 0, none⟩), .pointer (some ⟨ob, 0, none⟩)]) Value.nilFunc).run Tryz.prog w = .ok (.bool false) w := by kernel_rfl
/-- The Ops that have come so far. -/
structure OpI (wF w6 : World) (pre : List (Nat × Int)) (W : World) : Prop where
  row : ∃ va vc, Blk W wF.heap.size 47 [.slice va pre.length vc] ∧ W.ownsRow (wF.heap.size + 1) 48 1 (.slice va pre.length vc) pre.length (intsV (pre.map fun x => x.2)) ∧ (∀ q, (Value.slice va pre.length vc).ownBlock = some q → q ≠ w6.heap.size ∧ q ≠ w6.heap.size + 1)
  bw : Below wF.heap.size wF W
theorem OpI.grown {wF w6 W W' : World} {pre : List (Nat × Int)} (h : OpI wF w6 pre W) (hg : W.grownBy W' (some (w6.heap.size + 1))) (hz : w6.heap.size = wF.heap.size + 1) : OpI wF w6 pre W' := by
  obtain ⟨va, vc, h1, h2, h3⟩ := h.row
  exact ⟨⟨va, vc, h1.fr (S := fun q => q = w6.heap.size + 1) (Fr.grown hg fun g hg => by injection hg with hg; exact .inl hg.symm) (by omega), row_keep h2 fun g hgo hgl => hg.block g hgl (fun e => by injection e with e; exact (h3 g hgo).2 e), h3⟩, h.bw.trans (belowN hg h.bw.size fun g hg => by injection hg with hg; omega)⟩
theorem OpI.start {wF w6 W : World} (hob : Blk w6 wF.heap.size 47 [.slice none 0 0]) (hb : Below wF.heap.size wF w6) (hz : w6.heap.size = wF.heap.size + 1) (hg : w6.grownBy W none) : OpI wF w6 [] W :=
  ⟨⟨none, 0, hob.fr (S := fun _ => False) (Fr.grown hg fun g hg => by cases hg) id, row_none _ _ _ _, fun q hq => by cases hq⟩, hb.trans (belowN hg (by omega) fun g hg => by cases hg)⟩
theorem OpI.push {wF w6 w7 w8 : World} {pre : List (Nat × Int)} {x : Nat × Int} {va : Option Addr} {vc g' cap' : Nat} (hz6 : w6.heap.size = wF.heap.size + 1) (hl7 : w6.heap.size + 1 < w7.heap.size) (hob7 : Blk w7 wF.heap.size 47 [.slice va pre.length vc])
    (hown7 : ∀ q, (Value.slice va pre.length vc).ownBlock = some q → q ≠ w6.heap.size ∧ q ≠ w6.heap.size + 1) (hrow7 : w7.ownsRow (wF.heap.size + 1) 48 1 (.slice va pre.length vc) pre.length (intsV (pre.map fun x => x.2))) (hbw7 : Below wF.heap.size wF w7)
    (hf8 : Fr (fun q => (Value.slice va pre.length vc).ownBlock = some q) w7 w8) (hr8 : w8.ownsRow (wF.heap.size + 1) 48 1 (.slice (some ⟨g', 0, none⟩) (pre.length + 1) cap') (pre.length + 1) (intsV (pre.map fun x => x.2) ++ [.int .i64 x.2])) (ha8 : (Value.slice va pre.length vc).ownBlock = some g' ∨ g' = w7.heap.size + 1) :
    ((w8.setCell ⟨wF.heap.size, 0, none⟩ (.slice (some ⟨g', 0, none⟩) (pre.length + 1) cap')).heap[w6.heap.size + 1]? = w7.heap[w6.heap.size + 1]? ∧ (w8.setCell ⟨wF.heap.size, 0, none⟩ (.slice (some ⟨g', 0, none⟩) (pre.length + 1) cap')).heap[w6.heap.size]? = w7.heap[w6.heap.size]?) ∧ OpI wF w6 (pre ++ [x]) (w8.setCell ⟨wF.heap.size, 0, none⟩ (.slice (some ⟨g', 0, none⟩) (pre.length + 1) cap')) := by
  have hne7 := row_ne_blk hrow7 hob7 (by decide)
  refine ⟨⟨(Below.heap_setCell _ _ _ _ (by dsimp only; omega)).trans (hf8.block _ hl7 fun e => (hown7 _ e).2 rfl), (Below.heap_setCell _ _ _ _ (by dsimp only; omega)).trans (hf8.block _ (by omega) fun e => (hown7 _ e).1 rfl)⟩, ⟨some ⟨g', 0, none⟩, cap', ?_, ?_, ?_⟩, (hbw7.trans (hf8.toBelow wF.heap.size (fun q hq e => by have := (hrow7.lt q e).1; omega) hbw7.size)).setCell (by dsimp only; omega) _⟩
  · have := (hob7.fr hf8 hne7).set 0 (.slice (some ⟨g', 0, none⟩) (pre.length + 1) cap')
    simpa using this
  · have h9 := row_keep hr8 fun q hq _ => Below.heap_setCell w8 ⟨wF.heap.size, 0, none⟩ (.slice (some ⟨g', 0, none⟩) (pre.length + 1) cap') q (by have := (hr8.lt q hq).1; dsimp only; omega)
    simpa [intsV] using h9
  · intro q hq
    have hq2 : g' = q := by injection hq
    subst hq2
    rcases ha8 with h | h
    · exact hown7 _ h
    · omega
theorem first_below {w0 w w' : World} (h : Below w0.heap.size w0 w) (h' : Below w.heap.size w w') : Below w0.heap.size w0 w' := h.trans (h'.mono h.size)
/-- What Order leaves. -/
def OrdE (l : List (Nat × Int)) (w : World) (e : Ending) (w' : World) : Prop := ∃ lb ob v u, e = .returned (.func (.func 42) #[] #[.pointer (some ⟨lb, 0, none⟩), .pointer (some ⟨ob, 0, none⟩)]) ∧ w.heap.size ≤ lb ∧ w.heap.size ≤ ob ∧ Below w.heap.size w w' ∧ IsO w' lb ob l v u
/-- The state of the loop over functions. -/
def HsI (p : List Fn) (bp br nb : Nat) (w11 : World) (a : Act) (w : World) : Prop :=
  a.tmps.size = 210 ∧ ∃ i : Nat, i ≤ p.length ∧ a.tmps.getD 2 undef = .pointer (some ⟨bp, 0, none⟩) ∧ a.tmps.getD 4 undef = .pointer (some ⟨br, 0, none⟩) ∧ a.tmps.getD 17 undef = .pointer (some ⟨nb, 0, none⟩) ∧ a.tmps.getD 22 undef = .int .i64 (i : Nat) ∧ Below w11.heap.size w11 w ∧ DefOk w w11.heap.size w.heap.size a.defers
theorem sizes_1500 {ts : List (Int × Fo)} {m : Nat} (hl : ts.length ≤ 64) (h : ∀ x ∈ ts, TrOk m x) : (txP 0 ts).length ≤ 4000000 := by
  have := (txP_len ts 0 h (by omega)).2.1
  omega
set_option maxRecDepth 100000 in
set_option maxHeartbeats 8000000 in
theorem sholds_in (p : List Fn) (pa : Option Addr) (cap : Nat) (s : ByteArray) (hfew : fewP p = true) (hs : s.size ≤ 1500) (w : World) (hP : PAt (· < w.heap.size) w p pa cap) (hE : EnvS w) :
    Calls Tryz.prog 4 #[prV p pa cap, .string s] w fun e w' => e = .returned (.bool true) ∧ Below w.heap.size w w' := by
  have hbp := (Blk.new w 24 [.slice pa p.length cap]).alloc (.cells #[.bool false] 4)
  have hbr := Blk.new (w.alloc (.cells #[.slice pa p.length cap] 24)) 4 [.bool false]
  rw [World.size_alloc] at hbr
  have hw1 : Below w.heap.size w ((w.alloc (.cells #[.slice pa p.length cap] 24)).alloc (.cells #[.bool false] 4)) := (below_new _ _).alloc (by simp) _
  have c0 := hbp.c 0 rfl
  have hF := few_any p pa cap _ (hP.later hw1)
  have hE1 := hE.belowAll hw1
  have hq : decide ((s.size : Int) > 1500) = false := by simp; omega
  rw [hfew] at hF
  clear hfew
  unfold prV at hF ⊢
  refine callsIn_wide.1 (callsIn_of_wp_marks (n := 4) Tryz.func4 rfl trivial ?_ rfl)
  simp only [Tryz.ntmps4, List.size_toArray, List.length_cons, List.length_nil, Nat.reduceAdd, Nat.reduceSub, Array.replicate_succ, Array.replicate_zero, List.push_toArray, List.append_toArray, List.nil_append, List.cons_append]
  refine wpIn_wide.2 ?_
  go_upto_region 3 with (go_at_call 7; refine hF.mono ?_; rintro e w2 ⟨rfl, hb2⟩)
  have hbp2 := hbp.belowAll hb2
  have hbr2 := hbr.belowAll hb2
  have hw2 := hw1.trans (hb2.mono hw1.size)
  have hE2 := hE1.belowAll hb2
  have hz2 : w.heap.size + 1 < w2.heap.size := hbr2.lt
  clear hbp hbr hw1 c0 hF hE1 hb2 hq
  have hN := num_any
  have hP1 := Parse_any s (by omega) w2 hE2.p (by have := hE2.size; show 3 < _; omega)
  obtain ⟨r, hr⟩ : ∃ r, srcP s.data.toList = r := ⟨_, rfl⟩
  rw [hr] at hP1
  have HR := Lib.hid hr
  obtain ⟨n0, hn0⟩ : ∃ n0 : Nat, r.fs.length = n0 := ⟨_, rfl⟩
  obtain ⟨ln0, hln0⟩ : ∃ n0 : Int, (r.ln : Int) = n0 := ⟨_, rfl⟩
  obtain ⟨no0, hno0⟩ : ∃ n0 : Int, (r.no : Int) = n0 := ⟨_, rfl⟩
  unfold PrsE prV at hP1
  rw [hn0, hln0, hno0] at hP1
  have HN0 := Lib.hid hn0
  have HNO := Lib.hid hno0
  clear hr hn0 hln0 hno0
  go_upto_if 48 with first
    | (go_at_call 15; refine hP1.mono ?_; rintro e w3 ⟨hb3, qa, qc, rfl, hA3⟩)
    | (go_at_call 13; refine (hN _ _).mono ?_; rintro e wn ⟨rfl, rfl⟩)
  go_cut [49] from 8 to 86 (fun _ wx => Below w2.heap.size w2 wx)
  case first =>
    cases r with
    | ok fs names =>
      obtain ⟨hok, ts, hts, hnr⟩ := srcP_own HR.out
      obtain rfl : n0 = fs.length := HN0.out.symm
      obtain rfl : no0 = 0 := HNO.out.symm
      simp only [RdR.fs] at hA3
      have hb4 := below_new w3 (.cells #[.slice qa fs.length qc] 24)
      have hqb := Blk.new w3 24 [.slice qa fs.length qc]
      have hA4 := hA3.all.later hb4
      have hb24 := hb3.trans (hb4.mono hb3.size)
      have hrn := pat_rn hA3
      have hE4 := hE2.belowAll hb24
      clear hA3 hb3 hb4
      generalize w3.alloc (.cells #[.slice qa fs.length qc] 24) = w4 at *
      generalize w3.heap.size = qb at *
      have hT : Calls Tryz.prog 9 #[.agg #[.slice qa fs.length qc]] w4 (TxtE (txP 0 ts) 0 w4) := Text_yes fs hok hrn ts hts qa qc w4 hA4 hE4
      unfold TxtE at hT
      obtain ⟨S, hS⟩ : ∃ S : ByteArray, (⟨(txP 0 ts).toArray⟩ : ByteArray) = S := ⟨_, rfl⟩
      have hSd : S.data.toList = txP 0 ts := by rw [← hS]
      rw [hS] at hT
      have hTO := okP_trOk hok hrn hts
      have hsz : S.size ≤ 4000000 := by
        have h1 := sizes_1500 (m := fs.length) (by
          have hk := hok
          unfold okP at hk
          simp only [Bool.and_eq_true, decide_eq_true_eq] at hk
          rw [hts.len]
          exact hk.1.1.1.2) hTO
        rw [← hSd] at h1
        exact h1
      have HSP : Hid (srcP S.data.toList = .ok fs (namesT 102 ts.length)) := by
        show _ = _
        rw [hSd, srcP_txP hok hrn hts, hnr]
      have HOK := Lib.hid hok
      have HTS := Lib.hid hts
      have HNR := Lib.hid hnr
      have hqc := hqb.c 0 rfl
      clear hS hSd hTO hok hts hnr hrn
      go_upto_region 6 with (go_at_call 9; refine hT.mono ?_; rintro e w5 ⟨rfl, hb5⟩)
      have hE5 := hE4.belowAll hb5
      have hP5 := Parse_any S hsz w5 hE5.p (by have := hE5.size; show 3 < _; omega)
      rw [HSP.out] at hP5
      unfold PrsE prV at hP5
      simp only [RdR.fs, RdR.ln, RdR.no] at hP5
      have hA5 := hA4.later hb5
      have hqb5 := hqb.belowAll hb5
      clear hT hqc hA4 hqb
      go_upto_region 7 with (go_at_call 15; refine hP5.mono ?_; rintro e w6 ⟨hb6, ra, rc, rfl, hR6⟩)
      have hb7 := below_new w6 (.cells #[.slice ra fs.length rc] 24)
      have hrb := Blk.new w6 24 [.slice ra fs.length rc]
      have hb57 := hb6.trans (hb7.mono hb6.size)
      have hA7 := hA5.later hb57
      have hR7 := hR6.all.later hb7
      have hqb7 := hqb5.belowAll hb57
      have hb27 := hb24.trans ((hb5.trans (hb57.mono hb5.size)).mono hb24.size)
      clear hP5 hR6 hb6 hb7 hA5 hqb5 hb57 hb5 hE5 hE4 hb24
      generalize w6.alloc (.cells #[.slice ra fs.length rc] 24) = w7 at *
      generalize w6.heap.size = rb at *
      have hNm : Calls Tryz.prog 11 #[.agg #[.slice qa fs.length qc]] w7 (NmE (nrm ts) 0 w7) := Normal_yes fs HOK.out ts HTS.out qa qc w7 hA7
      rw [HNR.out] at hNm
      unfold NmE at hNm
      have hqc := hqb7.c 0 rfl
      go_upto_region 8 with (go_at_call 11; refine hNm.mono ?_; rintro e w8 ⟨na, nc, rfl, hb8, hN8⟩)
      have hb9 := below_new w8 (.cells #[.slice na fs.length nc] 24)
      have hnb := Blk.new w8 24 [.slice na fs.length nc]
      have hb79 := hb8.trans (hb9.mono hb8.size)
      have hA9 := hA7.later hb79
      have hR9 := hR7.later hb79
      have hN9 := hN8.all.later hb9
      have hqb9 := hqb7.belowAll hb79
      have hrb9 := hrb.belowAll hb79
      have hb29 := hb27.trans (hb79.mono hb27.size)
      clear hNm hqc hb8 hb9 hA7 hR7 hN8 hqb7 hrb hb79 hb27
      generalize w8.alloc (.cells #[.slice na fs.length nc] 24) = w9 at *
      generalize w8.heap.size = nb at *
      obtain ⟨hl1, hl2⟩ := okP_small HOK.out
      have hSa : Calls Tryz.prog 16 #[.agg #[.slice qa fs.length qc], .agg #[.slice ra fs.length rc]] w9 fun e w' => e = .returned (.bool true) ∧ Below w9.heap.size w9 w' := psame_self fs hl1 hl2 qa ra qc rc w9 hA9 hR9
      have hSb : ∀ wx, Below w9.heap.size w9 wx → Calls Tryz.prog 16 #[.agg #[.slice qa fs.length qc], .agg #[.slice na fs.length nc]] wx fun e w' => e = .returned (.bool true) ∧ Below wx.heap.size wx w' := fun wx hx => psame_self fs hl1 hl2 qa na qc nc wx (hA9.later hx) (hN9.later hx)
      have HSB := Lib.hid hSb
      have q0 := hqb9.c 0 rfl
      have r0 := hrb9.c 0 rfl
      clear hSb hl1 hl2 HSP HOK HTS HNR
      go_wp2_with first
        | (go_at_call 13; refine (hN _ _).mono ?_; rintro e wn ⟨rfl, rfl⟩)
        | (go_at_call 16; ((with_reducible refine hSa.mono ?_); rintro e w10 ⟨rfl, hb10⟩; have q1 := (hqb9.belowAll hb10).c 0 rfl; have n1 := (hnb.belowAll hb10).c 0 rfl; have hSc := HSB.out _ hb10))
        | (go_at_call 16; refine hSc.mono ?_; rintro e w11 ⟨rfl, hb11⟩)
      go_meet
      exact hb29.trans ((hb10.trans (hb11.mono hb10.size)).mono hb29.size)
    | _ =>
      have hnn : (no0 == 0) = false := by rw [← HNO.out]; rfl
      go_wp2_with fail
      go_meet
      exact hb3.trans ((below_new _ _).mono hb3.size)
  case rest =>
    have hbpc := hbp2.belowAll hcut
    have hbrc := hbr2.belowAll hcut
    have hwc := hw2.trans (hcut.mono hw2.size)
    have hEc := hE2.belowAll hcut
    have hPc := hP.later hwc
    have hzc : w.heap.size + 1 < wc.heap.size := hbrc.lt
    clear hbp2 hbr2 hw2 hE2 hz2 hcut hb3 hA3 hP1 HN0 HNO HR
    have c0 := hbpc.c 0 rfl
    cases hok : okP p with
    | false =>
      have hT : Calls Tryz.prog 9 #[.agg #[.slice pa p.length cap]] wc (TxtE [] 70 wc) := Text_no p hok pa cap wc hPc
      unfold TxtE at hT
      go_upto_region 11 with (go_at_call 9; refine hT.mono ?_; rintro e w5 ⟨rfl, hb5⟩)
      have hP5 := hPc.later hb5
      have hNm : Calls Tryz.prog 11 #[.agg #[.slice pa p.length cap]] w5 (NmE [] 70 w5) := Normal_no p hok pa cap w5 hP5
      unfold NmE at hNm
      clear c0
      have c5 := (hbpc.belowAll hb5).c 0 rfl
      go_upto_region 12 with (go_at_call 11; refine hNm.mono ?_; rintro e w6 ⟨na, nc, rfl, hb6, -⟩)
      have hb7 := below_new w6 (.cells #[.slice na ([] : List Fn).length nc] 24)
      have hb57 := hb6.trans (hb7.mono hb6.size)
      have hP7 := hP5.later hb57
      have hbp7 := (hbpc.belowAll hb5).belowAll hb57
      have hbc7 := hb5.trans (hb57.mono hb5.size)
      clear c5 hb6 hb7
      generalize w6.alloc (.cells #[.slice na ([] : List Fn).length nc] 24) = w7 at *
      have c7 := hbp7.c 0 rfl
      have y0 := fun d os => cell_regrown c7 d os
      have cN : ∀ (v : Int) (d : Nat) (os : Array Obj), Calls Tryz.prog 13 #[.int .i64 v] (grow (redrawn w7 d) os) fun e w'' => e = .returned (.int .i64 v) ∧ ∃ p : Regrown, w'' = grow (redrawn w7 p.d) p.os := fun v d os => Calls.regrown_of ((num_any v _).mono fun e w' ⟨h, hw⟩ => ⟨h, by rw [← hw]; exact Below.refl _ _⟩)
      have cC : ∀ (d : Nat) (os : Array Obj), Calls Tryz.prog 17 #[.agg #[.slice pa p.length cap]] (grow (redrawn w7 d) os) fun e w'' => e = .returned (.int .i64 70) ∧ ∃ p : Regrown, w'' = grow (redrawn w7 p.d) p.os := fun d os => Calls.regrown_of ((pcheck_any p pa cap _ (hP7.later (below_regrown w7 d os))).mono fun e w' ⟨h, hb⟩ => ⟨by rw [h, hok]; rfl, hb⟩)
      refine wp_region_quiet_below (by kernel_rfl) (by kernel_rfl) ?_
      repeat (go_big_quiet_step (first | exact cN _ _ _ | exact cC _ _))
      refine wpQuiet_nil ?_
      intro _ hw'
      obtain ⟨⟨dq, osq⟩, hw''⟩ := hw'
      subst hw''
      have hb8 := below_regrown w7 dq osq
      have hbc8 := hbc7.trans (hb8.mono hbc7.size)
      have hbp8 := hbp7.belowAll hb8
      clear y0 cN cC c7
      generalize grow (redrawn w7 dq) osq = w8 at *
      have hE8 := hEc.belowAll hbc8
      have hr8 := hbrc.belowAll hbc8
      have hw8 := hwc.trans (hbc8.mono hwc.size)
      go_wp2_with first
        | (go_at_call 13; refine (hN _ _).mono ?_; rintro e wn ⟨rfl, rfl⟩)
        | (go_at_call 8; refine (works_any _ hE8).mono ?_; rintro e w9 ⟨rfl, hb9⟩; have hr9 := hr8.belowAll hb9; have r0 := hr9.c 0 rfl; have r1 := hr9.fz 0)
      have hr10 := hr9.set 0 (.bool true)
      have hw10 := (hw8.trans (hb9.mono hw8.size)).setCell (p := ⟨w.heap.size + 1, 0, none⟩) (by dsimp only; omega) (.bool true)
      exact ⟨.bool true, by simp [results, Tryz.results4, go_sem, hr10.c 0 rfl], rfl, hw10⟩
    | true =>
      obtain ⟨ts, hts⟩ := okP_trs hok
      have hrn := pat_rn hPc
      have hTO := okP_trOk hok hrn hts
      have hT : Calls Tryz.prog 9 #[.agg #[.slice pa p.length cap]] wc (TxtE (txP 0 ts) 0 wc) := Text_yes p hok hrn ts hts pa cap wc hPc hEc
      obtain ⟨S, hS⟩ : ∃ S : ByteArray, (⟨(txP 0 ts).toArray⟩ : ByteArray) = S := ⟨_, rfl⟩
      have hSd : S.data.toList = txP 0 ts := by rw [← hS]
      unfold TxtE at hT
      rw [hS] at hT
      have h64 : p.length ≤ 64 := by
        have hk := hok
        unfold okP at hk
        simp only [Bool.and_eq_true, decide_eq_true_eq] at hk
        exact hk.1.1.1.2
      have hsz : S.size ≤ 4000000 := by
        have h1 := sizes_1500 (m := p.length) (by rw [hts.len]; exact h64) hTO
        rw [← hSd] at h1
        exact h1
      have HSP : Hid (srcP S.data.toList = .ok (nrm ts) (namesT 102 ts.length)) := by
        show _ = _
        rw [hSd, srcP_txP hok hrn hts]
      have HON := Lib.hid (okP_nrm hok hrn hts)
      have HOK := Lib.hid hok
      have HTS := Lib.hid hts
      have HTO := Lib.hid hTO
      have hnl : (nrm ts).length = p.length := by unfold nrm; rw [List.length_map, hts.len]
      have HNL := Lib.hid hnl
      obtain ⟨ns, hns⟩ : ∃ ns, nrm ts = ns := ⟨_, rfl⟩
      have hNmC : ∀ wx, PAt (· < wx.heap.size) wx p pa cap → Calls Tryz.prog 11 #[.agg #[.slice pa p.length cap]] wx (NmE ns 0 wx) := fun wx hx => by
        rw [← hns]
        exact Normal_yes p HOK.out ts HTS.out pa cap wx hx
      have HNC := Lib.hid hNmC
      rw [hns] at HSP HON HNL
      have HNS := Lib.hid hns
      clear hS hSd hTO hok hts hrn hnl hns hNmC
      go_upto_region 11 with (go_at_call 9; refine hT.mono ?_; rintro e w5 ⟨rfl, hb5⟩)
      have hP5 := hPc.later hb5
      have hNm := HNC.out w5 hP5
      unfold NmE at hNm
      clear c0
      have c5 := (hbpc.belowAll hb5).c 0 rfl
      go_upto_region 12 with (go_at_call 11; refine hNm.mono ?_; rintro e w6 ⟨na, nc, rfl, hb6, hn6⟩)
      have hb7 := below_new w6 (.cells #[.slice na ns.length nc] 24)
      have hnb7 := Blk.new w6 24 [.slice na ns.length nc]
      have hn7 := hn6.all.later hb7
      have hb57 := hb6.trans (hb7.mono hb6.size)
      have hP7 := hP5.later hb57
      have hbp7 := (hbpc.belowAll hb5).belowAll hb57
      have hbc7 := hb5.trans (hb57.mono hb5.size)
      have hzc7 := hbc7.size
      have hz56 := hb5.size
      have hz66 := hb6.size
      clear c5 hb6 hb7 hT hNm hn6
      generalize w6.alloc (.cells #[.slice na ns.length nc] 24) = w7 at *
      generalize w6.heap.size = nb at *
      have c7 := hbp7.c 0 rfl
      have y0 := fun d os => cell_regrown c7 d os
      have cN : ∀ (v : Int) (d : Nat) (os : Array Obj), Calls Tryz.prog 13 #[.int .i64 v] (grow (redrawn w7 d) os) fun e w'' => e = .returned (.int .i64 v) ∧ ∃ p : Regrown, w'' = grow (redrawn w7 p.d) p.os := fun v d os => Calls.regrown_of ((num_any v _).mono fun e w' ⟨h, hw⟩ => ⟨h, by rw [← hw]; exact Below.refl _ _⟩)
      have cC : ∀ (d : Nat) (os : Array Obj), Calls Tryz.prog 17 #[.agg #[.slice pa p.length cap]] (grow (redrawn w7 d) os) fun e w'' => e = .returned (.int .i64 0) ∧ ∃ p : Regrown, w'' = grow (redrawn w7 p.d) p.os := fun d os => Calls.regrown_of ((pcheck_any p pa cap _ (hP7.later (below_regrown w7 d os))).mono fun e w' ⟨h, hb⟩ => ⟨by rw [h, HOK.out]; rfl, hb⟩)
      refine wp_region_quiet_below (by kernel_rfl) (by kernel_rfl) ?_
      repeat (go_big_quiet_step (first | exact cN _ _ _ | exact cC _ _))
      refine wpQuiet_nil ?_
      intro _ hw'
      obtain ⟨⟨dq, osq⟩, hw''⟩ := hw'
      subst hw''
      have hb8 := below_regrown w7 dq osq
      have hbc8 := hbc7.trans (hb8.mono hbc7.size)
      have hbp8 := hbp7.belowAll hb8
      clear y0 cN cC c7
      generalize grow (redrawn w7 dq) osq = w8 at *
      have hn8 := hn7.later hb8
      have hnb8 := hnb7.belowAll hb8
      have hP8 := hP7.later hb8
      have hz8 := hb8.size
      clear hb8 hn7 hnb7 hP7 hbp7 hbc7 hP5 hb5 hb57
      have hE8 := hEc.belowAll hbc8
      have hP8s := Parse_any S hsz w8 hE8.p (by have := hE8.size; show 3 < _; omega)
      rw [HSP.out] at hP8s
      unfold PrsE prV at hP8s
      simp only [RdR.fs, RdR.ln, RdR.no] at hP8s
      go_upto_region 17 with first
        | (go_at_call 13; refine (hN _ _).mono ?_; rintro e wn ⟨rfl, rfl⟩)
        | (go_at_call 15; refine hP8s.mono ?_; rintro e w9 ⟨hb9, qa, qc, rfl, hq9⟩)
      have hb10 := below_new w9 (.cells #[.slice qa ns.length qc] 24)
      have hqb10 := Blk.new w9 24 [.slice qa ns.length qc]
      have hq10 := hq9.all.later hb10
      have hb810 := hb9.trans (hb10.mono hb9.size)
      have hn10 := hn8.later hb810
      have hP10 := hP8.later hb810
      have hnb10 := hnb8.belowAll hb810
      have hbp10 := hbp8.belowAll hb810
      have hbc10 := hbc8.trans (hb810.mono hbc8.size)
      clear hb9 hb10 hq9 hP8s hb810 hn8 hP8 hnb8 hbp8 hbc8
      generalize w9.alloc (.cells #[.slice qa ns.length qc] 24) = w10 at *
      generalize w9.heap.size = qb at *
      obtain ⟨hl1, hl2⟩ := okP_small HON.out
      have hSa : Calls Tryz.prog 16 #[.agg #[.slice qa ns.length qc], .agg #[.slice na ns.length nc]] w10 fun e w' => e = .returned (.bool true) ∧ Below w10.heap.size w10 w' := psame_self ns hl1 hl2 qa na qc nc w10 hq10 hn10
      have q0 := hqb10.c 0 rfl
      have n0 := hnb10.c 0 rfl
      rw [HNL.out] at n0 q0 hSa
      clear hl1 hl2
      go_upto_region 19 with first
        | (go_at_call 13; refine (hN _ _).mono ?_; rintro e wn ⟨rfl, rfl⟩)
        | (go_at_call 16; refine hSa.mono ?_; rintro e w11 ⟨rfl, hb11⟩; have n1 := (hnb10.belowAll hb11).c 0 rfl; rw [HNL.out] at n1; have p1 := (hbp10.belowAll hb11).c 0 rfl)
      have hn11 := hn10.later hb11
      have hP11 := hP10.later hb11
      have hnb11 := hnb10.belowAll hb11
      have hbp11 := hbp10.belowAll hb11
      have hbc11 := hbc10.trans (hb11.mono hbc10.size)
      have hbr11 := hbrc.belowAll hbc11
      have hw11 := hwc.trans (hbc11.mono hwc.size)
      have hE11 := hEc.belowAll hbc11
      rw [HNL.out] at hnb11
      clear hn10 hP10 hnb10 hbp10 hbc10 hb11 hqb10 hq10 hSa q0 n0 n1 p1 hE8 hbc11 hbrc hwc hEc hPc hbpc HSP HNC
      go_wp2_with fail
      have hOrd : ∀ (i : Nat) (f : Fn), p[i]? = some f → ∃ (t : Fo) (g : Fn), ns[i]? = some g ∧ g.ps = f.ps ∧ ∀ (na1 na2 : Option Addr) (c1 c2 : Nat) (wx : World), (FnAt (· < wx.heap.size) wx f na1 c1 → Calls Tryz.prog 18 #[fnV f na1 c1] wx (OrdE (postF t) wx)) ∧ (FnAt (· < wx.heap.size) wx g na2 c2 → Calls Tryz.prog 18 #[fnV g na2 c2] wx (OrdE (postF (rel 0 t)) wx)) ∧ (postF t).length ≤ 200 ∧ (postF (rel 0 t)).length ≤ 200 := by
        intro i f hf
        obtain ⟨t, ht, hrd⟩ := HTS.out.at_ i f hf
        have hTk := HTO.out _ (List.mem_of_getElem? ht)
        have hone := hTk.one
        have hmost := hTk.most
        dsimp only at hone hmost
        have hgi : ns[i]? = some ⟨f.ps, flat 0 t⟩ := by
          rw [← HNS.out, nrm_at, ht]
          rfl
        have hall : ∀ {l : List Fn}, okP l = true → ∀ x ∈ l, okF x = true := fun {l} h x hx => by
          unfold okP at h
          simp only [Bool.and_eq_true, List.all_eq_true] at h
          exact h.1.1.2 x hx
        have h1 := hall HOK.out f (List.mem_of_getElem? hf)
        have h2 := hall HON.out _ (List.mem_of_getElem? hgi)
        exact ⟨t, _, hgi, rfl, fun na1 na2 c1 c2 wx => ⟨fun hx => Order_any f h1 t hrd (by omega) na1 c1 wx hx, fun hx => Order_any _ h2 (rel 0 t) (flat_own hone) (by rw [rel_size]; omega) na2 c2 wx hx, by rw [postF_len]; exact hmost, by rw [postF_len, rel_size]; exact hmost⟩⟩
      have HORD := Lib.hid hOrd
      clear hOrd HTS HTO HON HNS HOK
      refine wp_loop (HsI p w.heap.size (w.heap.size + 1) nb w11) (fun a _ => p.length - (intOf (a.tmps.getD 22 undef)).toNat) ?_ ?_
      · exact ⟨rfl, 0, Nat.zero_le _, rfl, rfl, rfl, rfl, Below.refl _ _, .nil _⟩
      · rintro ⟨T, ds⟩ wr ⟨hsz, i, hi, s2, s4, s17, s22, hbr, hdf⟩
        dsimp only at hsz s2 s4 s17 s22 hdf ⊢
        obtain ⟨fr, hfr, rfl⟩ := frame210 T hsz
        rw [← hfr] at s2 s4 s17 s22
        have HS22 := Lib.hid ((hfr 22).symm.trans s22)
        rw [s2, s4, s17, s22]
        clear hsz hfr s2 s4 s17 s22
        have hbpr := hbp11.belowAll hbr
        have hnbr := hnb11.belowAll hbr
        have hbrr := hbr11.belowAll hbr
        have hzr := hbr.size
        have hpl : p.length ≤ 64 := h64
        have c0 := hbpr.c 0 rfl
        have n0 := hnbr.c 0 rfl
        by_cases hlt : i < p.length
        case' neg =>
          have hd : decide (i < p.length) = false := decide_eq_false hlt
          have hEr := hE11.belowAll hbr
          go_wp2_with (go_at_call 8; refine (works_any _ hEr).mono ?_; rintro e w12 ⟨rfl, hb12⟩; have hr12 := hbrr.belowAll hb12; have r0 := hr12.c 0 rfl; have r1 := hr12.fz 0)
          have hr13 := hr12.set 0 (.bool true)
          have hzz := hw11.size
          have hw13 := (hw11.trans (hbr.mono hw11.size)).trans (hb12.mono (show w.heap.size ≤ wr.heap.size by omega))
          have hw14 := hw13.setCell (p := ⟨w.heap.size + 1, 0, none⟩) (by dsimp only; omega) (.bool true)
          have hbl11 := hbp11.lt
          have hbl12 := hbr11.lt
          refine leaves_defs (B := w11.heap.size) (m := wr.heap.size) (hdf.keep fun q hq1 hq2 hq3 => (Below.heap_setCell _ _ _ _ (by dsimp only; omega)).trans ((hb12.block q hq2).trans hq3)) fun w15 hf15 => ?_
          have hr15 := hr13.fr hf15 (by omega)
          exact ⟨.bool true, by simp [results, Tryz.results4, go_sem, hr15.c 0 rfl], rfl, hw14.trans (hf15.toBelow w.heap.size (fun q hq e => by omega) hw14.size)⟩
        case' pos =>
          have hd : decide (i < p.length) = true := decide_eq_true hlt
          obtain ⟨f, hf⟩ : ∃ f, p[i]? = some f := ⟨p[i], List.getElem?_eq_getElem hlt⟩
          obtain ⟨t, g, hg, hgp, hAll⟩ := HORD.out i f hf
          obtain ⟨g1, o1, na1, c1, rfl, hg1, p0, p1, hl1, hm1, hI1, hr1⟩ := hP11.fs.cells hbr hf
          obtain ⟨g2, o2, na2, c2, rfl, hg2, q0, q1, hl2, hm2, hI2, hr2⟩ := hn11.fs.cells hbr hg
          have A1 : FnAt (· < wr.heap.size) wr f na1 c1 := ⟨hI1.more fun j hj => Nat.lt_of_lt_of_le hj hbr.size, hl1, hm1, hr1⟩
          have A2 : FnAt (· < wr.heap.size) wr g na2 c2 := ⟨hI2.more fun j hj => Nat.lt_of_lt_of_le hj hbr.size, hl2, hm2, hr2⟩
          have hOa : ∀ wx, Below wr.heap.size wr wx → Calls Tryz.prog 18 #[.agg #[.int .i64 f.ps, .slice na1 f.ns.length c1]] wx (OrdE (postF t) wx) := fun wx hx => (hAll na1 na2 c1 c2 wx).1 (A1.later hx)
          rw [hgp] at q0
          have hOb : ∀ wx, Below wr.heap.size wr wx → Calls Tryz.prog 18 #[.agg #[.int .i64 f.ps, .slice na2 g.ns.length c2]] wx (OrdE (postF (rel 0 t)) wx) := fun wx hx => by rw [← hgp]; exact (hAll na1 na2 c1 c2 wx).2.1 (A2.later hx)
          obtain ⟨hL1, hL2⟩ := (hAll na1 na2 c1 c2 wr).2.2
          have hlps := postF_rel t 0
          obtain ⟨L1, hL1e⟩ : ∃ L, postF t = L := ⟨_, rfl⟩
          obtain ⟨L2, hL2e⟩ : ∃ L, postF (rel 0 t) = L := ⟨_, rfl⟩
          rw [hL1e] at hOa hL1 hlps
          rw [hL2e] at hOb hL2 hlps
          have HLP := Lib.hid hlps
          have HOA := Lib.hid hOa
          have HOB := Lib.hid hOb
          have hsa : Below wr.heap.size wr wr.drew := ⟨rfl, rfl, rfl, Nat.le_refl _, fun _ _ => rfl⟩
          have HK : Hid (∀ wx, Below wr.heap.size wr wx → Below wr.heap.size wr wx ∧ wx.cell? ⟨w.heap.size, 0, none⟩ = some (.slice (some ⟨g1, o1, none⟩) p.length cap) ∧ wx.cell? ⟨g1, o1 + i * 2, none⟩ = some (.int .i64 f.ps) ∧ wx.cell? ⟨g1, o1 + i * 2 + 1, none⟩ = some (.slice na1 f.ns.length c1) ∧
              wx.cell? ⟨nb, 0, none⟩ = some (.slice (some ⟨g2, o2, none⟩) p.length nc) ∧ wx.cell? ⟨g2, o2 + i * 2, none⟩ = some (.int .i64 f.ps) ∧ wx.cell? ⟨g2, o2 + i * 2 + 1, none⟩ = some (.slice na2 g.ns.length c2)) := fun wx hx =>
            ⟨hx, (hx.cell (p := ⟨w.heap.size, 0, none⟩) hbpr.lt).trans c0, (hx.cell (p := ⟨g1, o1 + i * 2, none⟩) (by dsimp only; omega)).trans p0, (hx.cell (p := ⟨g1, o1 + i * 2 + 1, none⟩) (by dsimp only; omega)).trans p1,
              (hx.cell (p := ⟨nb, 0, none⟩) hnbr.lt).trans n0, (hx.cell (p := ⟨g2, o2 + i * 2, none⟩) (by dsimp only; omega)).trans q0, (hx.cell (p := ⟨g2, o2 + i * 2 + 1, none⟩) (by dsimp only; omega)).trans q1⟩
          have h0b := Below.refl wr.heap.size wr
          clear hOa hOb hAll hlps hf hg hgp hI1 hI2 A1 A2 hL1e hL2e
          go_upto_region 22 with fail
          clear p0 p1 q0 q1 c0 n0
          go_region_held3 (fun wx => Below wr.heap.size wr wx ∧ wx.cell? ⟨w.heap.size, 0, none⟩ = some (.slice (some ⟨g1, o1, none⟩) p.length cap) ∧ wx.cell? ⟨g1, o1 + i * 2, none⟩ = some (.int .i64 f.ps) ∧ wx.cell? ⟨g1, o1 + i * 2 + 1, none⟩ = some (.slice na1 f.ns.length c1) ∧
              wx.cell? ⟨nb, 0, none⟩ = some (.slice (some ⟨g2, o2, none⟩) p.length nc) ∧ wx.cell? ⟨g2, o2 + i * 2, none⟩ = some (.int .i64 f.ps) ∧ wx.cell? ⟨g2, o2 + i * 2 + 1, none⟩ = some (.slice na2 g.ns.length c2))
            (first | exact HK.out _ h0b | exact HK.out _ hsa | exact HK.out _ hbA | exact HK.out _ hbB | assumption)
            (first
              | (go_at_call 18; ((first | (with_reducible refine (HOA.out _ hsa).mono ?_) | (with_reducible refine (HOA.out _ hbB).mono ?_)); rintro e wA ⟨lb1, ob1, v1, u1, rfl, hlb1, hob1, hbA0, hO1⟩; have hbA := (first_below (by assumption) hbA0); dsimp only))
              | (go_at_call 18; ((first | (with_reducible refine (HOB.out _ hsa).mono ?_) | (with_reducible refine (HOB.out _ hbA).mono ?_)); rintro e wB ⟨lb2, ob2, v2, u2, rfl, hlb2, hob2, hbB0, hO2⟩; have hbB := (first_below (by assumption) hbB0); dsimp only)))
          all_goals
            first
              | (have hO1 := hO1.belowAll hbB0; obtain ⟨wF, rfl⟩ : ∃ x, x = wB := ⟨_, rfl⟩; have hbF := hbB)
              | (have hO2 := hO2.belowAll hbA0; obtain ⟨wF, rfl⟩ : ∃ x, x = wA := ⟨_, rfl⟩; have hbF := hbA)
            have hbF : Below wr.heap.size wr wF := hbF
            have hf1 := fnilO lb1 ob1
            have hf2 := fnilO lb2 ob2
            go_upto_region 26 with fail
            clear hf1 hf2
            have hb6 := below_new wF (.cells #[.slice none 0 0] 47)
            have hob := Blk.new wF 47 [.slice none 0 0]
            have hz6 : (wF.alloc (.cells #[.slice none 0 0] 47)).heap.size = wF.heap.size + 1 := by simp
            go_wp2_with fail
            have HI1 := (order_iter 3 L1 (by omega) lb1 ob1 v1 u1 wF hO1).later hb6
            have HI2 := Lib.hid (order_iter 3 L2 (by omega) lb2 ob2 v2 u2 wF hO2)
            generalize wF.alloc (.cells #[.slice none 0 0] 47) = w6 at *
            refine wpIn_wide.1 (wp_range (n := 4) (gf := 42) (lb := #[.pointer (some ⟨lb1, 0, none⟩), .pointer (some ⟨ob1, 0, none⟩)]) rfl (enters_of Tryz.func42 (by kernel_rfl) rfl) HI1 (fun _ => rfl)
              (OpI wF w6) (fun _ _ _ => False) ?_ ?_ ?_ ?_ ?_ ?_ ?_)
            · exact fun pre W W' h hg => h.grown hg hz6
            · exact fun _ _ _ _ h _ => h.elim
            · exact fun pre W h => h.bw
            · exact fun W hg => OpI.start hob hb6 hz6 hg
            · rintro pre x W hI hG hWl
              rw [show encO x = #[.int .i64 (x.1 : Nat), .int .i64 x.2] from rfl]
              clear HI1
              gi_wp2
              refine ⟨World.grownBy.refl _ _, ?_⟩
              intro w7 hg7 hl7 hr7
              have hI7 := hI.grown hg7 hz6
              obtain ⟨⟨va, vc, hob7, hrow7, hown7⟩, hbw7⟩ := hI7
              have k0 := hob7.c 0 rfl
              have k1 := hob7.fz 0
              have hpl7 : pre.length ≤ 1000 := by
                obtain ⟨r, hr⟩ := hG
                have := congrArg List.length hr
                rw [List.length_append] at this
                omega
              have holt := hob7.lt
              have hne7 := row_ne_blk hrow7 hob7 (by decide)
              have hnw := heap_alloc_new w7 (.cells #[.int .i64 x.2] 48)
              have hzwl := hWl
              have hzw7 := hg7.size
              clear hr7 hg7 hI hWl hG
              gi_wp2_with (gi_at_builtin; refine wpListIn_row _ rfl (.tmp 169) (.tmp 171) 47 48 _ 1 8 Tryz.underlying47 op_info rfl (by decide) (by decide) rfl (wF.heap.size + 1) (.slice va pre.length vc) pre.length (intsV (pre.map fun x => x.2)) rfl (hrow7.alloc _) w7.heap.size [.int .i64 x.2] rfl hnw rfl (by intro u hu; simp at hu; subst hu; rfl) (by omega) (by simp only [World.size_alloc]; omega) ?_; intro g' cap' w8 hr8 hg8 ha8; have hf8 : Fr (fun q => (Value.slice va pre.length vc).ownBlock = some q) w7 w8 := (Fr.alloc _).same (Fr.grown hg8 fun g hg => .inl hg); have ho8 := hob7.fr hf8 hne7; have z0 := ho8.fz 0; have z1 := ho8.c 0 rfl)
              rw [World.size_alloc] at ha8
              exact OpI.push hz6 (by omega) hob7 hown7 hrow7 hbw7 hf8 hr8 ha8
            · rintro xs W hS hI hD
              obtain rfl : L1 = xs := hS.symm
              obtain ⟨⟨va, vc, hobW, hrowW, hownW⟩, hbwW⟩ := hI
              have hO2W := hO2.belowAll hbwW
              have hbW := hbF.trans (hbwW.mono hbF.size)
              have hdW : DefOk W w11.heap.size W.heap.size ({ target := .collected w6.heap.size, args := #[] } :: ds) := .cons (by have := hbF.size; omega) (lt_of_heap hD) hD ((hdf.keep fun q hq1 hq2 hq3 => (hbW.block q hq2).trans hq3).more (by have := hbF.size; omega))
              clear HI1
              go_upto_region 30 with fail
              have hb8 := below_new W (.cells #[.int .i64 0] 3)
              have hkb := Blk.new W 3 [.int .i64 0]
              have hz8 : W.heap.size < (W.alloc (.cells #[.int .i64 0] 3)).heap.size := by simp
              have hob8 := hobW.belowAll hb8
              have hrow8 := row_keep hrowW fun q _ hq => hb8.block q hq
              have hlow8 : ∀ q, (Value.slice va L1.length vc).ownBlock = some q → q < W.heap.size := fun q hq => (hrowW.lt q hq).2
              have holW := hobW.lt
              have hbF8 := hbwW.trans (hb8.mono hbwW.size)
              have hbr8 := hbF.trans (hbF8.mono hbF.size)
              have hd8 := hdW.keep (w' := W.alloc (.cells #[.int .i64 0] 3)) fun q hq1 hq2 hq3 => (hb8.block q hq2).trans hq3
              have HI2b := HI2.out.later hbF8
              clear hobW hrowW hownW hO2W hbW hdW hb8 hD
              go_wp2_with fail
              generalize W.alloc (.cells #[.int .i64 0] 3) = w8 at *
              refine wpIn_wide.1 (wp_range (n := 4) (gf := 42) (lb := #[.pointer (some ⟨lb2, 0, none⟩), .pointer (some ⟨ob2, 0, none⟩)]) rfl (enters_of Tryz.func42 (by kernel_rfl) rfl) HI2b (fun _ => rfl)
                (fun pre W' => Fr (fun g => g = W.heap.size ∨ w8.heap.size ≤ g) w8 W' ∧ Blk W' W.heap.size 3 [.int .i64 (pre.length : Nat)]) (fun _ _ _ => False) ?_ ?_ ?_ ?_ ?_ ?_ ?_)
              · rintro pre W1 W2 ⟨h1, h2⟩ hg
                exact ⟨h1.same (Fr.grown hg fun g hg => by injection hg with hg; exact .inl (.inr (by omega))), h2.fr (S := fun k => k = w8.heap.size + 1) (Fr.grown hg fun g hg => by injection hg with hg; exact .inl hg.symm) (by omega)⟩
              · exact fun _ _ _ _ h _ => h.elim
              · rintro pre W1 ⟨h1, h2⟩
                exact hbF8.trans (h1.toBelow wF.heap.size (fun q hq e => by have := hbF8.size; omega) hbF8.size)
              · intro W1 hg
                exact ⟨Fr.grown hg (fun g hg => by cases hg), hkb.fr (S := fun _ => False) (Fr.grown hg (fun g hg => by cases hg)) (fun h => h)⟩
              · rintro pre x W1 ⟨hf, hk⟩ hG hWl
                rw [show encO x = #[.int .i64 (x.1 : Nat), .int .i64 x.2] from rfl]
                have hxs : (intsV (L1.map fun x => x.2))[pre.length]? = some (.int .i64 x.2) := by
                  obtain ⟨r, hr⟩ := hG
                  rw [← HLP.out, hr]
                  unfold intsV
                  simp
                have hpl1 : pre.length < L1.length := by
                  have := (List.getElem?_eq_some_iff.1 hxs).1
                  unfold intsV at this
                  simpa using this
                obtain ⟨a9, c9, e9, -, -, hcell⟩ := row_form hrow8
                injection e9 with e91 _ e93
                subst e91
                subst e93
                obtain ⟨g9, rfl, hg91, hg92, s9⟩ := hcell _ _ hxs
                have hg93 := hlow8 g9 rfl
                have hq : (pre ++ [x]).length = pre.length + 1 := by simp
                have HQ := Lib.hid hq
                have t1 : decide (pre.length ≥ L1.length) = false := by simp; omega
                have t2 : decide ((pre.length : Int) ≥ L1.length) = false := by simp; omega
                clear hG hq hxs hcell HI2b
                gi_wp2
                refine ⟨World.grownBy.refl _ _, ?_⟩
                intro w9 hg9 hl9 r9 hr9
                have hf9 : Fr (fun g => g = W.heap.size ∨ w8.heap.size ≤ g) w8 w9 := hf.same (Fr.grown hg9 (fun g hg => by injection hg with hg; exact .inl (.inr (by omega))))
                have hk9 := hk.fr (S := fun k => k = w8.heap.size + 1) (Fr.grown hg9 (fun g hg => by injection hg with hg; exact .inl hg.symm)) (by omega)
                have k0 := hk9.c 0 rfl
                have k1 := hk9.fz 0
                have o9 := (hob8.fr hf9 (by omega)).c 0 rfl
                have x9 : w9.cell? ⟨g9, pre.length, none⟩ = some (.int .i64 x.2) := (hf9.cell (by omega) (by omega)).trans s9
                clear hr9 hg9 hf hk hWl s9
                gi_wp2
                refine ⟨⟨Below.heap_setCell _ _ _ _ (by dsimp only; omega), Below.heap_setCell _ _ _ _ (by dsimp only; omega)⟩, hf9.same (Fr.set (.inl (.inl rfl))), ?_⟩
                rw [HQ.out]
                exact hk9.set 0 _
              · rintro xs W1 hS ⟨hf, hk⟩ hD
                obtain rfl : L2 = xs := hS.symm
                have hL12 : L2.length = L1.length := by have := congrArg List.length HLP.out; simpa using this
                rw [hL12] at hk
                have hbW1 : Below wr.heap.size wr W1 := hbr8.trans (hf.toBelow wr.heap.size (fun q hq e => by have := hbF.size; have := hbwW.size; omega) hbr8.size)
                have hd1 : DefOk W1 w11.heap.size W1.heap.size ({ target := .collected w8.heap.size, args := #[] } :: { target := .collected w6.heap.size, args := #[] } :: ds) :=
                  .cons (by have := hbr8.size; omega) (lt_of_heap hD) hD ((hd8.keep fun q hq1 hq2 hq3 => (hf.block q (by omega) (by omega)).trans hq3).more (by omega))
                obtain ⟨-, e1, e2, e3, e4, e5, e6⟩ := HK.out _ hbW1
                have k0 := hk.c 0 rfl
                have o9 := (hob8.fr hf (by omega)).c 0 rfl
                have hil : (i : Int) < p.length := by omega
                clear HI2b HK HOA HOB
                go_upto_region 35 with fail
                go_quiet (fail)
                clear e1 e2 e3 e4 e5 e6 k0 o9
                go_wp2_with fail
                have hbN := hbr.trans (hbW1.mono hbr.size)
                refine ⟨⟨rfl, i + 1, by omega, rfl, rfl, rfl, ?_, ⟨hbN.os, hbN.tape, hbN.output, hbN.size, hbN.block⟩, hd1.keep fun q _ _ h => h⟩, ?_⟩
                · show Value.int .i64 ((i : Int) + 1) = _
                  go_num
                · show p.length - ((i : Int) + 1).toNat < p.length - ((i : Nat) : Int).toNat
                  omega
              · rintro c pre W1 hSp h0 hD
                exact h0.elim
            · rintro c pre W hSp h0 hD
              exact h0.elim
theorem sholds_law (p : List Fn) (pa : Option Addr) (cap : Nat) (s : ByteArray) (w : World) (hP : PAt (· < w.heap.size) w p pa cap) (hE : EnvS w) : Calls Tryz.prog 4 #[prV p pa cap, .string s] w fun e w' => e = .returned (.bool true) ∧ Below w.heap.size w w' := by
  by_cases hs : s.size ≤ 1500
  · cases hf : fewP p with
    | true => exact sholds_in p pa cap s hf hs w hP hE
    | false => exact sholds_out p pa cap s (.inl hf) w hP hE
  · exact sholds_out p pa cap s (.inr (by omega)) w hP hE
end Go.Proofs.YtjendlnicbieoaaGreatDoor
