/-
  Package source: Normal.
-/
import Derived.Test.YtjendlnicbieoaaGreatDoorOr
import Derived.Test.YtjendlnicbieoaaGreatDoorWxWp
namespace Go.Proofs.YtjendlnicbieoaaGreatDoor
open Go.RowKit Go.Sort
attribute [local go_sem] Oper.semAt_some

/-- A function, and where its nodes' row lies. -/
structure HA where
  fn : Fn
  na : Option Addr
  cap : Nat
def HA.cs (x : HA) : List Value := [.int .i64 x.fn.ps, .slice x.na x.fn.ns.length x.cap]
theorem hcs_at {l : List HA} {k : Nat} {x : HA} (h : l[k]? = some x) {j : Nat} {v : Value} (hj : x.cs[j]? = some v) : (l.flatMap HA.cs)[k * 2 + j]? = some v := by
  induction l generalizing k with
  | nil => simp at h
  | cons y r ih =>
    cases k with
    | zero =>
      have e : y = x := by simpa using h
      subst e
      rw [List.flatMap_cons, Nat.zero_mul, Nat.zero_add, List.getElem?_append_left (List.getElem?_eq_some_iff.1 hj).1]
      exact hj
    | succ k =>
      have := ih (k := k) (by simpa using h)
      rw [List.flatMap_cons, List.getElem?_append_right (by simp [HA.cs]; omega)]
      rw [← this]
      congr 1
      simp [HA.cs]
      omega
/-- The nodes of a row that ordered has filled. -/
theorem SO.isNs {w : World} {lo nb : Nat} {ns : List NA} {da : Option Addr} {dc : Nat} (h : SO w lo nb ns (.slice da ns.length dc)) : IsNs (fun g => lo ≤ g ∧ g < w.heap.size) w (ns.map NA.nd) da ∧ ns.length ≤ dc ∧ dc ≤ maxLen := by
  obtain ⟨a, c, e, h1, h2, hc⟩ := row_form h.rn
  injection e with e1 _ e3
  subst e1
  subst e3
  refine ⟨?_, h1, h2⟩
  intro j y hy
  rw [List.getElem?_map] at hy
  obtain ⟨x, hx, rfl⟩ := Option.map_eq_some_iff.1 hy
  obtain ⟨g, e0, hg1, hg2, k0⟩ := hc _ _ (na_at hx (j := 0) (v := .int .i64 x.nd.op) rfl)
  subst e0
  have hk : ∀ (i : Nat) (v : Value), x.cs[i]? = some v → w.cell? ⟨g, j * 3 + i, none⟩ = some v := fun i v hi => row_c h.rn (na_at hx hi)
  have hok := h.kids x (List.mem_of_getElem? hx)
  obtain ⟨la, lc, e4, h4, h5, hcl⟩ := row_form hok.1
  injection e4 with e5 _ e6
  refine ⟨g, 0, x.la, x.lc, rfl, ⟨hg1, hg2⟩, by simpa using k0, by simpa using hk 1 _ rfl, by simpa using hk 2 _ rfl, by rw [e6]; exact h4, by rw [e6]; exact h5, ?_, hok.2.1, hok.2.2.1⟩
  intro i z hz
  obtain ⟨g2, e7, hg3, hg4, hc4⟩ := hcl i (.int .i64 z) (by simp [intsV, hz])
  exact ⟨g2, 0, by rw [e5]; exact e7, ⟨hg3, hg4⟩, by rw [Nat.zero_add]; exact hc4, hok.2.2.2 z (List.mem_of_getElem? hz)⟩
theorem FnAt.keep {ok ok' : Nat → Prop} {w w' : World} {f : Fn} {na : Option Addr} {cap : Nat} (h : FnAt ok w f na cap) (hk : ∀ g, ok g → ∀ o, w'.cell? ⟨g, o, none⟩ = w.cell? ⟨g, o, none⟩) (hm : ∀ g, ok g → ok' g) : FnAt ok' w' f na cap := ⟨(h.ns.keep hk).more hm, h.le, h.cap, h.ps⟩
/-- The state of Normal's loop. -/
structure NmI (w wr : World) (ob : Nat) (hs : List HA) (fa : Option Addr) (fc : Nat) : Prop where
  o : Blk wr ob 24 [.slice fa hs.length fc]
  row : wr.ownsRow (ob + 1) 46 2 (.slice fa hs.length fc) hs.length (hs.flatMap HA.cs)
  fns : ∀ x ∈ hs, FnAt (fun g => ob < g ∧ g < wr.heap.size ∧ (Value.slice fa hs.length fc).ownBlock ≠ some g) wr x.fn x.na x.cap
  bw : Below ob w wr
theorem NmI.pAt {w wr : World} {ob : Nat} {hs : List HA} {fa : Option Addr} {fc : Nat} (h : NmI w wr ob hs fa fc) : PAt (fun g => ob < g ∧ g < wr.heap.size) wr (hs.map HA.fn) fa fc := by
  obtain ⟨a, c, e, h1, h2, hc⟩ := row_form h.row
  injection e with e1 _ e3
  subst e1
  subst e3
  refine ⟨?_, by simpa using h1, h2⟩
  intro j f hj
  rw [List.getElem?_map] at hj
  obtain ⟨x, hx, rfl⟩ := Option.map_eq_some_iff.1 hj
  obtain ⟨g, e0, hg1, hg2, k0⟩ := hc _ _ (hcs_at hx (j := 0) (v := .int .i64 x.fn.ps) rfl)
  subst e0
  have k1 := row_c h.row (hcs_at hx (j := 1) (v := .slice x.na x.fn.ns.length x.cap) rfl)
  have hf := h.fns x (List.mem_of_getElem? hx)
  exact ⟨g, 0, x.na, x.cap, rfl, ⟨by omega, hg2⟩, by simpa using k0, by simpa using k1, hf.le, hf.cap, hf.ns.more fun g hg => ⟨hg.1, hg.2.1⟩, hf.ps⟩
/-- What Normal leaves. -/
def NmE (fs : List Fn) (no : Int) (w : World) (e : Ending) (w' : World) : Prop := ∃ qa qc, e = .returned (.tuple #[.agg #[.slice qa fs.length qc], .int .i64 no]) ∧ Below w.heap.size w w' ∧ PAt (fun g => w.heap.size ≤ g ∧ g < w'.heap.size) w' fs qa qc
set_option maxRecDepth 100000 in
set_option maxHeartbeats 2000000 in
theorem Normal_no (p : List Fn) (hok : okP p = false) (pa : Option Addr) (cap : Nat) (w : World) (hP : PAt (· < w.heap.size) w p pa cap) :
    Calls Tryz.prog 11 #[prV p pa cap] w (NmE [] 70 w) := by
  have hbp := (Blk.new w 24 [.slice pa p.length cap]).alloc (.cells #[.slice none 0 0] 24)
  have hbr := Blk.new (w.alloc (.cells #[.slice pa p.length cap] 24)) 24 [.slice none 0 0]
  rw [World.size_alloc] at hbr
  have hw1 : Below w.heap.size w ((w.alloc (.cells #[.slice pa p.length cap] 24)).alloc (.cells #[.slice none 0 0] 24)) := (below_new _ _).alloc (by simp) _
  have c0 := hbp.c 0 rfl
  have hCk := pcheck_any p pa cap _ (hP.later hw1)
  rw [hok] at hCk
  simp only [Bool.false_eq_true, if_false] at hCk
  clear hok
  unfold prV at hCk ⊢
  go_enter Tryz.func11, Tryz.ntmps11
  go_upto_region 3 with (go_at_call 17; refine hCk.mono ?_; rintro e w2 ⟨rfl, hb2⟩)
  have hbr2 := hbr.belowAll hb2
  have f0 := hbr2.fz 0
  have c2 := hbr2.c 0 rfl
  clear c0
  go_wp2_with fail
  have hbr3 := hbr2.set 0 (.slice none 0 0)
  have hw3 := (hw1.trans (hb2.mono hw1.size)).setCell (p := ⟨w.heap.size + 1, 0, none⟩) (by dsimp only; omega) (.slice none 0 0)
  exact bodyPost_ret (v := .tuple #[.agg #[.slice none 0 0], .int .i64 70]) (by simp [results, Tryz.results11, go_sem, hbr3.c 0 rfl]) rfl ⟨none, 0, rfl, hw3, pAt_nil _ _⟩
set_option maxRecDepth 100000 in
set_option maxHeartbeats 4000000 in
theorem Normal_yes (p : List Fn) (hok : okP p = true) (ts : List (Int × Fo)) (hts : Trs p ts) (pa : Option Addr) (cap : Nat) (w : World) (hP : PAt (· < w.heap.size) w p pa cap) :
    Calls Tryz.prog 11 #[prV p pa cap] w (NmE (nrm ts) 0 w) := by
  have hbp := (Blk.new w 24 [.slice pa p.length cap]).alloc (.cells #[.slice none 0 0] 24)
  have hbr := Blk.new (w.alloc (.cells #[.slice pa p.length cap] 24)) 24 [.slice none 0 0]
  rw [World.size_alloc] at hbr
  have hw1 : Below w.heap.size w ((w.alloc (.cells #[.slice pa p.length cap] 24)).alloc (.cells #[.slice none 0 0] 24)) := (below_new _ _).alloc (by simp) _
  have c0 := hbp.c 0 rfl
  have hCk := pcheck_any p pa cap _ (hP.later hw1)
  rw [hok] at hCk
  simp only [if_true] at hCk
  have hp64 : p.length ≤ 64 := by
    have hk := hok
    unfold okP at hk
    simp only [Bool.and_eq_true, decide_eq_true_eq] at hk
    exact hk.1.1.1.2
  have h200 : ∀ f ∈ p, f.ns.length ≤ 200 ∧ ∀ t, RdF f.ns [0] t → sizeF t ≤ 200 := by
    intro f hf
    have hk := hok
    unfold okP at hk
    simp only [Bool.and_eq_true, List.all_eq_true] at hk
    have hk2 := hk.1.1.2 f hf
    obtain ⟨q, hG⟩ := okF_good hk2
    unfold okF at hk2
    simp only [Bool.and_eq_true, decide_eq_true_eq] at hk2
    exact ⟨hk2.1.2.2.2, fun t ht => by rw [← sizeF_labels, ht.size hG]; exact hk2.1.2.2.2⟩
  have HLEN := Lib.hid hts.len
  have HTS := Lib.hid hts
  have H200 := Lib.hid h200
  clear hok hts h200
  unfold prV at hCk ⊢
  go_enter Tryz.func11, Tryz.ntmps11
  go_upto_region 5 with (go_at_call 17; refine hCk.mono ?_; rintro e w2 ⟨rfl, hb2⟩)
  have hbp2 := hbp.belowAll hb2
  have hbr2 := hbr.belowAll hb2
  have hw2 := hw1.trans (hb2.mono hw1.size)
  have ho := Blk.new w2 24 [.slice none 0 0]
  have hb3 := below_new w2 (.cells #[.slice none 0 0] 24)
  have hw3 := hw2.trans (hb3.mono hw2.size)
  have hbp3 := hbp2.belowAll hb3
  have hbr3 := hbr2.belowAll hb3
  have hzw : w.heap.size + 1 < w2.heap.size := hbr2.lt
  have hz3 : w2.heap.size < (w2.alloc (.cells #[.slice none 0 0] 24)).heap.size := by simp
  clear c0 hCk hbp hbr hbp2 hbr2 hw1 hw2 hb2 hb3
  generalize w2.alloc (.cells #[.slice none 0 0] 24) = w3 at *
  generalize w2.heap.size = ob at *
  have c0 := hbp3.c 0 rfl
  go_wp2_with fail
  go_loopw [7, 8, 18] (fun _ _ jv wr => ∃ (j : Nat) (hs : List HA) (fa : Option Addr) (fc : Nat), jv = .int .i64 (j : Nat) ∧ j ≤ p.length ∧ hs.map HA.fn = nrm (ts.take j) ∧ NmI w3 wr ob hs fa fc) (fun _ _ jv _ => p.length - (intOf jv).toNat)
  case atStart => exact ⟨0, [], none, 0, rfl, Nat.zero_le _, by simp [nrm], ⟨ho, row_none _ _ _ _, fun x hx => (by cases hx), Below.refl _ _⟩⟩
  case round =>
    clear c0 ho
    obtain ⟨j, hs, fa, fc, rfl, hj, hmap, hI⟩ := hrel
    have hbw := hI.bw
    have hzr := hbw.size
    have hwr : Below w.heap.size w wr := hw3.trans (hbw.mono (by omega))
    have hHL : hs.length = (nrm (ts.take j)).length := by rw [← hmap, List.length_map]
    have HM := Lib.hid hmap
    have HHL := Lib.hid hHL
    have hsl : hs.length ≤ 64 := by
      rw [HHL.out]
      unfold nrm
      rw [List.length_map, List.length_take]
      omega
    clear hmap hHL
    by_cases hlt : j < p.length
    case' neg =>
      have hd : decide ((j : Int) < p.length) = false := by simp; omega
      have o0 := hI.o.c 0 rfl
      have hbrr := hbr3.below hbw hzw
      have r0 := hbrr.fz 0
      have r1 := hbrr.c 0 rfl
      go_wp2_with fail
      have hbr9 := hbrr.set 0 (.slice fa hs.length fc)
      have hw9 := hwr.setCell (p := ⟨w.heap.size + 1, 0, none⟩) (by dsimp only; omega) (.slice fa hs.length fc)
      have hts : ts.take j = ts := List.take_of_length_le (by rw [HLEN.out]; omega)
      have hP9 := hI.pAt
      rw [HM.out, hts] at hP9
      have hl9 : hs.length = (nrm ts).length := by rw [HHL.out, hts]
      have hfr : Fr (fun q => q = w.heap.size + 1) wr (wr.setCell ⟨w.heap.size + 1, 0, none⟩ (.slice fa hs.length fc)) := Fr.set (.inl rfl)
      exact bodyPost_ret (v := .tuple #[.agg #[.slice fa hs.length fc], .int .i64 0]) (by simp [results, Tryz.results11, go_sem, hbr9.c 0 rfl]) rfl ⟨fa, fc, by rw [hl9], hw9, ⟨(hP9.fs.keep fun g hg o => hfr.cell hg.2 (by omega)).more fun g hg => ⟨by omega, Nat.lt_of_lt_of_le hg.2 hfr.size⟩, hP9.le, hP9.cap⟩⟩
    case' pos =>
      have hd : decide ((j : Int) < p.length) = true := by simp; omega
      obtain ⟨f, hf⟩ : ∃ f, p[j]? = some f := ⟨p[j], List.getElem?_eq_getElem hlt⟩
      obtain ⟨t, htj, hrd⟩ := HTS.out.at_ j f hf
      obtain ⟨h200, ht200⟩ := H200.out f (List.mem_of_getElem? hf)
      have hts := ht200 t hrd
      obtain ⟨g, o, na, cp, rfl, hg, q0, q1, hc1, hc2, hns, hr⟩ := hP.fs j f hf
      have hFn : FnAt (· < w.heap.size) w f na cp := ⟨hns, hc1, hc2, hr⟩
      obtain ⟨op, n, k, rfl⟩ : ∃ op n k, t = .cons 0 op n k .nil := by
        cases hrd with
        | cons h1 h2 h3 =>
          cases h3 with
          | nil => exact ⟨_, _, _, rfl⟩
      have y0 := (hwr.cell (p := ⟨g, o + j * 2, none⟩) hg).trans q0
      have y1 := (hwr.cell (p := ⟨g, o + j * 2 + 1, none⟩) hg).trans q1
      have hF := (Blk.new wr 46 [.int .i64 f.ps, .slice na f.ns.length cp]).alloc (.cells #[.slice none 0 0] 44)
      have hN := Blk.new (wr.alloc (.cells #[.int .i64 f.ps, .slice na f.ns.length cp] 46)) 44 [.slice none 0 0]
      rw [World.size_alloc] at hN
      have hb5 : Below wr.heap.size wr ((wr.alloc (.cells #[.int .i64 f.ps, .slice na f.ns.length cp] 46)).alloc (.cells #[.slice none 0 0] 44)) := (below_new _ _).alloc (by simp) _
      have HTJ := Lib.hid htj
      clear q0 q1 hns hc1 hc2 htj hf
      go_upto_region 9 with fail
      have hz5 : ((wr.alloc (.cells #[.int .i64 f.ps, .slice na f.ns.length cp] 46)).alloc (.cells #[.slice none 0 0] 44)).heap.size = wr.heap.size + 2 := by simp
      clear y0 y1
      generalize (wr.alloc (.cells #[.int .i64 f.ps, .slice na f.ns.length cp] 46)).alloc (.cells #[.slice none 0 0] 44) = w5 at *
      have hOr : Calls Tryz.prog 32 #[.pointer (some ⟨wr.heap.size + 1, 0, none⟩), fnV f na cp, .int .i64 0] w5 (OrE (.cons 0 op n k .nil) (wr.heap.size + 2) (wr.heap.size + 1) [] (.slice none 0 0) w5) :=
        ordered_all (1 + sizeF k) f na cp 0 op n k (wr.heap.size + 2) (wr.heap.size + 1) [] (.slice none 0 0) w.heap.size w5 (Nat.le_refl _) hrd (hFn.below (hwr.trans (hb5.mono (by omega)))) ⟨hN, row_none _ _ _ _, fun x hx => (by cases hx)⟩ (by omega) (by omega) (by omega) (by simp only [sizeF] at hts; simp only [List.length_nil]; omega)
      unfold OrE fnV at hOr
      have f0 := hF.c 0 rfl
      have f1 := hF.c 1 rfl
      go_upto_region 10 with (go_at_call 32; refine hOr.mono ?_; rintro e w6 ⟨rfl, hf6, ns', vD', hnd, hS6, -, -⟩)
      rw [List.nil_append] at hS6
      obtain ⟨da, dc, rfl, -⟩ := row_form hS6.rn
      have hsy : ∀ q, Sy (wr.heap.size + 1) (.slice none 0 0) q → q = wr.heap.size + 1 := fun q h => by
        rcases h with h | h
        · exact h
        · cases h
      have hF6 := hF.fr hf6 (fun h => by have := hsy _ h; omega)
      have hfB : Fr (fun _ => False) wr w6 := (Fr.belowAll hb5).trans hf6 fun q hq h => by have := hsy _ h; omega
      have hz6 := hf6.size
      have ho6 := hI.o.fr hfB id
      have hrow6 := row_keep hI.row fun q _ hq => hfB.block q hq id
      clear f0 f1 hOr
      have f0 := hF6.c 0 rfl
      have f1 := hF6.c 1 rfl
      have n0 := hS6.b.c 0 rfl
      have o0 := ho6.c 0 rfl
      have hnw := heap_alloc_new w6 (.cells #[.int .i64 f.ps, .slice da ns'.length dc] 46)
      have holt := hI.o.lt
      have hown : ∀ q, (Value.slice fa hs.length fc).ownBlock = some q → ob < q ∧ q < wr.heap.size := fun q hq => by have := hI.row.lt q hq; omega
      go_upto_region 11 with (at_builtin; refine wpList_row _ rfl (.tmp 25) (.tmp 30) 22 46 _ 2 32 Tryz.underlying22 fun_info rfl (by decide) (by decide) rfl (ob + 1) (.slice fa hs.length fc) hs.length (hs.flatMap HA.cs) rfl (hrow6.alloc _) w6.heap.size [.int .i64 f.ps, .slice da ns'.length dc] rfl hnw rfl (by intro u hu; simp at hu; rcases hu with rfl | rfl <;> rfl) (by omega) (by simp only [World.size_alloc]; omega) ?_; intro g' cap' w8 hr8 hg8 ha8; have hf8 : Fr (fun q => (Value.slice fa hs.length fc).ownBlock = some q) w6 w8 := (Fr.alloc _).same (Fr.grown hg8 fun g hg => .inl hg); have ho8 := ho6.fr hf8 (fun e => by have := hown _ e; omega); have z0 := ho8.fz 0; have z1 := ho8.c 0 rfl)
      have hfA : Fr (fun q => q = ob ∨ (Value.slice fa hs.length fc).ownBlock = some q) wr (w8.setCell ⟨ob, 0, none⟩ (.slice (some ⟨g', 0, none⟩) (hs.length + 1) cap')) :=
        ((hfB.more fun _ _ h => h.elim).same (hf8.more fun _ _ h => .inr h)).same (Fr.set (.inl (.inl rfl)))
      have hf69 : Fr (fun q => q = ob ∨ (Value.slice fa hs.length fc).ownBlock = some q) w6 (w8.setCell ⟨ob, 0, none⟩ (.slice (some ⟨g', 0, none⟩) (hs.length + 1) cap')) := (hf8.more fun _ _ h => .inr h).same (Fr.set (.inl (.inl rfl)))
      have hgn : ∀ q, q < w6.heap.size → (Value.slice fa hs.length fc).ownBlock ≠ some q → (Value.slice (some ⟨g', 0, none⟩) (hs.length + 1) cap').ownBlock ≠ some q := fun q hq h e => by
        have e2 : g' = q := by injection e
        subst e2
        rcases ha8 with h8 | h8
        · exact h h8
        · rw [World.size_alloc] at h8
          omega
      obtain ⟨hns6, hdl, hdm⟩ := hS6.isNs
      rw [hnd] at hns6
      have hnl : ns'.length = (flat 0 (.cons 0 op n k .nil)).length := by
        have := congrArg List.length hnd
        simpa using this
      have hNew : NmI w3 (w8.setCell ⟨ob, 0, none⟩ (.slice (some ⟨g', 0, none⟩) (hs.length + 1) cap')) ob (hs ++ [⟨⟨f.ps, flat 0 (.cons 0 op n k .nil)⟩, da, dc⟩]) (some ⟨g', 0, none⟩) cap' := by
        refine ⟨?_, ?_, fun x hx => ?_, hbw.trans (hfA.toBelow ob (fun q hq e => ?_) (by omega))⟩
        · have := ho8.set 0 (.slice (some ⟨g', 0, none⟩) (hs.length + 1) cap')
          simpa using this
        · have h9 := row_keep hr8 fun q hq _ => Below.heap_setCell w8 ⟨ob, 0, none⟩ (.slice (some ⟨g', 0, none⟩) (hs.length + 1) cap') q (by have := row_base hr8 q hq; dsimp only; omega)
          rw [hnl] at h9
          simpa [HA.cs] using h9
        · rw [List.length_append]
          rcases List.mem_append.1 hx with hx | hx
          · exact (hI.fns x hx).keep (fun q hq o => hfA.cell hq.2.1 (by rintro (e | e); (omega); exact hq.2.2 e)) (fun q hq => ⟨hq.1, Nat.lt_of_lt_of_le hq.2.1 hfA.size, hgn q (Nat.lt_of_lt_of_le hq.2.1 hfB.size) hq.2.2⟩)
          · rw [List.mem_singleton.1 hx]
            have h6 : FnAt (fun g => wr.heap.size + 2 ≤ g ∧ g < w6.heap.size) w6 ⟨f.ps, flat 0 (.cons 0 op n k .nil)⟩ da dc := ⟨hns6, by rw [← hnl]; exact hdl, hdm, hFn.ps⟩
            exact h6.keep (fun q hq o => hf69.cell hq.2 (by rintro (e | e); (omega); have := hown q e; omega)) (fun q hq => ⟨by omega, Nat.lt_of_lt_of_le hq.2 hf69.size, hgn q hq.2 (fun e => by have := hown q e; omega)⟩)
        · rcases e with e | e
          · omega
          · have := hown q e; omega
      have HNL := Lib.hid hnl
      clear hnl hnd f0 f1 n0 o0 z0 z1
      go_wp2_with fail
      go_roundw
      case' rel =>
        refine ⟨j + 1, _, _, _, by go_num, by omega, ?_, hNew⟩
        rw [List.map_append, HM.out, List.take_add_one, HTJ.out]
        simp [nrm]
      case' measure =>
        show p.length - ((j : Int) + 1).toNat < p.length - ((j : Nat) : Int).toNat
        omega
end Go.Proofs.YtjendlnicbieoaaGreatDoor
