/-
  The reference's Normal.
-/
import Derived.Test.YtjendlnicbieoaaGreatDoorWa
namespace Go.Proofs.YtjendlnicbieoaaGreatDoor
open Go.RowKit Go.Sort
attribute [local go_sem] Oper.semAt_some

theorem nodup_eq {l : List Nat} (h : l.Nodup) {i j : Nat} {c : Nat} (hi : l[i]? = some c) (hj : l[j]? = some c) : i = j := by
  obtain ⟨l1, g1⟩ := List.getElem?_eq_some_iff.1 hi
  obtain ⟨l2, g2⟩ := List.getElem?_eq_some_iff.1 hj
  rcases Nat.lt_trichotomy i j with h1 | h1 | h1
  · exact absurd (g1.trans g2.symm) (List.pairwise_iff_getElem.1 h i j l1 l2 h1)
  · exact h1
  · exact absurd (g2.trans g1.symm) (List.pairwise_iff_getElem.1 h j i l2 l1 h1)
theorem cell_al {w : World} {a : Addr} {v : Value} (h : w.cell? a = some v) (O : Obj) : (w.alloc O).cell? a = some v := by
  rw [(below_new w O).cell (block_lt_of_cell h)]
  exact h
/-- A function made: its block, the row of its nodes. -/
structure RO (w : World) (q : Nat) (ps : Int) (ns : List NA) (da : Option Addr) (dc : Nat) : Prop where
  b : Blk w q 46 [.int .i64 ps, .slice da ns.length dc]
  rn : w.ownsRow (q + 1) 59 3 (.slice da ns.length dc) ns.length (ns.flatMap NA.cs)
  kids : ∀ x ∈ ns, x.Ok w (q + 1)
theorem RO.below {w w2 : World} {q : Nat} {ps : Int} {ns : List NA} {da : Option Addr} {dc : Nat} (h : RO w q ps ns da dc) (hb : Below w.heap.size w w2) : RO w2 q ps ns da dc :=
  ⟨h.b.belowAll hb, row_keep h.rn fun q _ hq => hb.block q hq, fun x hx => ⟨row_keep (h.kids x hx).1 fun q _ hq => hb.block q hq, (h.kids x hx).2⟩⟩
theorem RO.isNs {w : World} {q : Nat} {ps : Int} {ns : List NA} {da : Option Addr} {dc : Nat} (h : RO w q ps ns da dc) : IsNs (fun g => q + 1 ≤ g ∧ g < w.heap.size) w (ns.map NA.nd) da ∧ ns.length ≤ dc ∧ dc ≤ maxLen := by
  obtain ⟨a, c, e, h1, h2, hc⟩ := row_form h.rn
  injection e with e1 _ e3
  subst e1
  subst e3
  refine ⟨?_, h1, h2⟩
  intro j y hy
  rw [List.getElem?_map] at hy
  obtain ⟨x, hx, rfl⟩ := Option.map_eq_some_iff.1 hy
  obtain ⟨g, e0, hg1, hg2, k0⟩ := hc _ _ (na_at hx (j := 0) (v := .int .i64 x.nd.op) rfl)
  subst e0
  have hk : ∀ (i : Nat) (v : Value), x.cs[i]? = some v → w.cell? ⟨g, j * 3 + i, none⟩ = some v := fun i v hi => row_c h.rn (na_at hx hi)
  have hok := h.kids x (List.mem_of_getElem? hx)
  obtain ⟨la, lc, e4, h4, h5, hcl⟩ := row_form hok.1
  injection e4 with e5 _ e6
  refine ⟨g, 0, x.la, x.lc, rfl, ⟨hg1, hg2⟩, by simpa using k0, by simpa using hk 1 _ rfl, by simpa using hk 2 _ rfl, by rw [e6]; exact h4, by rw [e6]; exact h5, ?_, hok.2.1, hok.2.2.1⟩
  intro i z hz
  obtain ⟨g2, e7, hg3, hg4, hc4⟩ := hcl i (.int .i64 z) (by simp [intsV, hz])
  exact ⟨g2, 0, by rw [e5]; exact e7, ⟨hg3, hg4⟩, by rw [Nat.zero_add]; exact hc4, hok.2.2.2 z (List.mem_of_getElem? hz)⟩
theorem RO.push {w w9 : World} {q : Nat} {ps : Int} {ns : List NA} {da : Option Addr} {dc : Nat} (h : RO w q ps ns da dc) (x : NA) (hx : x.Ok w (q + 1)) (hf : Fr (fun k => (Value.slice da ns.length dc).ownBlock = some k) w w9) {g cap : Nat}
    (hr : w9.ownsRow (q + 1) 59 3 (.slice (some ⟨g, 0, none⟩) (ns.length + 1) cap) (ns.length + 1) (ns.flatMap NA.cs ++ x.cs)) :
    RO (w9.setCell ⟨q, 1, none⟩ (.slice (some ⟨g, 0, none⟩) (ns.length + 1) cap)) q ps (ns ++ [x]) (some ⟨g, 0, none⟩) cap ∧ Below q w (w9.setCell ⟨q, 1, none⟩ (.slice (some ⟨g, 0, none⟩) (ns.length + 1) cap)) := by
  have hsR : Fr (fun k => k = q) w9 (w9.setCell ⟨q, 1, none⟩ (.slice (some ⟨g, 0, none⟩) (ns.length + 1) cap)) := Fr.set (.inl rfl)
  have hF : Fr (fun k => k = q ∨ (Value.slice da ns.length dc).ownBlock = some k) w (w9.setCell ⟨q, 1, none⟩ (.slice (some ⟨g, 0, none⟩) (ns.length + 1) cap)) := (hf.more fun _ _ e => .inr e).same (Fr.set (.inl (.inl rfl)))
  have hlt := h.b.lt
  refine ⟨⟨?_, ?_, fun y hy => ?_⟩, hF.toBelow q ?_ (by omega)⟩
  · have := (h.b.fr hf fun e => by have := row_base h.rn q e; omega).set 1 (.slice (some ⟨g, 0, none⟩) (ns.length + 1) cap)
    simpa using this
  · have := row_keep hr fun k hk hk2 => hsR.block k hk2 (by have := row_base hr k hk; omega)
    simpa using this
  · have hok : y.Ok w (q + 1) := by
      rcases List.mem_append.1 hy with hy | hy
      · exact h.kids y hy
      · rw [List.mem_singleton.1 hy]; exact hx
    refine hok.fr hF fun k hk e => ?_
    rcases e with e | e
    · have := row_base hok.1 k hk; omega
    · exact rows_ne hok.1 h.rn (by decide) k hk e
  · rintro k hk (e | e)
    · omega
    · have := row_base h.rn k e; omega
set_option maxRecDepth 100000 in
set_option maxHeartbeats 2000000 in
theorem rNormal_no (p : List Fn) (hok : okP p = false) (pa : Option Addr) (cap : Nat) (w : World) (hP : PAt (· < w.heap.size) w p pa cap) :
    Calls Tryz.prog 12 #[prV p pa cap] w (NmE [] 70 w) := by
  have hbp := (Blk.new w 24 [.slice pa p.length cap]).alloc (.cells #[.slice none 0 0] 24)
  have hbr := Blk.new (w.alloc (.cells #[.slice pa p.length cap] 24)) 24 [.slice none 0 0]
  rw [World.size_alloc] at hbr
  have hw1 : Below w.heap.size w ((w.alloc (.cells #[.slice pa p.length cap] 24)).alloc (.cells #[.slice none 0 0] 24)) := (below_new _ _).alloc (by simp) _
  have c0 := hbp.c 0 rfl
  have hCk := rright_any p pa cap _ (hP.later hw1)
  rw [hok] at hCk
  clear hok
  unfold prV at hCk ⊢
  go_enter Tryz.func12, Tryz.ntmps12
  go_upto_region 2 with (go_at_call 29; refine hCk.mono ?_; rintro e w2 ⟨rfl, hb2⟩)
  have hbr2 := hbr.belowAll hb2
  have f0 := hbr2.fz 0
  have c2 := hbr2.c 0 rfl
  clear c0
  go_wp2_with fail
  have hbr3 := hbr2.set 0 (.slice none 0 0)
  have hw3 := (hw1.trans (hb2.mono hw1.size)).setCell (p := ⟨w.heap.size + 1, 0, none⟩) (by dsimp only; omega) (.slice none 0 0)
  exact bodyPost_ret (v := .tuple #[.agg #[.slice none 0 0], .int .i64 70]) (by simp [results, Tryz.results12, go_sem, hbr3.c 0 rfl]) rfl ⟨none, 0, rfl, hw3, pAt_nil _ _⟩
set_option maxRecDepth 100000 in
set_option maxHeartbeats 4000000 in
theorem rNormal_yes (p : List Fn) (hok : okP p = true) (ts : List (Int × Fo)) (hts : Trs p ts) (pa : Option Addr) (cap : Nat) (w : World) (hP : PAt (· < w.heap.size) w p pa cap) :
    Calls Tryz.prog 12 #[prV p pa cap] w (NmE (nrm ts) 0 w) := by
  have hbp := (Blk.new w 24 [.slice pa p.length cap]).alloc (.cells #[.slice none 0 0] 24)
  have hbr := Blk.new (w.alloc (.cells #[.slice pa p.length cap] 24)) 24 [.slice none 0 0]
  rw [World.size_alloc] at hbr
  have hw1 : Below w.heap.size w ((w.alloc (.cells #[.slice pa p.length cap] 24)).alloc (.cells #[.slice none 0 0] 24)) := (below_new _ _).alloc (by simp) _
  have c0 := hbp.c 0 rfl
  have hCk := rright_any p pa cap _ (hP.later hw1)
  rw [hok] at hCk
  have hp64 : p.length ≤ 64 := by
    have hk := hok
    unfold okP at hk
    simp only [Bool.and_eq_true, decide_eq_true_eq] at hk
    exact hk.1.1.1.2
  have h200 : ∀ f ∈ p, f.ns.length ≤ 200 ∧ ∀ t, RdF f.ns [0] t → sizeF t ≤ 200 := by
    intro f hf
    have hk := hok
    unfold okP at hk
    simp only [Bool.and_eq_true, List.all_eq_true] at hk
    have hk2 := hk.1.1.2 f hf
    obtain ⟨q, hG⟩ := okF_good hk2
    unfold okF at hk2
    simp only [Bool.and_eq_true, decide_eq_true_eq] at hk2
    exact ⟨hk2.1.2.2.2, fun t ht => by rw [← sizeF_labels, ht.size hG]; exact hk2.1.2.2.2⟩
  have HLEN := Lib.hid hts.len
  have HTS := Lib.hid hts
  have hperm : ∀ f ∈ p, ∀ t, RdF f.ns [0] t → sizeF t = f.ns.length ∧ (labels t).Nodup ∧ ∀ c ∈ labels t, c < f.ns.length := by
    intro f hf t ht
    unfold okP at hok
    simp only [Bool.and_eq_true, List.all_eq_true] at hok
    obtain ⟨q, hG⟩ := okF_good (hok.1.1.2 f hf)
    exact ⟨by rw [← sizeF_labels, ht.size hG], ht.nodup hG, ht.lt⟩
  have HPERM := Lib.hid hperm
  have hkids : ∀ f ∈ p, ∀ (c : Nat) (x : Nd), f.ns[c]? = some x → x.l.length ≤ 16 ∧ ∀ (m : Nat) (y : Int), x.l[m]? = some y → 0 ≤ y ∧ y < f.ns.length := by
    intro f hf c x hx
    unfold okP at hok
    simp only [Bool.and_eq_true, List.all_eq_true] at hok
    obtain ⟨q, hG⟩ := okF_good (hok.1.1.2 f hf)
    have hcl := (List.getElem?_eq_some_iff.1 hx).1
    exact ⟨kids16 (hG.to_.fit c x hcl hx).1, fun m y hy => by have := hG.to_.kid c x hcl hx m y hy; exact ⟨by omega, this.2.1⟩⟩
  have HKIDS := Lib.hid hkids
  have H200 := Lib.hid h200
  clear hok hts h200 hperm hkids
  unfold prV at hCk ⊢
  go_enter Tryz.func12, Tryz.ntmps12
  go_upto_region 4 with (go_at_call 29; refine hCk.mono ?_; rintro e w2 ⟨rfl, hb2⟩)
  have hbp2 := hbp.belowAll hb2
  have hbr2 := hbr.belowAll hb2
  have hw2 := hw1.trans (hb2.mono hw1.size)
  have ho := Blk.new w2 24 [.slice none 0 0]
  have hb3 := below_new w2 (.cells #[.slice none 0 0] 24)
  have hw3 := hw2.trans (hb3.mono hw2.size)
  have hbp3 := hbp2.belowAll hb3
  have hbr3 := hbr2.belowAll hb3
  have hzw : w.heap.size + 1 < w2.heap.size := hbr2.lt
  have hz3 : w2.heap.size < (w2.alloc (.cells #[.slice none 0 0] 24)).heap.size := by simp
  clear c0 hCk hbp hbr hbp2 hbr2 hw1 hw2 hb2 hb3
  generalize w2.alloc (.cells #[.slice none 0 0] 24) = w3 at *
  generalize w2.heap.size = ob at *
  have c0 := hbp3.c 0 rfl
  go_wp2_with fail
  go_loopw [5] (fun jv wr => ∃ (j : Nat) (hs : List HA) (fa : Option Addr) (fc : Nat), jv = .int .i64 (j : Nat) ∧ j ≤ p.length ∧ hs.map HA.fn = nrm (ts.take j) ∧ NmI w3 wr ob hs fa fc) (fun jv _ => p.length - (intOf jv).toNat)
  case atStart => exact ⟨0, [], none, 0, rfl, Nat.zero_le _, by simp [nrm], ⟨ho, row_none _ _ _ _, fun x hx => (by cases hx), Below.refl _ _⟩⟩
  case round =>
    clear c0 ho
    obtain ⟨j, hs, fa, fc, rfl, hj, hmap, hI⟩ := hrel
    have hbw := hI.bw
    have hzr := hbw.size
    have hwr : Below w.heap.size w wr := hw3.trans (hbw.mono (by omega))
    have c0 := (hbp3.below hbw (by omega)).c 0 rfl
    have hHL : hs.length = (nrm (ts.take j)).length := by rw [← hmap, List.length_map]
    have HM := Lib.hid hmap
    have HHL := Lib.hid hHL
    have hsl : hs.length ≤ 64 := by
      rw [HHL.out]
      unfold nrm
      rw [List.length_map, List.length_take]
      omega
    clear hmap hHL
    by_cases hlt : j < p.length
    case' neg =>
      have hd : decide (j < p.length) = false := by simp; omega
      have o0 := hI.o.c 0 rfl
      have hbrr := hbr3.below hbw hzw
      have r0 := hbrr.fz 0
      have r1 := hbrr.c 0 rfl
      go_wp2_with fail
      have hbr9 := hbrr.set 0 (.slice fa hs.length fc)
      have hw9 := hwr.setCell (p := ⟨w.heap.size + 1, 0, none⟩) (by dsimp only; omega) (.slice fa hs.length fc)
      have hts : ts.take j = ts := List.take_of_length_le (by rw [HLEN.out]; omega)
      have hP9 := hI.pAt
      rw [HM.out, hts] at hP9
      have hl9 : hs.length = (nrm ts).length := by rw [HHL.out, hts]
      have hfr : Fr (fun q => q = w.heap.size + 1) wr (wr.setCell ⟨w.heap.size + 1, 0, none⟩ (.slice fa hs.length fc)) := Fr.set (.inl rfl)
      exact bodyPost_ret (v := .tuple #[.agg #[.slice fa hs.length fc], .int .i64 0]) (by simp [results, Tryz.results12, go_sem, hbr9.c 0 rfl]) rfl ⟨fa, fc, by rw [hl9], hw9, ⟨(hP9.fs.keep fun g hg o => hfr.cell hg.2 (by omega)).more fun g hg => ⟨by omega, Nat.lt_of_lt_of_le hg.2 hfr.size⟩, hP9.le, hP9.cap⟩⟩
    case' pos =>
      have hd : decide (j < p.length) = true := by simp; omega
      obtain ⟨f, hf⟩ : ∃ f, p[j]? = some f := ⟨p[j], List.getElem?_eq_getElem hlt⟩
      obtain ⟨t, htj, hrd⟩ := HTS.out.at_ j f hf
      obtain ⟨h200, ht200⟩ := H200.out f (List.mem_of_getElem? hf)
      have hts := ht200 t hrd
      obtain ⟨g, o, na, cp, rfl, hg, q0, q1, hc1, hc2, hns, hr⟩ := hP.fs j f hf
      have hFn : FnAt (· < w.heap.size) w f na cp := ⟨hns, hc1, hc2, hr⟩
      obtain ⟨op, n, k, rfl⟩ : ∃ op n k, t = .cons 0 op n k .nil := by
        cases hrd with
        | cons h1 h2 h3 =>
          cases h3 with
          | nil => exact ⟨_, _, _, rfl⟩
      have y0 := (hwr.cell (p := ⟨g, o + j * 2, none⟩) hg).trans q0
      have y1 := (hwr.cell (p := ⟨g, o + j * 2 + 1, none⟩) hg).trans q1
      have hF := Blk.new wr 46 [.int .i64 f.ps, .slice na f.ns.length cp]
      have hb5 := below_new wr (.cells #[.int .i64 f.ps, .slice na f.ns.length cp] 46)
      have hbp5 := (hbp3.below hbw (by omega)).alloc (.cells #[.int .i64 f.ps, .slice na f.ns.length cp] 46)
      have HTJ := Lib.hid htj
      clear q0 q1 hns hc1 hc2 htj
      go_upto_region 8 with fail
      have hz5 : (wr.alloc (.cells #[.int .i64 f.ps, .slice na f.ns.length cp] 46)).heap.size = wr.heap.size + 1 := by simp
      clear y0 y1 c0
      generalize wr.alloc (.cells #[.int .i64 f.ps, .slice na f.ns.length cp] 46) = w5 at *
      have hw5 := hwr.trans (hb5.mono hwr.size)
      have hWl : Calls Tryz.prog 33 #[fnV f na cp, .int .i64 0] w5 (WlE (labI (.cons 0 op n k .nil)) w5) := walk_all (1 + sizeF k) f na cp 0 op n k w5 (Nat.le_refl _) hrd (hFn.later hw5) (by simp only [sizeF] at hts; omega)
      unfold fnV at hWl
      obtain ⟨L, hL⟩ : ∃ L, labI (.cons 0 op n k .nil) = L := ⟨_, rfl⟩
      rw [hL] at hWl
      have HL := Lib.hid hL
      have hsz := (HPERM.out f (List.mem_of_getElem? hf) _ hrd).1
      have hll : L.length = f.ns.length := by rw [← hL, labI_len, ← hsz]
      have HLL := Lib.hid hll
      have hl1 : 1 ≤ L.length := by rw [← hL, labI_len]; simp only [sizeF]; omega
      have hl200 : L.length ≤ 200 := by omega
      have HNDP := Lib.hid (HPERM.out f (List.mem_of_getElem? hf) _ hrd).2
      have HRD := Lib.hid hrd
      have HKD := Lib.hid (HKIDS.out f (List.mem_of_getElem? hf))
      have f0 := hF.c 0 rfl
      have f1 := hF.c 1 rfl
      clear hL hll hsz hf hrd
      go_upto_region 9 with (go_at_call 33; refine hWl.mono ?_; rintro e w6 ⟨oa, oc, rfl, hro, hb6⟩)
      obtain ⟨z, rfl, hzb, hzl, hzc⟩ := row_at hro (by omega)
      have hmk := run_make_row' (P := Tryz.prog) 57 3 (.int .i64 0) 8 Tryz.underlying57 int_info rfl .i64 .i64 L.length (by omega) (by omega) w6
      rw [made_arr] at hmk
      have hP7 := Blk.new w6 3 (arr (List.replicate L.length 0))
      have hb7 := below_new w6 (.cells (arr (List.replicate L.length 0)).toArray 3)
      have hF7 := (hF.belowAll hb6).belowAll hb7
      have hro7 := row_keep hro fun q _ hq => hb7.block q hq
      clear f0 f1 hWl
      go_upto_region 10 with fail
      have hb07 : Below wr.heap.size wr (w6.alloc (.cells (arr (List.replicate L.length 0)).toArray 3)) := hb5.trans ((hb6.trans (hb7.mono hb6.size)).mono (by omega))
      have hz6 := hb6.size
      have hz7 : (w6.alloc (.cells (arr (List.replicate L.length 0)).toArray 3)).heap.size = w6.heap.size + 1 := by simp
      clear hmk hzc hb5 hb6 hb7 hF hro hbp5
      generalize w6.alloc (.cells (arr (List.replicate L.length 0)).toArray 3) = w7 at *
      generalize w6.heap.size = P at *
      generalize wr = wo at *
      obtain ⟨LB, hLB⟩ : ∃ LB, labels (.cons 0 op n k .nil) = LB := ⟨_, rfl⟩
      have hLm : L = LB.map fun (c : Nat) => (c : Int) := by rw [← hLB]; exact HL.out.symm
      have hnd := HNDP.out
      rw [hLB] at hnd
      have HLM := Lib.hid hLm
      have HND := Lib.hid hnd.1
      have HLT := Lib.hid hnd.2
      have HLB := Lib.hid hLB
      clear hLm hnd hLB
      have hLat : Hid (∀ i, i < L.length → ∃ c : Nat, LB[i]? = some c ∧ L[i]? = some (c : Int) ∧ c < L.length) := fun i hi => by
        have h1 : i < LB.length := by have := hi; rw [HLM.out, List.length_map] at this; exact this
        refine ⟨LB[i], List.getElem?_eq_getElem h1, by rw [HLM.out, List.getElem?_map, List.getElem?_eq_getElem h1]; rfl, ?_⟩
        rw [HLL.out]
        exact HLT.out _ (List.getElem_mem _)
      go_wp2_with fail
      go_loopw [9] (fun ix wr => ∃ (i : Nat) (qs : List Int), ix = .int .i64 (i : Nat) ∧ i ≤ L.length ∧ qs.length = L.length ∧ (∀ v ∈ qs, Rng v) ∧ (∀ (m c : Nat), m < i → LB[m]? = some c → qs[c]? = some (m : Int)) ∧ Blk wr P 3 (arr qs) ∧ Fr (fun b => b = P) w7 wr) (fun ix _ => L.length - (intOf ix).toNat)
      case atStart => exact ⟨0, _, rfl, Nat.zero_le _, by simp, fun v hv => by rw [List.eq_of_mem_replicate hv]; unfold Rng; omega, fun m c hm => by omega, hP7, Fr.refl _ _⟩
      case round =>
        clear hP7
        obtain ⟨i, qs, rfl, hi, hql, hqr, hq, hPr, hfr⟩ := hrel
        have HQR := Lib.hid hqr
        have HQ := Lib.hid hq
        have HQL := Lib.hid hql
        clear hq hql hqr
        by_cases hil : i < L.length
        case' pos =>
          have hid2 : decide (i < L.length) = true := by simp; omega
          obtain ⟨c, e1, e2, hcl⟩ := hLat.out i hil
          have o0 := (hfr.cell (k := z) (o := i) (by omega) (by omega)).trans (row_c hro7 (j := i) (u := .int .i64 (c : Nat)) (by simp [intsV, e2]))
          obtain ⟨x0, hx0⟩ : ∃ x0, qs[c]? = some x0 := ⟨qs[c]'(by rw [HQL.out]; exact hcl), List.getElem?_eq_getElem _⟩
          have p0 := hPr.c c (arr_at hx0)
          have p1 := hPr.fz c
          have hcd : decide (c < L.length) = true := by simp; omega
          have hset := hPr.set c (.int .i64 (i : Nat))
          rw [arr_set] at hset
          have HQ2 : Hid (∀ (m d : Nat), m < i + 1 → LB[m]? = some d → (qs.set c (i : Int))[d]? = some (m : Int)) := fun m d hm hd => by
            rw [List.getElem?_set]
            by_cases hmi : m = i
            · subst hmi
              rw [e1] at hd
              injection hd with hd
              rw [if_pos hd, if_pos (by rw [HQL.out]; exact hcl)]
            · have hne : ¬ c = d := fun e => by
                subst e
                exact hmi (nodup_eq HND.out hd e1)
              rw [if_neg hne]
              exact HQ.out m d (by omega) hd
          clear e1 e2 hx0
          go_wp2_with fail
          go_roundw
          case' rel => exact ⟨i + 1, qs.set c (i : Int), by go_num, by omega, by rw [List.length_set]; exact HQL.out, fun v hv => by
            rcases List.mem_or_eq_of_mem_set hv with h | h
            · exact HQR.out v h
            · rw [h]; unfold Rng; omega, HQ2.out, hset, hfr.same (Fr.set (.inl rfl))⟩
          case' measure =>
            show L.length - ((i : Int) + 1).toNat < L.length - ((i : Nat) : Int).toNat
            omega
        case' neg =>
          have hid2 : decide (i < L.length) = false := by simp; omega
          have hLL : L.length = LB.length := by rw [HLM.out, List.length_map]
          have HPL : Hid (∀ (m c : Nat), LB[m]? = some c → qs[c]? = some (m : Int)) := fun m c h => by
            have := (List.getElem?_eq_some_iff.1 h).1
            exact HQ.out m c (by omega) h
          clear hLL
          have hF8 := hF7.fr hfr (show ¬ wo.heap.size = P by omega)
          have hro8 := row_keep hro7 fun q hq hql => hfr.block q hql (by simp only [Value.ownBlock, Option.some.injEq] at hq; omega)
          have hb08 : Below wo.heap.size wo wr := hb07.trans (hfr.toBelow _ (fun k hk => by omega) (by omega))
          have hPz := hPr.lt
          clear HQ hF7 hro7 hb07 hfr
          generalize wr = w8 at *
          have f0 := hF8.c 0 rfl
          have hRO : RO (w8.alloc (.cells #[.int .i64 f.ps, .slice none 0 0] 46)) w8.heap.size f.ps [] none 0 := ⟨Blk.new w8 46 [.int .i64 f.ps, .slice none 0 0], row_none _ _ _ _, fun x hx => (by cases hx)⟩
          have hb9 := below_new w8 (.cells #[.int .i64 f.ps, .slice none 0 0] 46)
          have hb09 := hb08.trans (hb9.mono hb08.size)
          have hF9 := hF8.belowAll hb9
          have hro9 := row_keep hro8 fun q _ hq => hb9.block q hq
          have hP9 := hPr.belowAll hb9
          obtain ⟨place, hpl⟩ : ∃ place : Int → Int, place = fun x => qs.getD x.toNat 0 := ⟨_, rfl⟩
          have hplc : ∀ (m c : Nat), LB[m]? = some c → place (c : Int) = (m : Int) := fun m c h => by
            rw [hpl]
            dsimp only
            rw [Int.toNat_natCast, List.getD_eq_getElem?_getD, HPL.out m c h]
            rfl
          have HFL := Lib.hid (HRD.out.flat place 0 fun m c h => by rw [Nat.zero_add]; rw [HLB.out] at h; exact hplc m c h).2
          have HPLC : Hid (∀ c : Nat, c < L.length → qs[c]? = some (place (c : Int))) := fun c hc => by
            rw [hpl]
            dsimp only
            rw [Int.toNat_natCast, List.getD_eq_getElem?_getD, List.getElem?_eq_getElem (by rw [HQL.out]; exact hc)]
            rfl
          obtain ⟨FL, hFL⟩ : ∃ FL, flat 0 (.cons 0 op n k .nil) = FL := ⟨_, rfl⟩
          have HFLE := Lib.hid hFL
          have hzP : z < P := by omega
          have hP8 : P < w8.heap.size := hPz
          have hfb8 : wo.heap.size < w8.heap.size := hF8.lt
          clear hpl hplc hFL HPL
          go_upto_region 15 with fail
          clear f0 hF8 hro8 hPr hb9 hb08
          have hz9 : (w8.alloc (.cells #[.int .i64 f.ps, .slice none 0 0] 46)).heap.size = w8.heap.size + 1 := by simp
          generalize w8.alloc (.cells #[.int .i64 f.ps, .slice none 0 0] 46) = w9 at *
          generalize w8.heap.size = fq at *
          go_wp2_with fail
          go_loopw [11] (fun ix wr => ∃ (i : Nat) (nx : List NA) (da : Option Addr) (dc : Nat), ix = .int .i64 (i : Nat) ∧ i ≤ L.length ∧ nx.map NA.nd = FL.take i ∧ RO wr fq f.ps nx da dc ∧ Below fq w9 wr) (fun ix _ => L.length - (intOf ix).toNat)
          case atStart => exact ⟨0, [], none, 0, rfl, Nat.zero_le _, rfl, hRO, Below.refl _ _⟩
          case round =>
            clear hRO
            obtain ⟨i, nx, da, dc, rfl, hi, hnx, hR, hbr⟩ := hrel
            have HNX := Lib.hid hnx
            clear hnx
            have hzr := hbr.size
            have hFr := hF9.below hbr (by omega)
            have hPr := hP9.below hbr (by omega)
            have hror := row_keep hro9 fun q hq hql => hbr.block q (by simp only [Value.ownBlock, Option.some.injEq] at hq; omega)
            have hb0r : Below wo.heap.size wo wr := hb09.trans (hbr.mono (by omega))
            by_cases hil : i < L.length
            case' neg =>
              have hid3 : decide (i < L.length) = false := by simp; omega
              go_upto_region 25 with fail
              have hnd : nx.map NA.nd = flat 0 (.cons 0 op n k .nil) := by
                rw [HFLE.out, HNX.out]
                refine List.take_of_length_le ?_
                rw [← HFLE.out, flat_length, ← labI_len, HL.out]
                omega
              have hnl : nx.length = (flat 0 (.cons 0 op n k .nil)).length := by
                have := congrArg List.length hnd
                simpa using this
              obtain ⟨hns6, hdl, hdm⟩ := hR.isNs
              rw [hnd] at hns6
              have hfB : Fr (fun _ => False) wo wr := Fr.belowAll hb0r
              have ho6 := hI.o.fr hfB id
              have hrow6 := row_keep hI.row fun q _ hq => hfB.block q hq id
              have f0 := hR.b.c 0 rfl
              have f1 := hR.b.c 1 rfl
              have o0 := ho6.c 0 rfl
              have hnw := heap_alloc_new wr (.cells #[.int .i64 f.ps, .slice da nx.length dc] 46)
              have holt := hI.o.lt
              have hown : ∀ q, (Value.slice fa hs.length fc).ownBlock = some q → ob < q ∧ q < wo.heap.size := fun q hq => by have := hI.row.lt q hq; omega
              have HNL := Lib.hid hnl
              have HND2 := Lib.hid hnd
              clear hnl hnd
              go_upto_region 6 with (at_builtin; refine wpList_row _ rfl (.tmp 98) (.tmp 100) 22 46 _ 2 32 Tryz.underlying22 fun_info rfl (by decide) (by decide) rfl (ob + 1) (.slice fa hs.length fc) hs.length (hs.flatMap HA.cs) rfl (hrow6.alloc _) wr.heap.size [.int .i64 f.ps, .slice da nx.length dc] rfl hnw rfl (by intro u hu; simp at hu; rcases hu with rfl | rfl <;> rfl) (by omega) (by simp only [World.size_alloc]; omega) ?_; intro g' cap' w8 hr8 hg8 ha8; have hf8 : Fr (fun q => (Value.slice fa hs.length fc).ownBlock = some q) wr w8 := (Fr.alloc _).same (Fr.grown hg8 fun g hg => .inl hg); have ho8 := ho6.fr hf8 (fun e => by have := hown _ e; omega); have z0 := ho8.fz 0; have z1 := ho8.c 0 rfl)
              have hfA : Fr (fun q => q = ob ∨ (Value.slice fa hs.length fc).ownBlock = some q) wo (w8.setCell ⟨ob, 0, none⟩ (.slice (some ⟨g', 0, none⟩) (hs.length + 1) cap')) :=
                ((hfB.more fun _ _ h => h.elim).same (hf8.more fun _ _ h => .inr h)).same (Fr.set (.inl (.inl rfl)))
              have hf69 : Fr (fun q => q = ob ∨ (Value.slice fa hs.length fc).ownBlock = some q) wr (w8.setCell ⟨ob, 0, none⟩ (.slice (some ⟨g', 0, none⟩) (hs.length + 1) cap')) := (hf8.more fun _ _ h => .inr h).same (Fr.set (.inl (.inl rfl)))
              have hgn : ∀ q, q < wr.heap.size → (Value.slice fa hs.length fc).ownBlock ≠ some q → (Value.slice (some ⟨g', 0, none⟩) (hs.length + 1) cap').ownBlock ≠ some q := fun q hq h e => by
                have e2 : g' = q := by injection e
                subst e2
                rcases ha8 with h8 | h8
                · exact h h8
                · rw [World.size_alloc] at h8
                  omega
              have hNew : NmI w3 (w8.setCell ⟨ob, 0, none⟩ (.slice (some ⟨g', 0, none⟩) (hs.length + 1) cap')) ob (hs ++ [⟨⟨f.ps, flat 0 (.cons 0 op n k .nil)⟩, da, dc⟩]) (some ⟨g', 0, none⟩) cap' := by
                refine ⟨?_, ?_, fun x hx => ?_, hbw.trans (hfA.toBelow ob (fun q hq e => ?_) (by omega))⟩
                · have := ho8.set 0 (.slice (some ⟨g', 0, none⟩) (hs.length + 1) cap')
                  simpa using this
                · have h9 := row_keep hr8 fun q hq _ => Below.heap_setCell w8 ⟨ob, 0, none⟩ (.slice (some ⟨g', 0, none⟩) (hs.length + 1) cap') q (by have := row_base hr8 q hq; dsimp only; omega)
                  rw [HNL.out] at h9
                  simpa [HA.cs] using h9
                · rw [List.length_append]
                  rcases List.mem_append.1 hx with hx | hx
                  · exact (hI.fns x hx).keep (fun q hq o => hfA.cell hq.2.1 (by rintro (e | e); (omega); exact hq.2.2 e)) (fun q hq => ⟨hq.1, Nat.lt_of_lt_of_le hq.2.1 hfA.size, hgn q (Nat.lt_of_lt_of_le hq.2.1 hfB.size) hq.2.2⟩)
                  · rw [List.mem_singleton.1 hx]
                    have h6 : FnAt (fun g => fq + 1 ≤ g ∧ g < wr.heap.size) wr ⟨f.ps, flat 0 (.cons 0 op n k .nil)⟩ da dc := ⟨hns6, by rw [← HNL.out]; exact hdl, hdm, hFn.ps⟩
                    exact h6.keep (fun q hq o => hf69.cell hq.2 (by rintro (e | e); (omega); have := hown q e; omega)) (fun q hq => ⟨by omega, Nat.lt_of_lt_of_le hq.2 hf69.size, hgn q hq.2 (fun e => by have := hown q e; omega)⟩)
                · rcases e with e | e
                  · omega
                  · have := hown q e; omega
              clear f0 f1 o0 z0 z1
              go_wp2_with fail
              go_roundw
              case' rel =>
                refine ⟨j + 1, _, _, _, by go_num, by omega, ?_, hNew⟩
                rw [List.map_append, HM.out, List.take_add_one, HTJ.out]
                simp [nrm]
              case' measure =>
                show p.length - ((j : Int) + 1).toNat < p.length - ((j : Nat) : Int).toNat
                omega
            case' pos =>
              have hid3 : decide (i < L.length) = true := by simp; omega
              obtain ⟨c, e1, e2, hcl⟩ := hLat.out i hil
              obtain ⟨x, hx⟩ : ∃ x, f.ns[c]? = some x := ⟨f.ns[c]'(by rw [← HLL.out]; exact hcl), List.getElem?_eq_getElem _⟩
              obtain ⟨g4, o4, xa, xc, rfl, hg4, q0, q1, q2, hxc, hxm, hxi, hxr1, hxr2⟩ := hFn.ns c x hx
              have hwr : Below w.heap.size w wr := (hw3.trans (hbw.mono (by omega))).trans (hb0r.mono (by have := hbw.size; omega))
              have hbo := row_c hror (j := i) (u := .int .i64 (c : Nat)) (by simp [intsV, e2])
              have f1 := hFr.c 1 rfl
              have y0 := (hwr.cell (p := ⟨g4, o4 + c * 3, none⟩) hg4).trans q0
              have y1 := (hwr.cell (p := ⟨g4, o4 + c * 3 + 1, none⟩) hg4).trans q1
              have y2 := (hwr.cell (p := ⟨g4, o4 + c * 3 + 2, none⟩) hg4).trans q2
              have hfc : c < f.ns.length := by rw [← HLL.out]; exact hcl
              have hfcd : decide (c < f.ns.length) = true := by simp; omega
              have A0 := fun O => cell_al hbo O
              have A1 := fun O => cell_al f1 O
              have A2 := fun O => cell_al y0 O
              have A3 := fun O => cell_al y1 O
              have A4 := fun O => cell_al y2 O
              have hN := Blk.new wr 59 [.int .i64 x.op, .int .i64 x.n, .slice xa x.l.length xc]
              have hbn := below_new wr (.cells #[.int .i64 x.op, .int .i64 x.n, .slice xa x.l.length xc] 59)
              clear q0 q1 q2
              go_upto_region 18 with fail
              go_region
              have hNn := hN.drew
              have hbn2 := hbn.drew
              have hRn := hR.below hbn2
              have hPn := hPr.belowAll hbn2
              have hbrn := hbr.trans (hbn2.mono (by omega))
              clear hbo f1 y0 y1 y2 A0 A1 A2 A3 A4 hN hbn hror hFr hPr
              have hxi2 := hxi.below (hwr.trans (hbn2.mono hwr.size))
              have hzn := hbn2.size
              generalize (wr.alloc (.cells #[.int .i64 x.op, .int .i64 x.n, .slice xa x.l.length xc] 59)).drew = wn at *
              have hnn := hNn.lt
              have hwrz : w.heap.size ≤ wr.heap.size := hwr.size
              generalize wr.heap.size = nb at *
              have n0 := hNn.c 0 rfl
              have n1 := hNn.c 1 rfl
              have hM := Blk.new wn 59 [.int .i64 x.op, .int .i64 x.n, .slice none 0 0]
              have hbm := below_new wn (.cells #[.int .i64 x.op, .int .i64 x.n, .slice none 0 0] 59)
              go_upto_region 20 with fail
              have hNm := hNn.belowAll hbm
              have hPm := hPn.belowAll hbm
              have hzm : (wn.alloc (.cells #[.int .i64 x.op, .int .i64 x.n, .slice none 0 0] 59)).heap.size = wn.heap.size + 1 := by simp
              have hxi3 : IsI (· < w.heap.size) (wn.alloc (.cells #[.int .i64 x.op, .int .i64 x.n, .slice none 0 0] 59)) x.l xa := hxi2.fr (S := fun _ => False) (Fr.belowAll hbm) fun g hg => ⟨by omega, id⟩
              clear n0 n1 hNn hPn hxi2
              generalize wn.alloc (.cells #[.int .i64 x.op, .int .i64 x.n, .slice none 0 0] 59) = wm at *
              have hmbz : nb < wn.heap.size := hnn
              have hPwn : P < nb := by omega
              have hRz : fq < nb := by omega
              have hkd := HKD.out c x hx
              have hkid : Hid (∀ (j : Nat) (y : Int), x.l[j]? = some y → ∃ d : Nat, y = (d : Int) ∧ d < L.length ∧ d < f.ns.length) := fun j y hy => by
                have h1 := hkd.2 j y hy
                obtain ⟨d, rfl⟩ := Int.eq_ofNat_of_zero_le h1.1
                exact ⟨d, rfl, by rw [HLL.out]; omega, by omega⟩
              have hx16 : x.l.length ≤ 16 := hkd.1
              have HFI : Hid (FL[i]? = some ⟨x.op, x.n, x.l.map place⟩) := by
                show _ = _
                rw [← HFLE.out, HFL.out, List.getElem?_map, HLB.out, e1]
                simp [hx]
              have HRk : Hid (∀ wx, Below wn.heap.size wn wx → RO wx fq f.ps nx da dc) := fun wx h => hRn.below h
              clear hkd
              obtain ⟨i0, hi0, hz0, hz1, hz2⟩ := info_partsS int_info
              go_wp2_with fail
              have hmbr : wn.heap.size < wm.heap.size := by omega
              have hrwn : Hid (Below wn.heap.size wn wm) := hbm
              generalize wn.heap.size = mb at *
              go_loopw [14] (fun ix wr => ∃ (jj : Nat) (ks : List Int) (la : Option Addr) (lc : Nat), ix = .int .i64 (jj : Nat) ∧ jj ≤ x.l.length ∧ ks = (x.l.take jj).map place ∧ Blk wr mb 59 [.int .i64 x.op, .int .i64 x.n, .slice la ks.length lc] ∧ wr.ownsRow (mb + 1) 3 1 (.slice la ks.length lc) ks.length (intsV ks) ∧ Below mb wm wr) (fun ix _ => x.l.length - (intOf ix).toNat)
              case atStart => exact ⟨0, [], none, 0, rfl, Nat.zero_le _, rfl, hM, row_none _ _ _ _, Below.refl _ _⟩
              case round =>
                clear hM
                obtain ⟨jj, ks, la, lc, rfl, hjj, hks, hMr, hrk, hbk⟩ := hrel
                have HKS := Lib.hid hks
                have hkl : ks.length = jj := by rw [hks, List.length_map, List.length_take]; omega
                have hkl2 : ks.length ≤ 200 := by omega
                have HKL := Lib.hid hkl
                clear hks hkl
                have hzk := hbk.size
                have hNr := hNm.below hbk (by omega)
                have hPr := hPm.below hbk (by omega)
                have n2 := hNr.c 2 rfl
                by_cases hjl : jj < x.l.length
                case' neg =>
                  have hjd : decide (jj < x.l.length) = false := by simp; omega
                  have hRr := HRk.out _ (hrwn.out.trans hbk)
                  have hjx : jj = x.l.length := by omega
                  have HKS2 : Hid (ks = x.l.map place) := by
                    show _ = _
                    rw [HKS.out, hjx, List.take_length]
                  have hok : NA.Ok wr (fq + 1) ⟨⟨x.op, x.n, ks⟩, la, lc⟩ := ⟨row_le hrk (by omega), hxr1, hxr2, fun y hy => by
                    have hy2 : y ∈ ks := hy
                    rw [HKS2.out] at hy2
                    obtain ⟨v, hv, rfl⟩ := List.mem_map.1 hy2
                    obtain ⟨jv, hjv⟩ := List.mem_iff_getElem?.1 hv
                    obtain ⟨d, rfl, hd1, -⟩ := hkid.out jv v hjv
                    exact HQR.out _ (List.mem_of_getElem? (HPLC.out d hd1))⟩
                  have HNX2 : Hid ((nx ++ [(⟨⟨x.op, x.n, ks⟩, la, lc⟩ : NA)]).map NA.nd = FL.take (i + 1)) := by
                    show _ = _
                    rw [List.map_append, HNX.out, List.take_add_one, HFI.out, HKS2.out]
                    rfl
                  have hnl : nx.length ≤ 200 := by
                    have := congrArg List.length HNX.out
                    rw [List.length_map, List.length_take] at this
                    omega
                  clear hjx
                  have m0 := hMr.c 0 rfl
                  have m1 := hMr.c 1 rfl
                  have m2 := hMr.c 2 rfl
                  have r1 := hRr.b.c 1 rfl
                  have hfq := hRr.b.lt
                  have hnw := heap_alloc_new wr (.cells #[.int .i64 x.op, .int .i64 x.n, .slice la ks.length lc] 59)
                  have hne : (Value.slice da nx.length dc).ownBlock ≠ some fq := fun e => by have := row_base hRr.rn fq e; omega
                  go_wp2_with (at_builtin; refine wpList_row _ rfl (.tmp 92) (.tmp 94) 44 59 _ 3 40 Tryz.underlying44 node_info rfl (by decide) (by decide) rfl (fq + 1) (.slice da nx.length dc) nx.length (nx.flatMap NA.cs) rfl (hRr.rn.alloc _) wr.heap.size [.int .i64 x.op, .int .i64 x.n, .slice la ks.length lc] rfl hnw rfl (by intro u hu; simp at hu; rcases hu with rfl | rfl | rfl <;> rfl) (by omega) (by simp only [World.size_alloc]; omega) ?_; intro g' cap' w8 hr8 hg8 ha8; have hf8 : Fr (fun q => (Value.slice da nx.length dc).ownBlock = some q) wr w8 := (Fr.alloc _).same (Fr.grown hg8 fun g hg => .inl hg); have hb8 := hRr.b.fr hf8 hne; have z0 := hb8.fz 1; have z1 := hb8.c 1 rfl)
                  have hpush := hRr.push ⟨⟨x.op, x.n, ks⟩, la, lc⟩ hok hf8 hr8
                  go_roundw
                  case' rel => exact ⟨i + 1, nx ++ [⟨⟨x.op, x.n, ks⟩, la, lc⟩], some ⟨g', 0, none⟩, cap', by go_num, by omega, HNX2.out, by simpa using hpush.1, hbrn.trans (((hrwn.out.trans hbk).mono (by omega)).trans (by simpa using hpush.2))⟩
                  case' measure =>
                    show L.length - ((i : Int) + 1).toNat < L.length - ((i : Nat) : Int).toNat
                    omega
                case' pos =>
                  have hjd : decide (jj < x.l.length) = true := by simp; omega
                  obtain ⟨y, hy⟩ : ∃ y, x.l[jj]? = some y := ⟨x.l[jj], List.getElem?_eq_getElem hjl⟩
                  obtain ⟨d, rfl, hd1, hd2⟩ := hkid.out jj y hy
                  obtain ⟨lg, lo, rfl, hlg, l0, -⟩ := hxi3 jj _ hy
                  have l1 := (hbk.cell (p := ⟨lg, lo + jj, none⟩) (by dsimp only; omega)).trans l0
                  have p0 := hPr.c d (arr_at (HPLC.out d hd1))
                  have m2 := hMr.c 2 rfl
                  have hne : (Value.slice la ks.length lc).ownBlock ≠ some mb := fun e => by have := row_base hrk mb e; omega
                  have hcA : ((wr.alloc (.cells #[.int .i64 (place (d : Int))] 3)).drew).cell? ⟨mb, 2, none⟩ = some (.slice la ks.length lc) := (hMr.belowAll (below_new wr (.cells #[.int .i64 (place (d : Int))] 3)).drew).c 2 rfl
                  have hzA : ((wr.alloc (.cells #[.int .i64 (place (d : Int))] 3)).drew).frozen? ⟨mb, 2, none⟩ = false := (hMr.belowAll (below_new wr (.cells #[.int .i64 (place (d : Int))] 3)).drew).fz 2
                  have hmbl := hMr.lt
                  have hdd : decide (d < L.length) = true := by simp; omega
                  have HY := Lib.hid hy
                  clear l0 hy
                  go_upto_region 23 with fail
                  go_region_law
                    ((refine step_append_lies _ (by rfl) _ _ _ (by rfl) (mb + 1) 3 i0 _ 1 8 Tryz.underlying57 hi0 hz0 hz1 hz2 rfl (by omega) (.slice la ks.length lc) ks.length (intsV ks) (by rfl) ((hrk.alloc _).drew)
                        ⟨wr.heap.size, 0, none⟩ 1 1 [.int .i64 (place (d : Int))] (by rfl) (by rfl) (World.news_of_block (cs := #[.int .i64 (place (d : Int))]) (t := 3) (fr := (0, 0)) (heap_alloc_new wr _)) (by simp [Value.oneCell'])
                        (by omega) (by unfold maxLen; omega) (by omega) (by simp; omega) (wr.heap.size + 1) (by simp) ?_; intro gg capg w8 hown8 hgrow hat hlt8; have hz8 : w8.frozen? ⟨mb, 2, none⟩ = false := (hgrow.frozen_far ⟨mb, 2, none⟩ (by simp; omega) (Ne.symm hne)).trans hzA; have hc8 : w8.cell? ⟨mb, 2, none⟩ = some (.slice la ks.length lc) := (hgrow.cell_far ⟨mb, 2, none⟩ (by simp; omega) (Ne.symm hne)).trans hcA))
                  all_goals
                    have hf8 : Fr (fun q => (Value.slice la ks.length lc).ownBlock = some q) wr w8 := ((Fr.alloc _).same Fr.drew).same (Fr.grown hgrow fun g hg => .inl hg)
                    have hM8 := (hMr.fr hf8 hne).set 2 (.slice (some ⟨gg, 0, none⟩) (ks.length + 1) capg)
                    have hfA : Fr (fun q => q = mb ∨ (Value.slice la ks.length lc).ownBlock = some q) wr (w8.setCell ⟨mb, 2, none⟩ (.slice (some ⟨gg, 0, none⟩) (ks.length + 1) capg)) := (hf8.more fun _ _ h => .inr h).same (Fr.set (.inl (.inl rfl)))
                    have hb8 : Below mb wr (w8.setCell ⟨mb, 2, none⟩ (.slice (some ⟨gg, 0, none⟩) (ks.length + 1) capg)) := hfA.toBelow mb (fun q hq e => by
                      rcases e with e | e
                      · omega
                      · have := row_base hrk q e; omega) (by omega)
                    have h9 := row_keep hown8 fun q hq _ => Below.heap_setCell w8 ⟨mb, 2, none⟩ (.slice (some ⟨gg, 0, none⟩) (ks.length + 1) capg) q (by have := row_base hown8 q hq; dsimp only; omega)
                    have HK2 : Hid (ks ++ [place (d : Int)] = (x.l.take (jj + 1)).map place) := by
                      show _ = _
                      rw [List.take_add_one, HY.out, List.map_append, ← HKS.out]
                      rfl
                    clear hcA hzA hz8 hc8 hown8 hgrow p0 l1 m2 n2 hrk hMr
                    go_wp2_with fail
                    go_roundw
                    case' rel => exact ⟨jj + 1, ks ++ [place (d : Int)], some ⟨gg, 0, none⟩, capg, by go_num, by omega, HK2.out, by simpa using hM8, by simpa [intsV] using h9, hbk.trans hb8⟩
                    case' measure =>
                      show x.l.length - ((jj : Int) + 1).toNat < x.l.length - ((jj : Nat) : Int).toNat
                      omega
end Go.Proofs.YtjendlnicbieoaaGreatDoor
