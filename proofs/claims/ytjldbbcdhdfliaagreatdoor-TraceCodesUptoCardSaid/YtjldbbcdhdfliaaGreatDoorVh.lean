/-
 Walks over package trace: reader's event.
-/
import Derived.Test.YtjldbbcdhdfliaaGreatDoorVg
namespace Go.Proofs.YtjldbbcdhdfliaaGreatDoor
open Go.RowKit Go.Sort

/-- How event ends. -/
def EvE (w : World) (rb b g : Nat) (r : Option (Ev × Int × List UInt8)) (W : World) (e : Ending) (w' : World) : Prop := (match r with
 | some (x, last', l') => (∃ v, e = .returned v ∧ IsE (fun q => W.heap.size ≤ q ∧ q < w'.heap.size) w' x v) ∧ Rdr w rb b g last' w' l'
 | none => e = Fault ∧ Below rb w w') ∧ W.grownBy w' (some rb)
theorem v15_shape : Shape (ropsOf Tryz.f58 15) v15K v15E := ⟨by kernel_rfl, by kernel_rfl⟩
theorem e8_shape : Shape (ropsOf Tryz.f58 8) e8K e8E := ⟨by kernel_rfl, by kernel_rfl⟩
theorem wrap_u8 (c : UInt8) : IntKind.i64.wrap ((c.toNat : Nat) : Int) = ((c.toNat : Nat) : Int) := IntWalk.i64_in _ (by have := u8_lt c; omega)
/-- The frame behind the statement that reads a value. -/
theorem upd_keep {a0 a : Act} (h : Upd a0 a 8 91) (_hs : 99 ≤ a0.tmps.size) (kp : ∀ t : Nat, 11 ≤ t → t < 85 → a.eval (.tmp t) = a0.eval (.tmp t)) : Upd (((a0.put (some 8) (a.eval (.tmp 8))).put (some 9) (a.eval (.tmp 9))).put (some 10) (a.eval (.tmp 10))) a 85 14 := by
 have hsz := h.size
 refine ⟨by simp [Act.put, hsz], by simp [Act.put, h.defers], fun t ht => ?_⟩
 have hev : ∀ (a : Act) (t : Nat) (ht : t < a.tmps.size), a.tmps[t]? = some (a.eval (.tmp t)) := fun a t ht => by simp [Act.eval, ht]
 by_cases hb : t < a.tmps.size
 ·have hb0 : t < a0.tmps.size := by omega
  simp only [Act.put, Array.getElem?_setIfInBounds, Array.size_setIfInBounds]
  by_cases e10 : 10 = t
  ·subst e10
   rw [hev a _ hb, if_pos rfl, if_pos hb0]
  ·rw [if_neg e10]
   by_cases e9 : 9 = t
   ·subst e9
    rw [hev a _ hb, if_pos rfl, if_pos hb0]
   ·rw [if_neg e9]
    by_cases e8 : 8 = t
    ·subst e8
     rw [hev a _ hb, if_pos rfl, if_pos hb0]
    ·rw [if_neg e8]
     by_cases hin : 11 ≤ t ∧ t < 85
     ·rw [hev a _ hb, hev a0 _ hb0, kp t hin.1 hin.2]
     ·exact h.rest t (by omega)
 ·rw [Array.getElem?_eq_none (by omega), Array.getElem?_eq_none (by simp [Act.put]; omega)]
theorem Rdr.last {w W : World} {rb b g : Nat} {last : Int} {l : List UInt8} (h : Rdr w rb b g last W l) (last' : Int) : Rdr w rb b g last' (W.setCell ⟨rb, 2, none⟩ (.int .i64 last')) l := by
 obtain ⟨o, h1, h2⟩ := h.ex
 have hne := h.ne
 have hb : Below rb W (W.setCell ⟨rb, 2, none⟩ (.int .i64 last')) := (Below.refl rb W).setCell (p := ⟨rb, 2, none⟩) (Nat.le_refl _) _
 refine ⟨⟨o, ?_, fun i c hi => (hb.cell (p := ⟨g, o + i, none⟩) hne).trans (h2 i c hi)⟩, h.bel.trans hb, hne⟩
 unfold RdB at h1 ⊢
 simp [World.setCell, Array.getElem?_modify, h1]
theorem setCell_grown2 {W : World} {rb i : Nat} {v : Value} : W.grownBy (W.setCell ⟨rb, i, none⟩ v) (some rb) :=
 ⟨rfl, rfl, rfl, by simp [World.setCell], fun j _ hj => set_farVf (q := ⟨rb, i, none⟩) (fun e => hj (by rw [e]))⟩
theorem atD_some {ls : Nat} {l l' : List UInt8} {v : Int} (h : atD ls l = some (v, l')) : -(ls : Int) ≤ v ∧ v ≤ 9223372036854775807 ∧ l'.length ≤ l.length := by
 unfold atD at h
 rcases hn : numO 0 0 l with _ | ⟨m, r⟩
 ·rw [hn] at h
  cases h
 ·rw [hn] at h
  unfold atG at h
  dsimp only at h
  split at h
  ·injection h with h
   injection h with hv hr
   have := congrArg List.length (num_iff.1 hn).1
   simp at this
   subst hr
   omega
  ·cases h
theorem gnil0 (w : World) : (binOp .neq 123 (.func (.func 69) #[] #[]) Value.nilFunc).run Tryz.prog w = .ok (.bool true) w := by kernel_rfl
theorem gnil1 (w : World) : (binOp .neq 123 (.func (.func 70) #[] #[]) Value.nilFunc).run Tryz.prog w = .ok (.bool true) w := by kernel_rfl
theorem gnil2 (w : World) : (binOp .neq 123 (.func (.func 71) #[] #[]) Value.nilFunc).run Tryz.prog w = .ok (.bool true) w := by kernel_rfl
theorem gnil3 (w : World) : (binOp .neq 123 (.func (.func 72) #[] #[]) Value.nilFunc).run Tryz.prog w = .ok (.bool true) w := by kernel_rfl
theorem gnil4 (w : World) : (binOp .neq 123 Value.nilFunc Value.nilFunc).run Tryz.prog w = .ok (.bool false) w := by kernel_rfl
/-- What stands in event's loop. -/
structure EL (w : World) (rb b g : Nat) (st : Int) (W1 : World) (xb : Nat) (ra : Option Addr) (rl : List Nat) (y : Ev) (kk nn : Int) (a : Option Addr) (len cap : Nat) (l : List UInt8) (W : World) : Prop where
 rd : Rdr w rb b g st W l
 gr : W1.grownBy W (some rb)
 ev : BE W xb (evC y kk nn a len cap)
 iv : IsV (fun q => W1.heap.size ≤ q ∧ q < W.heap.size ∧ q ≠ xb) W y.v (.agg #[.int .i64 kk, .int .i64 nn, .slice a len cap])
 rg : RngE y
 rw : RowM W rl (.slice ra rl.length rl.length)
 hx : W1.heap.size ≤ xb
 hr : rb < W1.heap.size
section
variable {w W W' W1 : World} {rb b g xb : Nat} {st : Int} {ra : Option Addr} {rl : List Nat} {y : Ev} {kk nn : Int} {a : Option Addr} {len cap : Nat} {l l' : List UInt8}
theorem EL.tabc (h : EL w rb b g st W1 xb ra rl y kk nn a len cap l W) : W.cell? ⟨rb, 1, none⟩ = some (.pointer (some ⟨b, 0, none⟩)) := by
 obtain ⟨o, hB, _⟩ := h.rd.ex
 unfold RdB at hB
 simp [World.cell?, hB]
theorem EL.rowR (h : EL w rb b g st W1 xb ra rl y kk nn a len cap l W) (hne : ∀ q, q < W.heap.size → q ≠ rb → W'.heap[q]? = W.heap[q]?) : RowM W' rl (.slice ra rl.length rl.length) := by
 rcases h.rw with h1 | ⟨h1, q, h2, h3⟩
 ·exact .inl h1
 ·refine .inr ⟨h1, q, h2, (hne q (lt_of_heap h3) ?_).trans h3⟩
  intro e
  subst e
  obtain ⟨o, hB, _⟩ := h.rd.ex
  unfold RdB at hB
  rw [hB] at h3
  injection h3 with h3
  injection h3 with _ h3 _
  exact absurd h3 (by decide)
theorem EL.rowX (h : EL w rb b g st W1 xb ra rl y kk nn a len cap l W) (hne : ∀ q, q ≠ xb → W'.heap[q]? = W.heap[q]?) : RowM W' rl (.slice ra rl.length rl.length) := by
 rcases h.rw with h1 | ⟨h1, q, h2, h3⟩
 ·exact .inl h1
 ·refine .inr ⟨h1, q, h2, (hne q ?_).trans h3⟩
  intro e
  subst e
  have hB := h.ev
  unfold BE at hB
  rw [hB] at h3
  injection h3 with h3
  injection h3 with _ h3 _
  exact absurd h3 (by decide)
theorem EL.grown (h : EL w rb b g st W1 xb ra rl y kk nn a len cap l W) (hg : W.grownBy W' (some rb)) (hR : Rdr w rb b g st W' l') : EL w rb b g st W1 xb ra rl y kk nn a len cap l' W' := by
 have h1 := h.hx
 have h2 := h.hr
 have hne : ∀ q, q < W.heap.size → q ≠ rb → W'.heap[q]? = W.heap[q]? := fun q hq hn => hg.block q hq (by intro e; injection e; omega)
 exact ⟨hR, h.gr.trans hg, (hne xb h.ev.lt (by omega)).trans h.ev, (h.iv.keep fun q hq _ => World.cell?_of_block (w := W) (hne q hq.2.1 (by omega))).more fun q hq => ⟨hq.1, Nat.lt_of_lt_of_le hq.2.1 hg.size, hq.2.2⟩, h.rg, h.rowR hne, h1, h2⟩
theorem EL.below (h : EL w rb b g st W1 xb ra rl y kk nn a len cap l W) (hb : Below W.heap.size W W') : EL w rb b g st W1 xb ra rl y kk nn a len cap l W' := h.grown (grown_of hb) (h.rd.belowB hb h.rd.lt)
theorem EL.turn {y' : Ev} {kk' nn' : Int} {a' : Option Addr} {len' cap' : Nat} (h : EL w rb b g st W1 xb ra rl y kk nn a len cap l W) (hb : Below xb W W') (hsz : W'.heap.size = W.heap.size) (hne : ∀ q, q ≠ xb → W'.heap[q]? = W.heap[q]?)
  (he : BE W' xb (evC y' kk' nn' a' len' cap')) (hv : IsV (fun q => W1.heap.size ≤ q ∧ q < W.heap.size ∧ q ≠ xb) W y'.v (.agg #[.int .i64 kk', .int .i64 nn', .slice a' len' cap'])) (hr : RngE y') : EL w rb b g st W1 xb ra rl y' kk' nn' a' len' cap' l W' :=
 ⟨h.rd.belowB hb (Nat.lt_of_lt_of_le h.hr h.hx), grown_below h.gr hb h.hx, he, (hv.keep fun q hq _ => World.cell?_of_block (w := W) (hne q hq.2.2)).more fun _ hq => ⟨hq.1, by rw [hsz]; exact hq.2.1, hq.2.2⟩, hr, h.rowX hne, h.hx, h.hr⟩
theorem EL.set (h : EL w rb b g st W1 xb ra rl y kk nn a len cap l W) (i : Nat) (hi : i < 4) (n : Int) (hn : Rng n) : EL w rb b g st W1 xb ra rl (setF y i n) kk nn a len cap l (W.setCell ⟨xb, 3 + i, none⟩ (.int .i64 n)) := by
 have hev := h.ev
 unfold BE at hev
 refine h.turn ((Below.refl xb W).setCell (p := ⟨xb, 3 + i, none⟩) (Nat.le_refl _) _) (by simp [World.setCell]) (fun q hq => Below.heap_setCell _ _ _ _ hq) ?_ ?_ ?_
 ·unfold BE
  match i, hi with
  | 0, _ | 1, _ | 2, _ | 3, _ => simp [World.setCell, Array.getElem?_modify, hev, evC, setF]
 ·match i, hi with
  | 0, _ | 1, _ | 2, _ | 3, _ => exact h.iv
 ·obtain ⟨r1, r2, r3, r4, r5, r6, r7⟩ := h.rg
  match i, hi with
  | 0, _ => exact ⟨r1, r2, r3, hn, r5, r6, r7⟩
  | 1, _ => exact ⟨r1, r2, r3, r4, hn, r6, r7⟩
  | 2, _ => exact ⟨r1, r2, r3, r4, r5, hn, r7⟩
  | 3, _ => exact ⟨r1, r2, r3, r4, r5, r6, hn⟩
theorem EL.setV {t : VT} {kk' nn' : Int} {a' : Option Addr} {len' cap' : Nat} (h : EL w rb b g st W1 xb ra rl y kk nn a len cap l W) (hv : IsV (fun q => W1.heap.size ≤ q ∧ q < W.heap.size ∧ q ≠ xb) W t (.agg #[.int .i64 kk', .int .i64 nn', .slice a' len' cap'])) :
  EL w rb b g st W1 xb ra rl { y with v := t } kk' nn' a' len' cap' l (((W.setCell ⟨xb, 7, none⟩ (.int .i64 kk')).setCell ⟨xb, 8, none⟩ (.int .i64 nn')).setCell ⟨xb, 9, none⟩ (.slice a' len' cap')) := by
 have hev := h.ev
 unfold BE at hev
 refine h.turn ((((Below.refl xb W).setCell (p := ⟨xb, 7, none⟩) (Nat.le_refl _) _).setCell (p := ⟨xb, 8, none⟩) (Nat.le_refl _) _).setCell (p := ⟨xb, 9, none⟩) (Nat.le_refl _) _) (by simp [World.setCell]) (fun q hq => ((Below.heap_setCell _ _ _ _ hq).trans (Below.heap_setCell _ _ _ _ hq)).trans (Below.heap_setCell _ _ _ _ hq)) ?_ hv ?_
 ·unfold BE
  simp [World.setCell, Array.getElem?_modify, hev, evC]
 ·obtain ⟨r1, r2, r3, r4, r5, r6, r7⟩ := h.rg
  exact ⟨r1, r2, r3, r4, r5, r6, r7⟩
end
set_option maxRecDepth 100000 in
set_option maxHeartbeats 8000000 in
theorem rdrEvent_any (w : World) (rb b mb g : Nat) (last : Int) (h0 : 0 ≤ last) (h1 : last ≤ 9223372036854775807) (l : List UInt8) (hl : l.length ≤ 100000000) (hb : b < rb) (hmb : mb < rb) (h5 : 5 ≤ rb) (hT : TabT w b mb) (hE : EnvT w) (W : World) (h : Rdr w rb b g last W l) : Calls Tryz.prog 58 #[.pointer (some ⟨rb, 0, none⟩)] W (EvE w rb b g (evD last l) W) := by
 obtain ⟨R, hR⟩ : ∃ R, evD last l = R := ⟨_, rfl⟩
 have HR := Lib.hid hR
 rw [hR]
 clear hR
 have hlt := h.lt
 have hba := below_alloc W (.cells zeroC 29)
 have hres : BE (W.alloc (.cells zeroC 29)) W.heap.size zeroC := heap_alloc_new _ _
 have hrd1 := h.belowB hba hlt
 have hgr1 : W.grownBy (W.alloc (.cells zeroC 29)) (some rb) := grown_of hba
 have hcut := cutE_any w rb b g 1 last l hl (by decide) _ hrd1
 have hsz1 : (W.alloc (.cells zeroC 29)).heap.size = W.heap.size + 1 := by simp
 unfold zeroC at hcut hres hrd1 hgr1 hsz1
 have HRES := Lib.hid hres
 have HRD := Lib.hid hrd1
 have HGR := Lib.hid hgr1
 clear hba hres hrd1 hgr1 h
 go_enter Tryz.func58, Tryz.ntmps58
 go_wp2_with fail
 generalize W.alloc (.cells #[.int .i64 0, .int .i64 0, .int .i64 0, .int .i64 0, .int .i64 0, .int .i64 0, .int .i64 0, .int .i64 0, .int .i64 0, .slice none 0 0] 29) = W1 at *
 refine hcut.mono ?_
 clear hcut
 intro e w2 he
 unfold CutE at he
 rcases l with _ | ⟨c, l⟩
 ·rw [if_neg (by simp)] at he
  obtain ⟨rfl, rfl⟩ := he
  obtain rfl : R = none := HR.out.symm
  exact ⟨rfl, ⟨rfl, HRD.out.bel⟩, HGR.out⟩
 ·rw [if_pos (by simp)] at he
  obtain ⟨⟨o, rfl, hc⟩, hrd2, hg2⟩ := he
  have hgr2 := hg2
  have hwc := wrap_u8 c
  obtain ⟨k, hk⟩ : ∃ k : Int, ((c.toNat : Nat) : Int) = k := ⟨_, rfl⟩
  have c0 : w2.cell? ⟨g, o, none⟩ = some (.int .u8 (c.toNat : Nat)) := hc 0 c (by simp)
  have hrk : Rng k := by have := u8_lt c; unfold Rng; omega
  rw [hk] at hwc c0
  clear HRD hg2 hc
  have hll : l.length ≤ 100000000 := by simp at hl; omega
  have hl3 : evD last (c :: l) = if hasE k = true then evT last k (atD 0 l) else none := by rw [evD, hk]
  have HR2 := Lib.hid (hl3.symm.trans HR.out)
  clear HR hl3 hl hk
  go_upto_region 2 with fail
  have hb3 := below_alloc w2 (.cells #[.int .i64 k, .int .i64 0, .int .i64 0, .int .i64 0, .int .i64 0, .int .i64 0, .int .i64 0, .int .i64 0, .int .i64 0, .slice none 0 0] 29)
  have hev3 : BE (w2.alloc (.cells #[.int .i64 k, .int .i64 0, .int .i64 0, .int .i64 0, .int .i64 0, .int .i64 0, .int .i64 0, .int .i64 0, .int .i64 0, .slice none 0 0] 29)) w2.heap.size #[.int .i64 k, .int .i64 0, .int .i64 0, .int .i64 0, .int .i64 0, .int .i64 0, .int .i64 0, .int .i64 0, .int .i64 0, .slice none 0 0] := heap_alloc_new _ _
  have hrd3 : Rdr w rb b g last (w2.alloc (.cells #[.int .i64 k, .int .i64 0, .int .i64 0, .int .i64 0, .int .i64 0, .int .i64 0, .int .i64 0, .int .i64 0, .int .i64 0, .slice none 0 0] 29)) l := hrd2.belowB hb3 hrd2.lt
  have hgr3 := grown_below hgr2 hb3 hgr2.size
  have hxb := hgr2.size
  clear hb3 hrd2 hgr2 c0 hwc
  generalize w2.alloc (.cells #[.int .i64 k, .int .i64 0, .int .i64 0, .int .i64 0, .int .i64 0, .int .i64 0, .int .i64 0, .int .i64 0, .int .i64 0, .slice none 0 0] 29) = w3 at *
  generalize w2.heap.size = xb at *
  have hrx : rb < xb := by omega
  have hT3 := hT.below hrd3.bel hb hmb
  have hm := hT3.mapc
  have hlk := fun n => hT3.m.lookN hrk n
  have c0 := hev3.c.1
  have c1 : w3.cell? ⟨rb, 1, none⟩ = some (.pointer (some ⟨b, 0, none⟩)) := by
   obtain ⟨oo, hB, _⟩ := hrd3.ex
   unfold RdB at hB
   simp [World.cell?, hB]
  by_cases hk : hasE k = true
  ·obtain ⟨he1, he2⟩ := word_ne hk
   have HR3 : Hid (evT last k (atD 0 l) = R) := by
    have := HR2.out
    rw [if_pos hk] at this
    exact this
   go_quiet (fail)
   go_wp2_with fail
   have hbd : Below w3.heap.size w3 (w3.drewN nq) := below_drewN (Below.refl _ _) nq
   refine (atLeast_any w rb b g last 0 (.inl rfl) l hll _ (hrd3.belowB hbd hrd3.lt)).mono ?_
   have hgr4 := grown_below hgr3 hbd hgr3.size
   have hev4 := hev3.belowAll hbd
   clear hm hlk c0 c1 he1 he2 hT3 hrd3 hgr3 hev3 hbd HR2
   rcases hd : atD 0 l with _ | ⟨d, l2⟩
   ·rintro e w4 ⟨⟨rfl, l', hl'⟩, hg⟩
    obtain rfl : R = none := by
     have := HR3.out
     rw [hd] at this
     exact this.symm
    exact ⟨rfl, ⟨rfl, hl'.bel⟩, HGR.out.trans (hgr4.trans hg)⟩
   ·rintro e w4 ⟨⟨rfl, hrd5⟩, hg⟩
    obtain ⟨hd0, hd1, hl2⟩ := atD_some hd
    have HR4 : Hid ((if 9223372036854775807 - last < d then none else evR (last + d) k (atD 0 l2)) = R) := by
     have := HR3.out
     rw [hd] at this
     exact this
    have hgr5 := hgr4.trans hg
    have hev5 := (hg.block _ hev4.lt (by intro e; injection e; omega)).trans hev4
    have c2 : w4.cell? ⟨rb, 2, none⟩ = some (.int .i64 last) := by
     obtain ⟨oo, hB, _⟩ := hrd5.ex
     unfold RdB at hB
     simp [World.cell?, hB]
    have f2 : w4.frozen? ⟨rb, 2, none⟩ = false := by
     obtain ⟨oo, hB, _⟩ := hrd5.ex
     unfold RdB at hB
     simp [World.frozen?, hB]
    have hws : IntKind.i64.wrap (9223372036854775807 - last) = 9223372036854775807 - last := IntWalk.i64_in _ (by omega)
    clear hg hgr4 hev4 HR3 hd
    by_cases hbig : 9223372036854775807 - last < d
    ·have hdb : decide (9223372036854775807 - last < d) = true := by simpa using hbig
     obtain rfl : R = none := by
      have := HR4.out
      rw [if_pos hbig] at this
      exact this.symm
     go_wp2_with fail
     refine (raise_any _).mono ?_
     rintro e w5 ⟨rfl, rfl⟩
     exact ⟨rfl, ⟨rfl, hrd5.bel⟩, HGR.out.trans hgr5⟩
    ·have hdb : decide (9223372036854775807 - last < d) = false := by simpa using hbig
     have HR5 : Hid (evR (last + d) k (atD 0 l2) = R) := by
      have := HR4.out
      rw [if_neg hbig] at this
      exact this
     have hwa : IntKind.i64.wrap (last + d) = last + d := IntWalk.i64_in _ (by omega)
     clear HR4
     go_upto_region 8 with fail
     have hrd6 := hrd5.last (last + d)
     have hgr6 := hgr5.trans (setCell_grown2 (W := w4) (rb := rb) (i := 2) (v := .int .i64 (last + d)))
     have hev6 := BE.far hev5 (q := ⟨rb, 2, none⟩) (by simp; omega) (.int .i64 (last + d))
     clear hrd5 hgr5 hev5 c2 f2 hws hdb hwa
     generalize w4.setCell ⟨rb, 2, none⟩ (.int .i64 (last + d)) = w6 at *
     obtain ⟨st, hst⟩ : ∃ st, last + d = st := ⟨_, rfl⟩
     have hst0 : Rng st := by unfold Rng; omega
     have HR6 : Hid (evR st k (atD 0 l2) = R) := by
      show _ = _
      rw [← HR5.out, hst]
     rw [hst] at hrd6 ⊢
     clear hst HR5
     obtain ⟨th, l3, he0⟩ : ∃ th l3, ∀ v r, atD 0 l2 = some (v, r) → v = th ∧ r = l3 := by
      rcases hx : atD 0 l2 with _ | ⟨v, r⟩
      ·exact ⟨0, [], fun v r e => by cases e⟩
      ·exact ⟨v, r, fun v' r' e => by injection e with e; injection e with e1 e2; exact ⟨e1.symm, e2.symm⟩⟩
     refine e8_region (w := w) (rb := rb) (b := b) (g := g) (last := st) (l := l2) (l3 := l3) (k := k) (th := th) (xb := xb) (w0 := W1) e8_shape (by simp) rfl rfl hrx hxb (by omega) hrd6 hgr6 hev6 he0 ?_ ?_
     ·intro a7 w7 hU hth hrd7 hgr7 hev7
      obtain ⟨ht0, ht1, hl3⟩ := atD_some hth
      obtain ⟨us, hus, rfl⟩ := hU.list (by simp)
      obtain ⟨x0, us0, e0, hus0⟩ := list_cons4 hus
      subst e0
      obtain ⟨x1, us1, e1, hus1⟩ := list_cons4 hus0
      subst e1
      obtain ⟨x2, us2, e2, hus2⟩ := list_cons4 hus1
      subst e2
      obtain ⟨x3, us3, e3, hus3⟩ := list_cons4 hus2
      subst e3
      obtain ⟨x4, us4, e4, hus4⟩ := list_cons4 hus3
      subst e4
      obtain ⟨x5, us5, e5, hus5⟩ := list_cons4 hus4
      subst e5
      obtain ⟨x6, us6, e6, hus6⟩ := list_cons4 hus5
      subst e6
      obtain ⟨x7, us7, e7, hus7⟩ := list_cons4 hus6
      subst e7
      have en := List.eq_nil_of_length_eq_zero hus7
      subst en
      have HR7 : Hid (evW st (rowD { k := k, st := st, th := th, sy := 0, br := 0, pa := 0, n := 0, v := zeroT } (rowE k) l3) = R) := by
       have := HR6.out
       rw [hth] at this
       exact this
      clear hU hus he0 hth HR6 hrd6 hgr6 hev6
      simp only [List.take_succ_cons, List.take_zero, List.drop_succ_cons, List.drop_zero, List.cons_append, List.nil_append]
      clear hus0 hus1 hus2 hus3 hus4 hus5 hus6 hus7
      have c0 := hev7.c.1
      go_wp2_with fail
      refine (row_any k _).mono ?_
      rintro e w8 ⟨⟨rv, rfl, hrow, hrg⟩, hb8⟩
      obtain ⟨ra, rfl⟩ := hrow.form
      have hrd8 := hrd7.belowB hb8 hrd7.lt
      have hgr8 := grown_below hgr7 hb8 hgr7.size
      have hev8 := hev7.belowAll hb8
      obtain ⟨rl, hrl⟩ : ∃ rl, rowE k = rl := ⟨_, rfl⟩
      have HRL := Lib.hid (row_lt k)
      have HRW := Lib.hid hrl
      have hll5 : rl.length ≤ 5 := by rw [← hrl]; exact row_len k
      rw [hrl] at hrow ⊢
      have r0 : Rng 0 := by unfold Rng; omega
      have rth : Rng th := by unfold Rng; omega
      have hel0 : EL w rb b g st W1 xb ra rl { k := k, st := st, th := th, sy := 0, br := 0, pa := 0, n := 0, v := zeroT } 0 0 none 0 0 l3 w8 := ⟨hrd8, hgr8, hev8, IsV_zero _ _, ⟨hrk, hst0, rth, r0, r0, r0, r0⟩, hrow, hxb, by omega⟩
      have hl38 : l3.length ≤ 100000000 := by omega
      obtain ⟨RR, hrr⟩ : ∃ RR, rowD { k := k, st := st, th := th, sy := 0, br := 0, pa := 0, n := 0, v := zeroT } rl l3 = RR := ⟨_, rfl⟩
      have HRR := Lib.hid hrr
      have HR8 : Hid (evW st RR = R) := by
       show _ = _
       rw [← HR7.out, hrl, hrr]
      clear HR7 hrl hrr hrd7 hgr7 hev7 hrd8 hgr8 hev8 hrow hrg hb8 c0
      go_wp2_with fail
      go_loopw [61] (fun i wr => ∃ (j : Nat) (y : Ev) (kk nn : Int) (a : Option Addr) (len cap : Nat) (l4 : List UInt8), i = .int .i64 (j : Nat) ∧ j ≤ rl.length ∧ EL w rb b g st W1 xb ra rl y kk nn a len cap l4 wr ∧ l4.length ≤ 100000000 ∧ rowD y (rl.drop j) l4 = RR) (fun i _ => rl.length - (intOf i).toNat)
      case atStart => exact ⟨0, _, _, _, _, _, _, _, rfl, Nat.zero_le _, hel0, hl38, HRR.out⟩
      case round =>
       clear hel0
       obtain ⟨j, y, kk, nn, a, len, cap, l4, rfl, hj, hel, hl4, hro⟩ := hrel
       have HRO := Lib.hid hro
       clear hro
       by_cases hlt2 : j < rl.length
       ·have hd3 : decide (j < rl.length) = true := by simpa using hlt2
        obtain ⟨gq, hra, hgq, hc⟩ := hel.rw.at_ hlt2
        have hi5 : rl[j] < 5 := HRL.out _ (by rw [HRW.out]; exact List.getElem_mem _)
        subst hra
        obtain ⟨i, hi⟩ : ∃ i, rl[j] = i := ⟨_, rfl⟩
        rw [hi] at hc hi5
        have HCO : Hid (rowN (rl.drop (j + 1)) (fldD y i l4) = RR) := by
         show _ = _
         rw [← HRO.out, List.drop_eq_getElem_cons hlt2, hi, rowD_cons]
        clear hi HRO
        have hTr := hT.below hel.rd.bel hb hmb
        obtain ⟨t0, t1, t2, t3, t4, t5, t6, t7, t8, t9, t10, t11, t12, t13, t14⟩ := hTr.cells
        have cb := hel.tabc
        have h5i : i = 0 ∨ i = 1 ∨ i = 2 ∨ i = 3 ∨ i = 4 := by omega
        rcases h5i with rfl | rfl | rfl | rfl | rfl
        ·go_upto_region 13 with fail
         have hbf := below_alloc wr (.cells #[.string ⟨#[115, 121, 110, 99]⟩, .int .i64 0, .func (.func 69) #[] #[]] 125)
         have hel2 := hel.below hbf
         have hff := heap_alloc_new wr (.cells #[.string ⟨#[115, 121, 110, 99]⟩, .int .i64 0, .func (.func 69) #[] #[]] 125)
         clear hel t0 t1 t2 t3 t4 t5 t6 t7 t8 t9 t10 t11 t12 t13 t14 hc hgq cb hbf hTr
         generalize wr.alloc (.cells #[.string ⟨#[115, 121, 110, 99]⟩, .int .i64 0, .func (.func 69) #[] #[]] 125) = wf at *
         generalize wr.heap.size = fb at *
         have f1 : wf.cell? ⟨fb, 1, none⟩ = some (.int .i64 0) := by simp [World.cell?, hff]
         have f2 : wf.cell? ⟨fb, 2, none⟩ = some (.func (.func 69) #[] #[]) := by simp [World.cell?, hff]
         have hnf := gnil0
         go_upto_region 14 with fail
         have hen := enters_of Tryz.func69 (by kernel_rfl) rfl
         go_still_tail 6, (by kernel_rfl)
         still_call (Calls.mono (at0_any _ _) (fun _ _ h => ⟨h.1, h.2.symm⟩))
         repeat still_step
         refine wpStill_nil ?_
         have hel3 := hel2.below (W' := wf.drew) ⟨rfl, rfl, rfl, Nat.le_refl _, fun _ _ => rfl⟩
         have HF : Hid (fldD y 0 l4 = fldS y 0 (atD 0 l4)) := fldD_num y 0 l4 (by decide)
         have hal := atLeast_any w rb b g st 0 (.inl rfl) l4 hl4 _ hel3.rd
         clear hel2 hnf f1 f2 hff hen
         go_wp2_with fail
         refine hal.mono ?_
         clear hal
         rcases hN : atD 0 l4 with _ | ⟨v, l5⟩
         ·rintro e w4 ⟨⟨rfl, l', hl'⟩, hg⟩
          obtain rfl : RR = none := by
           have := HCO.out
           rw [HF.out, hN] at this
           exact this.symm
          obtain rfl : R = none := HR8.out.symm
          exact ⟨rfl, ⟨rfl, hl'.bel⟩, HGR.out.trans (hel3.gr.trans hg)⟩
         ·rintro e w4 ⟨⟨rfl, hrd4⟩, hg⟩
          obtain ⟨hv0, hv1, hv2⟩ := atD_some hN
          have hel4 := hel3.grown hg hrd4
          have hrv : Rng v := by unfold Rng; omega
          have hel5 := hel4.set 0 (by omega) v hrv
          have HF2 : Hid (rowD (setF y 0 v) (rl.drop (j + 1)) l5 = RR) := by show _ = _; rw [← HCO.out, HF.out, hN]; rfl
          have q0 := (BE.c hel4.ev).2.2.2.1
          have q1 := hel4.ev.fz 3
          have hl5 : l5.length ≤ 100000000 := by omega
          clear hN hel3 hel4 hg HF HCO hrd4
          go_wp2_with fail
          go_roundw
          case rel => first | exact ⟨j + 1, setF y 0 v, kk, nn, a, len, cap, l5, by go_num, by omega, hel5, hl5, HF2.out⟩ | ((repeat apply Exists.intro); exact ⟨⟨j + 1, setF y 0 v, kk, nn, a, len, cap, l5, by go_num, by omega, hel5, hl5, HF2.out⟩, rfl⟩)
          case measure => simp [intOf]; omega
        ·go_upto_region 13 with fail
         have hbf := below_alloc wr (.cells #[.string ⟨#[98, 114, 97, 110, 99, 104]⟩, .int .i64 0, .func (.func 70) #[] #[]] 125)
         have hel2 := hel.below hbf
         have hff := heap_alloc_new wr (.cells #[.string ⟨#[98, 114, 97, 110, 99, 104]⟩, .int .i64 0, .func (.func 70) #[] #[]] 125)
         clear hel t0 t1 t2 t3 t4 t5 t6 t7 t8 t9 t10 t11 t12 t13 t14 hc hgq cb hbf hTr
         generalize wr.alloc (.cells #[.string ⟨#[98, 114, 97, 110, 99, 104]⟩, .int .i64 0, .func (.func 70) #[] #[]] 125) = wf at *
         generalize wr.heap.size = fb at *
         have f1 : wf.cell? ⟨fb, 1, none⟩ = some (.int .i64 0) := by simp [World.cell?, hff]
         have f2 : wf.cell? ⟨fb, 2, none⟩ = some (.func (.func 70) #[] #[]) := by simp [World.cell?, hff]
         have hnf := gnil1
         go_upto_region 14 with fail
         have hen := enters_of Tryz.func70 (by kernel_rfl) rfl
         go_still_tail 6, (by kernel_rfl)
         still_call (Calls.mono (at1_any _ _) (fun _ _ h => ⟨h.1, h.2.symm⟩))
         repeat still_step
         refine wpStill_nil ?_
         have hel3 := hel2.below (W' := wf.drew) ⟨rfl, rfl, rfl, Nat.le_refl _, fun _ _ => rfl⟩
         have HF : Hid (fldD y 1 l4 = fldS y 1 (atD 0 l4)) := fldD_num y 1 l4 (by decide)
         have hal := atLeast_any w rb b g st 0 (.inl rfl) l4 hl4 _ hel3.rd
         clear hel2 hnf f1 f2 hff hen
         go_wp2_with fail
         refine hal.mono ?_
         clear hal
         rcases hN : atD 0 l4 with _ | ⟨v, l5⟩
         ·rintro e w4 ⟨⟨rfl, l', hl'⟩, hg⟩
          obtain rfl : RR = none := by
           have := HCO.out
           rw [HF.out, hN] at this
           exact this.symm
          obtain rfl : R = none := HR8.out.symm
          exact ⟨rfl, ⟨rfl, hl'.bel⟩, HGR.out.trans (hel3.gr.trans hg)⟩
         ·rintro e w4 ⟨⟨rfl, hrd4⟩, hg⟩
          obtain ⟨hv0, hv1, hv2⟩ := atD_some hN
          have hel4 := hel3.grown hg hrd4
          have hrv : Rng v := by unfold Rng; omega
          have hel5 := hel4.set 1 (by omega) v hrv
          have HF2 : Hid (rowD (setF y 1 v) (rl.drop (j + 1)) l5 = RR) := by show _ = _; rw [← HCO.out, HF.out, hN]; rfl
          have q0 := (BE.c hel4.ev).2.2.2.2.1
          have q1 := hel4.ev.fz 4
          have hl5 : l5.length ≤ 100000000 := by omega
          clear hN hel3 hel4 hg HF HCO hrd4
          go_wp2_with fail
          go_roundw
          case rel => first | exact ⟨j + 1, setF y 1 v, kk, nn, a, len, cap, l5, by go_num, by omega, hel5, hl5, HF2.out⟩ | ((repeat apply Exists.intro); exact ⟨⟨j + 1, setF y 1 v, kk, nn, a, len, cap, l5, by go_num, by omega, hel5, hl5, HF2.out⟩, rfl⟩)
          case measure => simp [intOf]; omega
        ·go_upto_region 13 with fail
         have hbf := below_alloc wr (.cells #[.string ⟨#[112, 97, 114, 116, 110, 101, 114]⟩, .int .i64 (-1), .func (.func 71) #[] #[]] 125)
         have hel2 := hel.below hbf
         have hff := heap_alloc_new wr (.cells #[.string ⟨#[112, 97, 114, 116, 110, 101, 114]⟩, .int .i64 (-1), .func (.func 71) #[] #[]] 125)
         clear hel t0 t1 t2 t3 t4 t5 t6 t7 t8 t9 t10 t11 t12 t13 t14 hc hgq cb hbf hTr
         generalize wr.alloc (.cells #[.string ⟨#[112, 97, 114, 116, 110, 101, 114]⟩, .int .i64 (-1), .func (.func 71) #[] #[]] 125) = wf at *
         generalize wr.heap.size = fb at *
         have f1 : wf.cell? ⟨fb, 1, none⟩ = some (.int .i64 (-1)) := by simp [World.cell?, hff]
         have f2 : wf.cell? ⟨fb, 2, none⟩ = some (.func (.func 71) #[] #[]) := by simp [World.cell?, hff]
         have hnf := gnil2
         go_upto_region 14 with fail
         have hen := enters_of Tryz.func71 (by kernel_rfl) rfl
         go_still_tail 6, (by kernel_rfl)
         still_call (Calls.mono (at2_any _ _) (fun _ _ h => ⟨h.1, h.2.symm⟩))
         repeat still_step
         refine wpStill_nil ?_
         have hel3 := hel2.below (W' := wf.drew) ⟨rfl, rfl, rfl, Nat.le_refl _, fun _ _ => rfl⟩
         have HF : Hid (fldD y 2 l4 = fldS y 2 (atD 1 l4)) := fldD_num y 2 l4 (by decide)
         have hal := atLeast_any w rb b g st 1 (.inr rfl) l4 hl4 _ hel3.rd
         clear hel2 hnf f1 f2 hff hen
         go_wp2_with fail
         refine hal.mono ?_
         clear hal
         rcases hN : atD 1 l4 with _ | ⟨v, l5⟩
         ·rintro e w4 ⟨⟨rfl, l', hl'⟩, hg⟩
          obtain rfl : RR = none := by
           have := HCO.out
           rw [HF.out, hN] at this
           exact this.symm
          obtain rfl : R = none := HR8.out.symm
          exact ⟨rfl, ⟨rfl, hl'.bel⟩, HGR.out.trans (hel3.gr.trans hg)⟩
         ·rintro e w4 ⟨⟨rfl, hrd4⟩, hg⟩
          obtain ⟨hv0, hv1, hv2⟩ := atD_some hN
          have hel4 := hel3.grown hg hrd4
          have hrv : Rng v := by unfold Rng; omega
          have hel5 := hel4.set 2 (by omega) v hrv
          have HF2 : Hid (rowD (setF y 2 v) (rl.drop (j + 1)) l5 = RR) := by show _ = _; rw [← HCO.out, HF.out, hN]; rfl
          have q0 := (BE.c hel4.ev).2.2.2.2.2.1
          have q1 := hel4.ev.fz 5
          have hl5 : l5.length ≤ 100000000 := by omega
          clear hN hel3 hel4 hg HF HCO hrd4
          go_wp2_with fail
          go_roundw
          case rel => first | exact ⟨j + 1, setF y 2 v, kk, nn, a, len, cap, l5, by go_num, by omega, hel5, hl5, HF2.out⟩ | ((repeat apply Exists.intro); exact ⟨⟨j + 1, setF y 2 v, kk, nn, a, len, cap, l5, by go_num, by omega, hel5, hl5, HF2.out⟩, rfl⟩)
          case measure => simp [intOf]; omega
        ·go_upto_region 13 with fail
         have hbf := below_alloc wr (.cells #[.string ⟨#[110]⟩, .int .i64 0, .func (.func 72) #[] #[]] 125)
         have hel2 := hel.below hbf
         have hff := heap_alloc_new wr (.cells #[.string ⟨#[110]⟩, .int .i64 0, .func (.func 72) #[] #[]] 125)
         clear hel t0 t1 t2 t3 t4 t5 t6 t7 t8 t9 t10 t11 t12 t13 t14 hc hgq cb hbf hTr
         generalize wr.alloc (.cells #[.string ⟨#[110]⟩, .int .i64 0, .func (.func 72) #[] #[]] 125) = wf at *
         generalize wr.heap.size = fb at *
         have f1 : wf.cell? ⟨fb, 1, none⟩ = some (.int .i64 0) := by simp [World.cell?, hff]
         have f2 : wf.cell? ⟨fb, 2, none⟩ = some (.func (.func 72) #[] #[]) := by simp [World.cell?, hff]
         have hnf := gnil3
         go_upto_region 14 with fail
         have hen := enters_of Tryz.func72 (by kernel_rfl) rfl
         go_still_tail 6, (by kernel_rfl)
         still_call (Calls.mono (at3_any _ _) (fun _ _ h => ⟨h.1, h.2.symm⟩))
         repeat still_step
         refine wpStill_nil ?_
         have hel3 := hel2.below (W' := wf.drew) ⟨rfl, rfl, rfl, Nat.le_refl _, fun _ _ => rfl⟩
         have HF : Hid (fldD y 3 l4 = fldS y 3 (atD 0 l4)) := fldD_num y 3 l4 (by decide)
         have hal := atLeast_any w rb b g st 0 (.inl rfl) l4 hl4 _ hel3.rd
         clear hel2 hnf f1 f2 hff hen
         go_wp2_with fail
         refine hal.mono ?_
         clear hal
         rcases hN : atD 0 l4 with _ | ⟨v, l5⟩
         ·rintro e w4 ⟨⟨rfl, l', hl'⟩, hg⟩
          obtain rfl : RR = none := by
           have := HCO.out
           rw [HF.out, hN] at this
           exact this.symm
          obtain rfl : R = none := HR8.out.symm
          exact ⟨rfl, ⟨rfl, hl'.bel⟩, HGR.out.trans (hel3.gr.trans hg)⟩
         ·rintro e w4 ⟨⟨rfl, hrd4⟩, hg⟩
          obtain ⟨hv0, hv1, hv2⟩ := atD_some hN
          have hel4 := hel3.grown hg hrd4
          have hrv : Rng v := by unfold Rng; omega
          have hel5 := hel4.set 3 (by omega) v hrv
          have HF2 : Hid (rowD (setF y 3 v) (rl.drop (j + 1)) l5 = RR) := by show _ = _; rw [← HCO.out, HF.out, hN]; rfl
          have q0 := (BE.c hel4.ev).2.2.2.2.2.2.1
          have q1 := hel4.ev.fz 6
          have hl5 : l5.length ≤ 100000000 := by omega
          clear hN hel3 hel4 hg HF HCO hrd4
          go_wp2_with fail
          go_roundw
          case rel => first | exact ⟨j + 1, setF y 3 v, kk, nn, a, len, cap, l5, by go_num, by omega, hel5, hl5, HF2.out⟩ | ((repeat apply Exists.intro); exact ⟨⟨j + 1, setF y 3 v, kk, nn, a, len, cap, l5, by go_num, by omega, hel5, hl5, HF2.out⟩, rfl⟩)
          case measure => simp [intOf]; omega
        ·go_upto_region 13 with fail
         have hbf := below_alloc wr (.cells #[.string ⟨#[118, 97, 108]⟩, .int .i64 0, Value.nilFunc] 125)
         have hel2 := hel.below hbf
         have hff := heap_alloc_new wr (.cells #[.string ⟨#[118, 97, 108]⟩, .int .i64 0, Value.nilFunc] 125)
         clear hel t0 t1 t2 t3 t4 t5 t6 t7 t8 t9 t10 t11 t12 t13 t14 hc hgq cb hbf hTr
         generalize wr.alloc (.cells #[.string ⟨#[118, 97, 108]⟩, .int .i64 0, Value.nilFunc] 125) = wf at *
         generalize wr.heap.size = fb at *
         have f1 : wf.cell? ⟨fb, 1, none⟩ = some (.int .i64 0) := by simp [World.cell?, hff]
         have f2 : wf.cell? ⟨fb, 2, none⟩ = some (Value.nilFunc) := by simp [World.cell?, hff]
         have hnf := gnil4
         go_upto_region 15 with fail
         obtain ⟨n, r1, he0⟩ : ∃ n r1, ∀ v r, numO 0 0 l4 = some (v, r) → v = n ∧ r = r1 := by
          rcases hx : numO 0 0 l4 with _ | ⟨v, r⟩
          ·exact ⟨0, [], fun v r e => by cases e⟩
          ·exact ⟨v, r, fun v' r' e => by injection e with e; injection e with e1 e2; exact ⟨e1.symm, e2.symm⟩⟩
         have hrw : rb < wf.heap.size := hel2.rd.lt
         refine v15_region (w := w) (rb := rb) (b := b) (g := g) (last := st) (l := l4) (r1 := r1) (n := n) (PR := parse ⟨(r1.take n).toArray⟩) (w0 := wf) (S := ⟨(r1.take n).toArray⟩) v15_shape (by simp) rfl hrw h5 hl4 hE.env hel2.rd he0 rfl rfl ?_ ?_
         ·intro a9 w9 vb k4 n4 a4 m4 c4 hU kp k8 k9 k10 hvb hnum hnle hrd9 hg9 hbx hv9
          have hU2 := upd_keep hU (by simp) kp
          rw [k8, k9, k10] at hU2
          clear hU kp k8 k9 k10 he0
          obtain ⟨us, hus, rfl⟩ := hU2.list (by simp [Act.put])
          obtain ⟨x0, us0, e0, hus0⟩ := list_cons4 hus
          subst e0
          obtain ⟨x1, us1, e1, hus1⟩ := list_cons4 hus0
          subst e1
          obtain ⟨x2, us2, e2, hus2⟩ := list_cons4 hus1
          subst e2
          obtain ⟨x3, us3, e3, hus3⟩ := list_cons4 hus2
          subst e3
          obtain ⟨x4, us4, e4, hus4⟩ := list_cons4 hus3
          subst e4
          obtain ⟨x5, us5, e5, hus5⟩ := list_cons4 hus4
          subst e5
          obtain ⟨x6, us6, e6, hus6⟩ := list_cons4 hus5
          subst e6
          obtain ⟨x7, us7, e7, hus7⟩ := list_cons4 hus6
          subst e7
          obtain ⟨x8, us8, e8, hus8⟩ := list_cons4 hus7
          subst e8
          obtain ⟨x9, us9, e9, hus9⟩ := list_cons4 hus8
          subst e9
          obtain ⟨x10, us10, e10, hus10⟩ := list_cons4 hus9
          subst e10
          obtain ⟨x11, us11, e11, hus11⟩ := list_cons4 hus10
          subst e11
          obtain ⟨x12, us12, e12, hus12⟩ := list_cons4 hus11
          subst e12
          obtain ⟨x13, us13, e13, hus13⟩ := list_cons4 hus12
          subst e13
          have en := List.eq_nil_of_length_eq_zero hus13
          subst en
          clear hU2 hus
          simp only [Act.put, List.setIfInBounds_toArray, List.set_cons_succ, List.set_cons_zero, List.take_succ_cons, List.take_zero, List.drop_succ_cons, List.drop_zero, List.cons_append, List.nil_append]
          clear hus0 hus1 hus2 hus3 hus4 hus5 hus6 hus7 hus8 hus9 hus10 hus11 hus12 hus13
          have hel4 := hel2.grown hg9 hrd9
          have HF : Hid (fldD y 4 l4 = match parse ⟨(r1.take n).toArray⟩ with | .ok t => some ({ y with v := t }, r1.drop n) | .error _ => none) := by
           show _ = _
           unfold fldD
           rw [if_pos rfl, hnum]
           dsimp only
           rw [if_pos hnle]
           cases parse ⟨(r1.take n).toArray⟩ <;> rfl
          have hxw : xb < wf.heap.size := hel2.ev.lt
          have hww : W1.heap.size ≤ wf.heap.size := hel2.gr.size
          have hl5 : (r1.drop n).length ≤ 100000000 := by
           have := congrArg List.length (num_iff.1 hnum).1
           simp at this ⊢
           omega
          generalize parse ⟨(r1.take n).toArray⟩ = PR at *
          clear hel2 hnf f1 f2 hff hnum hg9 hrd9
          rcases PR with jj | t
          ·obtain rfl : RR = none := by
            have := HCO.out
            rw [HF.out] at this
            exact this.symm
           obtain rfl : R = none := HR8.out.symm
           simp only [pE, pJ, pT] at *
           clear HF HCO
           go_wp2_with fail
           refine (raise_any _).mono ?_
           rintro e w10 ⟨rfl, rfl⟩
           exact ⟨rfl, ⟨rfl, hel4.rd.bel⟩, HGR.out.trans hel4.gr⟩
          ·simp only [pE, pJ, pT] at *
           have hv10 : IsV (fun q => W1.heap.size ≤ q ∧ q < w9.heap.size ∧ q ≠ xb) w9 t (.agg #[.int .i64 k4, .int .i64 n4, .slice a4 m4 c4]) := hv9.more fun q hq => ⟨by omega, hq.2.1, by omega⟩
           have hel5 := hel4.setV hv10
           have HF2 : Hid (rowD { y with v := t } (rl.drop (j + 1)) (r1.drop n) = RR) := by show _ = _; rw [← HCO.out, HF.out]; rfl
           have v0 : w9.cell? ⟨vb, 0, none⟩ = some (.int .i64 k4) := by simp [World.cell?, hbx]
           have v1 : w9.cell? ⟨vb, 1, none⟩ = some (.int .i64 n4) := by simp [World.cell?, hbx]
           have v2 : w9.cell? ⟨vb, 2, none⟩ = some (.slice a4 m4 c4) := by simp [World.cell?, hbx]
           obtain ⟨-, -, -, -, -, -, -, q0, q1, q2⟩ := BE.c hel4.ev
           have q3 := hel4.ev.fz 7
           have q4 := hel4.ev.fz 8
           have q5 := hel4.ev.fz 9
           clear HF HCO hv9 hv10 hbx hel4
           go_wp2_with fail
           go_roundw
           case rel => first | exact ⟨j + 1, { y with v := t }, k4, n4, a4, m4, c4, r1.drop n, by go_num, by omega, hel5, hl5, HF2.out⟩ | ((repeat apply Exists.intro); exact ⟨⟨j + 1, { y with v := t }, k4, n4, a4, m4, c4, r1.drop n, by go_num, by omega, hel5, hl5, HF2.out⟩, rfl⟩)
           case measure => simp [intOf]; omega
         ·intro a9 w9 l' hdf hno hrd9 hg9
          obtain rfl : RR = none := by
           have := HCO.out
           have hf : fldD y 4 l4 = none := by
            unfold fldD
            rw [if_pos rfl]
            rcases hno with h | ⟨h, hn⟩
            ·rw [h]
            ·rw [h]
             dsimp only
             rw [if_neg hn]
           rw [hf] at this
           exact this.symm
          obtain rfl : R = none := HR8.out.symm
          exact ⟨hdf, ⟨rfl, hrd9.bel⟩, HGR.out.trans (hel2.gr.trans hg9)⟩
       ·have hd3 : decide (j < rl.length) = false := by simpa using hlt2
        obtain rfl : RR = some (y, l4) := by rw [← HRO.out, List.drop_eq_nil_of_le (by omega)]; rfl
        obtain rfl : R = some (y, st, l4) := HR8.out.symm
        have hB : BE wr W.heap.size zeroC := (hel.gr.block _ (by omega) (by intro e; injection e; omega)).trans HRES.out
        have hle1 : W.heap.size ≤ wr.heap.size := by have := hel.gr.size; omega
        have hout := BE.put hB (.int .i64 y.k) (.int .i64 y.st) (.int .i64 y.th) (.int .i64 y.sy) (.int .i64 y.br) (.int .i64 y.pa) (.int .i64 y.n) (.int .i64 kk) (.int .i64 nn) (.slice a len cap)
        have hbo := put10_below (w := wr) (g := W.heap.size) (Nat.le_refl _) (.int .i64 y.k) (.int .i64 y.st) (.int .i64 y.th) (.int .i64 y.sy) (.int .i64 y.br) (.int .i64 y.pa) (.int .i64 y.n) (.int .i64 kk) (.int .i64 nn) (.slice a len cap)
        have hvo : IsE (fun q => W.heap.size ≤ q ∧ q < (put10 wr W.heap.size (.int .i64 y.k) (.int .i64 y.st) (.int .i64 y.th) (.int .i64 y.sy) (.int .i64 y.br) (.int .i64 y.pa) (.int .i64 y.n) (.int .i64 kk) (.int .i64 nn) (.slice a len cap)).heap.size) (put10 wr W.heap.size (.int .i64 y.k) (.int .i64 y.st) (.int .i64 y.th) (.int .i64 y.sy) (.int .i64 y.br) (.int .i64 y.pa) (.int .i64 y.n) (.int .i64 kk) (.int .i64 nn) (.slice a len cap)) y (.agg (evC y kk nn a len cap)) :=
         ⟨kk, nn, a, len, cap, rfl, (hel.iv.keep fun q hq _ => World.cell?_of_block (w := wr) (put10_block (j := q) (by omega) _ _ _ _ _ _ _ _ _ _)).more fun q hq => ⟨by omega, by rw [put10_size]; exact hq.2.1⟩, hel.rg⟩
        have hgo := grown_below (HGR.out.trans hel.gr) hbo (Nat.le_refl _)
        have hro := hel.rd.belowB hbo hlt
        have z0 := hB.fz 0
        have z1 := hB.fz 1
        have z2 := hB.fz 2
        have z3 := hB.fz 3
        have z4 := hB.fz 4
        have z5 := hB.fz 5
        have z6 := hB.fz 6
        have z7 := hB.fz 7
        have z8 := hB.fz 8
        have z9 := hB.fz 9
        obtain ⟨y0, y1, y2, y3, y4, y5, y6, y7, y8, y9⟩ := BE.c hB
        obtain ⟨q0, q1, q2, q3, q4, q5, q6, q7, q8, q9⟩ := BE.c hel.ev
        obtain ⟨x0, x1, x2, x3, x4, x5, x6, x7, x8, x9⟩ := BE.c hout
        unfold put10 at x0 x1 x2 x3 x4 x5 x6 x7 x8 x9
        clear hel hB hout
        go_wp2_with fail
        exact bodyPost_ret (v := .agg (evC y kk nn a len cap)) (by simp [results, Tryz.results58, go_sem, evC, x0, x1, x2, x3, x4, x5, x6, x7, x8, x9]) rfl ⟨⟨⟨_, rfl, hvo⟩, hro⟩, hgo⟩
     ·intro a7 w7 l' hdf hno hrd7 hgr7
      obtain rfl : R = none := by
       have := HR6.out
       rw [hno] at this
       exact this.symm
      exact ⟨hdf, ⟨rfl, hrd7.bel⟩, HGR.out.trans hgr7⟩
  ·have hw : wordE k = ⟨#[]⟩ := by unfold wordE; rw [if_neg hk]
   obtain rfl : R = none := by
    have := HR2.out
    rw [if_neg hk] at this
    exact this.symm
   rw [hw] at hlk
   clear HR2
   go_quiet (fail)
   go_wp2_with fail
   refine (raise_any _).mono ?_
   rintro e w5 ⟨rfl, rfl⟩
   have hbd : Below w3.heap.size w3 (w3.drewN nq) := below_drewN (Below.refl _ _) nq
   exact ⟨rfl, ⟨rfl, (hrd3.belowB hbd hrd3.lt).bel⟩, HGR.out.trans (grown_below hgr3 hbd hgr3.size)⟩
end Go.Proofs.YtjldbbcdhdfliaaGreatDoor
