/-
 Walks over package trace: text.
-/
import Derived.Test.YtjldbbcdhdfliaaGreatDoorTeTs
namespace Go.Proofs.YtjldbbcdhdfliaaGreatDoor
open Go.RowKit Go.Sort

/-- A field's text. -/
def fldT (x : Ev) (i : Nat) : List UInt8 := if i = 4 then txt x.v else if x.fld i = -1 then [45] else Lib.itoa (x.fld i)
def rowT (x : Ev) : List Nat → List UInt8
 | [] => []
 | i :: r => 32 :: (fldT x i ++ rowT x r)
/-- An event's text. -/
def textE (x : Ev) : List UInt8 := Lib.itoa x.st ++ 32 :: (Lib.itoa x.th ++ 32 :: ((wordE x.k).data.toList ++ rowT x (rowE x.k)))
theorem RowM.kp {B : Nat} {w w' : World} {l : List Nat} {v : Value} (h : RowM w l v) (hk : Kp B w w') : RowM w' l v := by
 rcases h with h | ⟨h1, g, rfl, h2⟩
 ·exact .inl h
 ·exact .inr ⟨h1, g, rfl, hk.k _ _ _ _ h2 (by decide)⟩
/-- What stands in text. -/
structure TXS (B : Nat) (x : Ev) (kk nn : Int) (a : Option Addr) (len cap : Nat) (w : World) (eb : Nat) (W : World) (bv : Value) (L : List UInt8) : Prop where
 row : Byt B W bv L
 ev : W.heap[eb]? = some (.cells #[.int .i64 x.k, .int .i64 x.st, .int .i64 x.th, .int .i64 x.sy, .int .i64 x.br, .int .i64 x.pa, .int .i64 x.n, .int .i64 kk, .int .i64 nn, .slice a len cap] 29 (0, 0))
 kp : Kp B w W
 le : B ≤ W.heap.size
section
variable {B : Nat} {x : Ev} {kk nn : Int} {a : Option Addr} {len cap : Nat} {w : World} {eb : Nat} {W W' : World} {bv v' : Value} {L L' : List UInt8}
theorem TXS.call (h : TXS B x kk nn a len cap w eb W bv L) (hb : Below W.heap.size W W') : TXS B x kk nn a len cap w eb W' bv L :=
 ⟨h.row.below hb, (hb.block _ (lt_of_heap h.ev)).trans h.ev, h.kp.trans (Kp.all h.le hb), Nat.le_trans h.le hb.size⟩
theorem TXS.step (h : TXS B x kk nn a len cap w eb W bv L) (hr : Byt B W' v' L') (hk : Kp B W W') : TXS B x kk nn a len cap w eb W' v' L' :=
 ⟨hr, hk.k _ _ _ _ h.ev (by decide), h.kp.trans hk, Nat.le_trans h.le hk.size⟩
theorem TXS.c (h : TXS B x kk nn a len cap w eb W bv L) : W.cell? ⟨eb, 0, none⟩ = some (.int .i64 x.k) ∧ W.cell? ⟨eb, 1, none⟩ = some (.int .i64 x.st) ∧ W.cell? ⟨eb, 2, none⟩ = some (.int .i64 x.th) ∧ W.cell? ⟨eb, 3, none⟩ = some (.int .i64 x.sy) ∧ W.cell? ⟨eb, 4, none⟩ = some (.int .i64 x.br) ∧ W.cell? ⟨eb, 5, none⟩ = some (.int .i64 x.pa) ∧ W.cell? ⟨eb, 6, none⟩ = some (.int .i64 x.n) ∧
  W.cell? ⟨eb, 7, none⟩ = some (.int .i64 kk) ∧ W.cell? ⟨eb, 8, none⟩ = some (.int .i64 nn) ∧ W.cell? ⟨eb, 9, none⟩ = some (.slice a len cap) := by
 simp [World.cell?, h.ev]
end
theorem rowT_cons {x : Ev} {l : List Nat} {j : Nat} (hj : j < l.length) : rowT x (l.drop j) = 32 :: (fldT x l[j] ++ rowT x (l.drop (j + 1))) := by
 rw [List.drop_eq_getElem_cons hj, rowT]
theorem right_fld {x : Ev} (h : rightE x = true) {i : Nat} (hi : i ∈ rowE x.k) (h4 : i < 4) : leastE i ≤ x.fld i := by
 unfold rightE at h
 simp only [Bool.and_eq_true] at h
 have hl : lsB x.k i = true := by unfold lsB; simpa using hi
 have hf : fldOk x i = true := by
  match i, h4 with
  | 0, _ => exact h.1.1.1.1.2
  | 1, _ => exact h.1.1.1.2
  | 2, _ => exact h.1.1.2
  | 3, _ => exact h.1.2
 unfold fldOk at hf
 rw [hl] at hf
 simpa using hf
theorem right_val {x : Ev} (h : rightE x = true) (hi : 4 ∈ rowE x.k) : right x.v = true := by
 unfold rightE at h
 simp only [Bool.and_eq_true] at h
 have hl : lsB x.k 4 = true := by unfold lsB; simpa using hi
 have := h.2
 rw [hl] at this
 exact this
theorem right_has {x : Ev} (h : rightE x = true) : hasE x.k = true ∧ 0 ≤ x.st ∧ 0 ≤ x.th := by
 unfold rightE at h
 simp only [Bool.and_eq_true, decide_eq_true_eq] at h
 exact ⟨h.1.1.1.1.1.1.1, h.1.1.1.1.1.1.2, h.1.1.1.1.1.2⟩
theorem txt_V {t : VT} (h : right t = true) : textV t = .tuple #[.string ⟨(txt t).toArray⟩, .int .i64 0] := by unfold textV; rw [if_pos h]
set_option maxRecDepth 100000 in
set_option maxHeartbeats 8000000 in
theorem ttext_any (B b mb : Nat) (x : Ev) (v : Value) (bv : Value) (l : List UInt8) (w : World) (hT : TabT w b mb) (hbB : b < B) (hmB : mb < B) (hx : IsE (· < B) w x v) (hrow : Byt B w bv l) (hB : B ≤ w.heap.size) (hB5 : 5 ≤ B) (hl : l.length ≤ 10000000000) (hE : Env w) (hr : rightE x = true) :
  Calls Tryz.prog 48 #[.pointer (some ⟨b, 0, none⟩), bv, v] w fun e w' => ∃ v', e = .returned v' ∧ Byt B w' v' (l ++ textE x) ∧ Kp B w w' := by
 obtain ⟨kk, nn, a, len, cap, rfl, hv, hrg⟩ := hx
 obtain ⟨hk, hst, hth⟩ := right_has hr
 have hb1 := below_alloc w (.cells (evC x kk nn a len cap) 29)
 have hts1 : TXS B x kk nn a len cap w w.heap.size (w.alloc (.cells (evC x kk nn a len cap) 29)) bv l := ⟨hrow.below hb1, heap_alloc_new _ _, Kp.all hB hb1, by simp; omega⟩
 have HT : ∀ W, Kp B w W → TabT W b mb := fun W h => hT.below h.b hbB hmB
 have HE : ∀ W, Kp B w W → Env W := fun W h => hE.below h.b hB5
 have HV : ∀ W, Kp B w W → B ≤ W.heap.size → IsV (· < W.heap.size) W x.v (.agg #[.int .i64 kk, .int .i64 nn, .slice a len cap]) := fun W h h2 => (hv.below h.b).more fun g hg => by omega
 have HTH := Lib.hid HT
 have HEH := Lib.hid HE
 have HVH := Lib.hid HV
 have HR := Lib.hid hr
 clear HT HE HV hT hE hv hrow hb1 hr
 unfold evC at hts1 ⊢
 have hi1 := Lib.itoa_length_le x.st hrg.st.1 hrg.st.2
 have hi2 := Lib.itoa_length_le x.th hrg.th.1 hrg.th.2
 have hwl := wordE_size x.k
 obtain ⟨wd, hwd⟩ : ∃ wd, wordE x.k = wd := ⟨_, rfl⟩
 rw [hwd] at hwl
 have HWD := Lib.hid hwd
 clear hwd
 have hwl2 : wd.data.toList.length ≤ 6 := by simpa using hwl
 go_enter Tryz.func48, Tryz.ntmps48
 go_upto_region 1 with fail
 generalize w.alloc (.cells #[.int .i64 x.k, .int .i64 x.st, .int .i64 x.th, .int .i64 x.sy, .int .i64 x.br, .int .i64 x.pa, .int .i64 x.n, .int .i64 kk, .int .i64 nn, .slice a len cap] 29) = w1 at *
 generalize w.heap.size = eb at *
 obtain ⟨c0, c1, c2, _⟩ := hts1.c
 go_wp2_with fail
 refine (appendInt_any B x.st hrg.st bv l _ hts1.row hts1.le hB5 (by omega) (HEH.out _ hts1.kp)).mono ?_
 rintro e w2 ⟨v2, rfl, hb2, hk2⟩
 have hts2 := hts1.step hb2 hk2
 obtain ⟨L2, hL2⟩ : ∃ L2, l ++ Lib.itoa x.st = L2 := ⟨_, rfl⟩
 have hl2 : L2.length ≤ 10000000021 := by rw [← hL2]; simp; omega
 rw [hL2] at hts2
 have HL2 := Lib.hid hL2
 clear hL2 hts1 hb2 hk2 c0 c1 c2
 go_upto_region 2 with fail
 have hts3 := hts2.call (below_alloc w2 (.cells #[.int .u8 32] 5))
 go_wp2_with (at_builtin; refine wpList_app1 _ rfl (.tmp 16) (.tmp 17) rfl B _ L2 rfl hts3.row _ 32 rfl (heap_alloc_new _ _) (by omega) hts3.le ?_; intro v4 w4 hb4 hk4; have hts4 := hts3.step hb4 hk4; obtain ⟨c0, c1, c2, c3, c4, c5, c6, c7, c8, c9⟩ := hts4.c)
 clear hb4 hk4 hts3 hts2
 obtain ⟨L4, hL4⟩ : ∃ L4, L2 ++ [32] = L4 := ⟨_, rfl⟩
 have hlL4 : L4.length ≤ 10000000022 := by rw [← hL4]; simp; omega
 rw [hL4] at hts4
 have HL4 := Lib.hid hL4
 clear hL4
 refine (appendInt_any B x.th hrg.th v4 L4 _ hts4.row hts4.le hB5 (by omega) (HEH.out _ hts4.kp)).mono ?_
 rintro e w5 ⟨v5, rfl, hb5, hk5⟩
 have hts5 := hts4.step hb5 hk5
 clear hts4 hb5 hk5 c0 c1 c2 c3 c4 c5 c6 c7 c8 c9
 obtain ⟨L5, hL5⟩ : ∃ L5, L4 ++ Lib.itoa x.th = L5 := ⟨_, rfl⟩
 have hlL5 : L5.length ≤ 10000000043 := by rw [← hL5]; simp; omega
 rw [hL5] at hts5
 have HL5 := Lib.hid hL5
 clear hL5
 go_upto_region 4 with fail
 have hts6 := hts5.call (below_alloc w5 (.cells #[.int .u8 32] 5))
 go_wp2_with (at_builtin; refine wpList_app1 _ rfl (.tmp 23) (.tmp 24) rfl B _ L5 rfl hts6.row _ 32 rfl (heap_alloc_new _ _) (by omega) hts6.le ?_; intro v7 w7 hb7 hk7; have hts7 := hts6.step hb7 hk7; obtain ⟨c0, c1, c2, c3, c4, c5, c6, c7, c8, c9⟩ := hts7.c)
 clear hb7 hk7 hts6 hts5
 obtain ⟨L7, hL7⟩ : ∃ L7, L5 ++ [32] = L7 := ⟨_, rfl⟩
 have hlL7 : L7.length ≤ 10000000044 := by rw [← hL7]; simp; omega
 rw [hL7] at hts7
 have HL7 := Lib.hid hL7
 clear hL7
 have hT7 := HTH.out _ hts7.kp
 have hm := hT7.mapc
 have hlk := fun n => hT7.m.lookN hrg.k n
 have hlk0 := hT7.drew.m.look hrg.k
 rw [HWD.out] at hlk0
 simp only [HWD.out] at hlk
 go_still_tail 8, (by kernel_rfl)
 have hts8 := hts7.call (W' := w7.drew) ⟨rfl, rfl, rfl, Nat.le_refl _, fun _ _ => rfl⟩
 refine wpList_appS _ rfl (.tmp 26) (.tmp 33) rfl B _ L7 rfl hts8.row wd rfl (by omega) (by omega) hts8.le ?_
 intro v9 w9 hb9 hk9
 have hts9 := hts8.step hb9 hk9
 clear hb9 hk9 hts8 hts7 hT7 hm hlk hlk0 c0 c1 c2 c3 c4 c5 c6 c7 c8 c9
 have hL9 : (L7 ++ wd.data.toList).length ≤ 10000000050 := by simp; omega
 have HTGT : Hid ((L7 ++ wd.data.toList) ++ rowT x (rowE x.k) = l ++ textE x) := by
  show _ = _
  unfold textE
  rw [HWD.out, ← HL7.out, ← HL5.out, ← HL4.out, ← HL2.out]
  simp
 generalize L7 ++ wd.data.toList = L9 at *
 clear HL2 HL4 HL5 HL7 hl2 hlL4 hlL5 hlL7 hi1 hi2 hwl hwl2
 obtain ⟨c0, _⟩ := hts9.c
 go_wp2_with fail
 refine (row_any x.k _).mono ?_
 rintro e w10 ⟨⟨rv, rfl, hrow, -⟩, hb10⟩
 obtain ⟨ra, rfl⟩ := hrow.form
 have hts10 := hts9.call hb10
 clear hts9 hb10 c0
 have HRL := Lib.hid (row_lt x.k)
 have hll := row_len x.k
 obtain ⟨rl, hrl⟩ : ∃ rl, rowE x.k = rl := ⟨_, rfl⟩
 have HRW := Lib.hid hrl
 rw [hrl] at hrow hll ⊢
 have HTG : Hid (L9 ++ rowT x rl = l ++ textE x) := by have := HTGT.out; rw [hrl] at this; exact this
 clear hrl HTGT
 go_wp2_with fail
 go_loopw [1, 39] (fun bw i wr => ∃ (j : Nat) (L : List UInt8), i = .int .i64 (j : Nat) ∧ j ≤ rl.length ∧ TXS B x kk nn a len cap w eb wr bw L ∧ RowM wr rl (.slice ra rl.length rl.length) ∧ L ++ rowT x (rl.drop j) = l ++ textE x ∧ L.length ≤ 10000000050 + 10300 * j) (fun _ i _ => rl.length - (intOf i).toNat)
 case atStart => exact ⟨0, L9, rfl, by omega, hts10, hrow, HTG.out, by omega⟩
 case round =>
  clear hts10 hrow HTG hL9
  obtain ⟨j, L, rfl, hj, hts, hrw, hLe, hLl⟩ := hrel
  have HLE := Lib.hid hLe
  clear hLe
  obtain ⟨ba, bn, bc, rfl⟩ := hts.row.form
  by_cases hlt : j < rl.length
  ·have hd3 : decide (j < rl.length) = true := by simpa using hlt
   obtain ⟨g, hra, hg, hc⟩ := hrw.at_ hlt
   have hi5 : rl[j] < 5 := HRL.out _ (by rw [HRW.out]; exact List.getElem_mem _)
   have HIN : Hid (rl[j] ∈ rowE x.k) := by show _ ∈ _; rw [HRW.out]; exact List.getElem_mem _
   have HCO : Hid (L ++ 32 :: (fldT x rl[j] ++ rowT x (rl.drop (j + 1))) = l ++ textE x) := by show _ = _; rw [← rowT_cons hlt]; exact HLE.out
   clear HLE
   subst hra
   obtain ⟨i, hi⟩ : ∃ i, rl[j] = i := ⟨_, rfl⟩
   rw [hi] at hc hi5
   have HIN2 : Hid (i ∈ rowE x.k) := by have := HIN.out; rw [hi] at this; exact this
   have HCO2 : Hid (L ++ 32 :: (fldT x i ++ rowT x (rl.drop (j + 1))) = l ++ textE x) := by have := HCO.out; rw [hi] at this; exact this
   clear hi HIN HCO
   have h5 : i = 0 ∨ i = 1 ∨ i = 2 ∨ i = 3 ∨ i = 4 := by omega
   rcases h5 with rfl | rfl | rfl | rfl | rfl
   ·go_upto_region 9 with fail
    have hts8 := hts.call (below_alloc wr (.cells #[.int .u8 32] 5))
    have hrw8 := hrw.belowAll (below_alloc wr (.cells #[.int .u8 32] 5))
    go_upto_region 12 with (at_builtin; refine wpList_app1 _ rfl (.tmp 43) (.tmp 44) rfl B _ L rfl hts8.row _ 32 rfl (heap_alloc_new _ _) (by omega) hts8.le ?_; intro v9 w9 hb9 hk9; have hts9 := hts8.step hb9 hk9; have hrw9 := hrw8.kp hk9; obtain ⟨t0, t1, t2, t3, t4, t5, t6, t7, t8, t9, t10, t11, t12, t13, t14⟩ := (HTH.out _ hts9.kp).cells)
    have hlf : w9.heap.size < (w9.alloc (.cells #[.string ⟨#[115, 121, 110, 99]⟩, .int .i64 0, .func (.func 69) #[] #[]] 125)).heap.size := by simp
    have hts10 := hts9.call (below_alloc w9 (.cells #[.string ⟨#[115, 121, 110, 99]⟩, .int .i64 0, .func (.func 69) #[] #[]] 125))
    have hrw10 := hrw9.belowAll (below_alloc w9 (.cells #[.string ⟨#[115, 121, 110, 99]⟩, .int .i64 0, .func (.func 69) #[] #[]] 125))
    have hff := heap_alloc_new w9 (.cells #[.string ⟨#[115, 121, 110, 99]⟩, .int .i64 0, .func (.func 69) #[] #[]] 125)
    clear hts hts8 hts9 hrw hrw8 hrw9 hb9 hk9 t0 t1 t2 t3 t4 t5 t6 t7 t8 t9 t10 t11 t12 t13 t14 hc
    generalize w9.alloc (.cells #[.string ⟨#[115, 121, 110, 99]⟩, .int .i64 0, .func (.func 69) #[] #[]] 125) = wf at *
    generalize w9.heap.size = fb at *
    have f1 : wf.cell? ⟨fb, 1, none⟩ = some (.int .i64 0) := by simp [World.cell?, hff]
    have f2 : wf.cell? ⟨fb, 2, none⟩ = some (.func (.func 69) #[] #[]) := by simp [World.cell?, hff]
    have hnf := fnil0
    obtain ⟨c0, c1, c2, c3, c4, c5, c6, c7, c8, c9⟩ := hts10.c
    obtain ⟨La, hLa⟩ : ∃ La, L ++ [32] = La := ⟨_, rfl⟩
    have hlLa : La.length ≤ 10000000051 + 10300 * j := by rw [← hLa]; simp; omega
    rw [hLa] at hts10
    have HTG : Hid (La ++ fldT x 0 ++ rowT x (rl.drop (j + 1)) = l ++ textE x) := by show _ = _; rw [← hLa, ← HCO2.out]; simp
    clear hLa HCO2
    have hen := enters_of Tryz.func69 (by kernel_rfl) rfl
    have hge := right_fld HR.out HIN2.out (by omega)
    simp only [Ev.fld, leastE] at hge
    have hil := Lib.itoa_length_le x.sy hrg.sy.1 hrg.sy.2
    go_wp2_with fail
    refine (at0_any _ _).mono ?_
    rintro e wz ⟨rfl, rfl⟩
    have hne : ¬ x.sy = -1 := by omega
    have hd5 : (x.sy == -1) = false := by simpa using hne
    have HF : Hid (fldT x 0 = Lib.itoa x.sy) := by show _ = _; unfold fldT; rw [if_neg (by decide), if_neg (by simpa [Ev.fld] using hne)]; rfl
    clear hne
    go_wp2_with fail
    refine (at0_any _ _).mono ?_
    rintro e wz ⟨rfl, rfl⟩
    go_wp2_with fail
    refine (appendInt_any B x.sy hrg.sy _ La _ hts10.row hts10.le hB5 (by omega) (HEH.out _ hts10.kp)).mono ?_
    rintro e w11 ⟨v11, rfl, hb11, hk11⟩
    have hts11 := hts10.step hb11 hk11
    have hrw11 := hrw10.kp hk11
    clear hts10 hrw10 hb11 hk11
    go_wp2_with fail
    go_roundw
    case rel => first | exact ⟨j + 1, _, by go_num, by omega, hts11, hrw11, by have := HTG.out; rw [HF.out] at this; exact this, by simp; omega⟩ | ((repeat apply Exists.intro); exact ⟨⟨j + 1, _, by go_num, by omega, hts11, hrw11, by have := HTG.out; rw [HF.out] at this; exact this, by simp; omega⟩, rfl⟩)
    case measure => simp [intOf]; omega
   ·go_upto_region 9 with fail
    have hts8 := hts.call (below_alloc wr (.cells #[.int .u8 32] 5))
    have hrw8 := hrw.belowAll (below_alloc wr (.cells #[.int .u8 32] 5))
    go_upto_region 12 with (at_builtin; refine wpList_app1 _ rfl (.tmp 43) (.tmp 44) rfl B _ L rfl hts8.row _ 32 rfl (heap_alloc_new _ _) (by omega) hts8.le ?_; intro v9 w9 hb9 hk9; have hts9 := hts8.step hb9 hk9; have hrw9 := hrw8.kp hk9; obtain ⟨t0, t1, t2, t3, t4, t5, t6, t7, t8, t9, t10, t11, t12, t13, t14⟩ := (HTH.out _ hts9.kp).cells)
    have hlf : w9.heap.size < (w9.alloc (.cells #[.string ⟨#[98, 114, 97, 110, 99, 104]⟩, .int .i64 0, .func (.func 70) #[] #[]] 125)).heap.size := by simp
    have hts10 := hts9.call (below_alloc w9 (.cells #[.string ⟨#[98, 114, 97, 110, 99, 104]⟩, .int .i64 0, .func (.func 70) #[] #[]] 125))
    have hrw10 := hrw9.belowAll (below_alloc w9 (.cells #[.string ⟨#[98, 114, 97, 110, 99, 104]⟩, .int .i64 0, .func (.func 70) #[] #[]] 125))
    have hff := heap_alloc_new w9 (.cells #[.string ⟨#[98, 114, 97, 110, 99, 104]⟩, .int .i64 0, .func (.func 70) #[] #[]] 125)
    clear hts hts8 hts9 hrw hrw8 hrw9 hb9 hk9 t0 t1 t2 t3 t4 t5 t6 t7 t8 t9 t10 t11 t12 t13 t14 hc
    generalize w9.alloc (.cells #[.string ⟨#[98, 114, 97, 110, 99, 104]⟩, .int .i64 0, .func (.func 70) #[] #[]] 125) = wf at *
    generalize w9.heap.size = fb at *
    have f1 : wf.cell? ⟨fb, 1, none⟩ = some (.int .i64 0) := by simp [World.cell?, hff]
    have f2 : wf.cell? ⟨fb, 2, none⟩ = some (.func (.func 70) #[] #[]) := by simp [World.cell?, hff]
    have hnf := fnil1
    obtain ⟨c0, c1, c2, c3, c4, c5, c6, c7, c8, c9⟩ := hts10.c
    obtain ⟨La, hLa⟩ : ∃ La, L ++ [32] = La := ⟨_, rfl⟩
    have hlLa : La.length ≤ 10000000051 + 10300 * j := by rw [← hLa]; simp; omega
    rw [hLa] at hts10
    have HTG : Hid (La ++ fldT x 1 ++ rowT x (rl.drop (j + 1)) = l ++ textE x) := by show _ = _; rw [← hLa, ← HCO2.out]; simp
    clear hLa HCO2
    have hen := enters_of Tryz.func70 (by kernel_rfl) rfl
    have hge := right_fld HR.out HIN2.out (by omega)
    simp only [Ev.fld, leastE] at hge
    have hil := Lib.itoa_length_le x.br hrg.br.1 hrg.br.2
    go_wp2_with fail
    refine (at1_any _ _).mono ?_
    rintro e wz ⟨rfl, rfl⟩
    have hne : ¬ x.br = -1 := by omega
    have hd5 : (x.br == -1) = false := by simpa using hne
    have HF : Hid (fldT x 1 = Lib.itoa x.br) := by show _ = _; unfold fldT; rw [if_neg (by decide), if_neg (by simpa [Ev.fld] using hne)]; rfl
    clear hne
    go_wp2_with fail
    refine (at1_any _ _).mono ?_
    rintro e wz ⟨rfl, rfl⟩
    go_wp2_with fail
    refine (appendInt_any B x.br hrg.br _ La _ hts10.row hts10.le hB5 (by omega) (HEH.out _ hts10.kp)).mono ?_
    rintro e w11 ⟨v11, rfl, hb11, hk11⟩
    have hts11 := hts10.step hb11 hk11
    have hrw11 := hrw10.kp hk11
    clear hts10 hrw10 hb11 hk11
    go_wp2_with fail
    go_roundw
    case rel => first | exact ⟨j + 1, _, by go_num, by omega, hts11, hrw11, by have := HTG.out; rw [HF.out] at this; exact this, by simp; omega⟩ | ((repeat apply Exists.intro); exact ⟨⟨j + 1, _, by go_num, by omega, hts11, hrw11, by have := HTG.out; rw [HF.out] at this; exact this, by simp; omega⟩, rfl⟩)
    case measure => simp [intOf]; omega
   ·go_upto_region 9 with fail
    have hts8 := hts.call (below_alloc wr (.cells #[.int .u8 32] 5))
    have hrw8 := hrw.belowAll (below_alloc wr (.cells #[.int .u8 32] 5))
    go_upto_region 12 with (at_builtin; refine wpList_app1 _ rfl (.tmp 43) (.tmp 44) rfl B _ L rfl hts8.row _ 32 rfl (heap_alloc_new _ _) (by omega) hts8.le ?_; intro v9 w9 hb9 hk9; have hts9 := hts8.step hb9 hk9; have hrw9 := hrw8.kp hk9; obtain ⟨t0, t1, t2, t3, t4, t5, t6, t7, t8, t9, t10, t11, t12, t13, t14⟩ := (HTH.out _ hts9.kp).cells)
    have hlf : w9.heap.size < (w9.alloc (.cells #[.string ⟨#[112, 97, 114, 116, 110, 101, 114]⟩, .int .i64 (-1), .func (.func 71) #[] #[]] 125)).heap.size := by simp
    have hts10 := hts9.call (below_alloc w9 (.cells #[.string ⟨#[112, 97, 114, 116, 110, 101, 114]⟩, .int .i64 (-1), .func (.func 71) #[] #[]] 125))
    have hrw10 := hrw9.belowAll (below_alloc w9 (.cells #[.string ⟨#[112, 97, 114, 116, 110, 101, 114]⟩, .int .i64 (-1), .func (.func 71) #[] #[]] 125))
    have hff := heap_alloc_new w9 (.cells #[.string ⟨#[112, 97, 114, 116, 110, 101, 114]⟩, .int .i64 (-1), .func (.func 71) #[] #[]] 125)
    clear hts hts8 hts9 hrw hrw8 hrw9 hb9 hk9 t0 t1 t2 t3 t4 t5 t6 t7 t8 t9 t10 t11 t12 t13 t14 hc
    generalize w9.alloc (.cells #[.string ⟨#[112, 97, 114, 116, 110, 101, 114]⟩, .int .i64 (-1), .func (.func 71) #[] #[]] 125) = wf at *
    generalize w9.heap.size = fb at *
    have f1 : wf.cell? ⟨fb, 1, none⟩ = some (.int .i64 (-1)) := by simp [World.cell?, hff]
    have f2 : wf.cell? ⟨fb, 2, none⟩ = some (.func (.func 71) #[] #[]) := by simp [World.cell?, hff]
    have hnf := fnil2
    obtain ⟨c0, c1, c2, c3, c4, c5, c6, c7, c8, c9⟩ := hts10.c
    obtain ⟨La, hLa⟩ : ∃ La, L ++ [32] = La := ⟨_, rfl⟩
    have hlLa : La.length ≤ 10000000051 + 10300 * j := by rw [← hLa]; simp; omega
    rw [hLa] at hts10
    have HTG : Hid (La ++ fldT x 2 ++ rowT x (rl.drop (j + 1)) = l ++ textE x) := by show _ = _; rw [← hLa, ← HCO2.out]; simp
    clear hLa HCO2
    have hen := enters_of Tryz.func71 (by kernel_rfl) rfl
    have hge := right_fld HR.out HIN2.out (by omega)
    simp only [Ev.fld, leastE] at hge
    have hil := Lib.itoa_length_le x.pa hrg.pa.1 hrg.pa.2
    go_wp2_with fail
    refine (at2_any _ _).mono ?_
    rintro e wz ⟨rfl, rfl⟩
    by_cases hm1 : x.pa = -1
    ·have hd5 : (x.pa == -1) = true := by simpa using hm1
     have HF : Hid (fldT x 2 = [45]) := by show _ = _; unfold fldT; rw [if_neg (by decide), if_pos (by simpa [Ev.fld] using hm1)]
     clear hm1
     go_upto_region 18 with fail
     have hts12 := hts10.call (below_alloc wf (.cells #[.int .u8 45] 5))
     have hrw12 := hrw10.belowAll (below_alloc wf (.cells #[.int .u8 45] 5))
     go_wp2_with (at_builtin; refine wpList_app1 _ rfl (.tmp 82) (.tmp 83) rfl B _ La rfl hts12.row _ 45 rfl (heap_alloc_new _ _) (by omega) hts12.le ?_; intro v11 w11 hb11 hk11)
     have hts11 := hts12.step hb11 hk11
     have hrw11 := hrw12.kp hk11
     clear hts10 hrw10 hts12 hrw12 hb11 hk11
     go_roundw
     case rel => first | exact ⟨j + 1, _, by go_num, by omega, hts11, hrw11, by have := HTG.out; rw [HF.out] at this; exact this, by simp; omega⟩ | ((repeat apply Exists.intro); exact ⟨⟨j + 1, _, by go_num, by omega, hts11, hrw11, by have := HTG.out; rw [HF.out] at this; exact this, by simp; omega⟩, rfl⟩)
     case measure => simp [intOf]; omega
    ·skip
     have hne : ¬ x.pa = -1 := by exact hm1
     have hd5 : (x.pa == -1) = false := by simpa using hne
     have HF : Hid (fldT x 2 = Lib.itoa x.pa) := by show _ = _; unfold fldT; rw [if_neg (by decide), if_neg (by simpa [Ev.fld] using hne)]; rfl
     clear hne
     go_wp2_with fail
     refine (at2_any _ _).mono ?_
     rintro e wz ⟨rfl, rfl⟩
     go_wp2_with fail
     refine (appendInt_any B x.pa hrg.pa _ La _ hts10.row hts10.le hB5 (by omega) (HEH.out _ hts10.kp)).mono ?_
     rintro e w11 ⟨v11, rfl, hb11, hk11⟩
     have hts11 := hts10.step hb11 hk11
     have hrw11 := hrw10.kp hk11
     clear hts10 hrw10 hb11 hk11
     go_wp2_with fail
     go_roundw
     case rel => first | exact ⟨j + 1, _, by go_num, by omega, hts11, hrw11, by have := HTG.out; rw [HF.out] at this; exact this, by simp; omega⟩ | ((repeat apply Exists.intro); exact ⟨⟨j + 1, _, by go_num, by omega, hts11, hrw11, by have := HTG.out; rw [HF.out] at this; exact this, by simp; omega⟩, rfl⟩)
     case measure => simp [intOf]; omega
   ·go_upto_region 9 with fail
    have hts8 := hts.call (below_alloc wr (.cells #[.int .u8 32] 5))
    have hrw8 := hrw.belowAll (below_alloc wr (.cells #[.int .u8 32] 5))
    go_upto_region 12 with (at_builtin; refine wpList_app1 _ rfl (.tmp 43) (.tmp 44) rfl B _ L rfl hts8.row _ 32 rfl (heap_alloc_new _ _) (by omega) hts8.le ?_; intro v9 w9 hb9 hk9; have hts9 := hts8.step hb9 hk9; have hrw9 := hrw8.kp hk9; obtain ⟨t0, t1, t2, t3, t4, t5, t6, t7, t8, t9, t10, t11, t12, t13, t14⟩ := (HTH.out _ hts9.kp).cells)
    have hlf : w9.heap.size < (w9.alloc (.cells #[.string ⟨#[110]⟩, .int .i64 0, .func (.func 72) #[] #[]] 125)).heap.size := by simp
    have hts10 := hts9.call (below_alloc w9 (.cells #[.string ⟨#[110]⟩, .int .i64 0, .func (.func 72) #[] #[]] 125))
    have hrw10 := hrw9.belowAll (below_alloc w9 (.cells #[.string ⟨#[110]⟩, .int .i64 0, .func (.func 72) #[] #[]] 125))
    have hff := heap_alloc_new w9 (.cells #[.string ⟨#[110]⟩, .int .i64 0, .func (.func 72) #[] #[]] 125)
    clear hts hts8 hts9 hrw hrw8 hrw9 hb9 hk9 t0 t1 t2 t3 t4 t5 t6 t7 t8 t9 t10 t11 t12 t13 t14 hc
    generalize w9.alloc (.cells #[.string ⟨#[110]⟩, .int .i64 0, .func (.func 72) #[] #[]] 125) = wf at *
    generalize w9.heap.size = fb at *
    have f1 : wf.cell? ⟨fb, 1, none⟩ = some (.int .i64 0) := by simp [World.cell?, hff]
    have f2 : wf.cell? ⟨fb, 2, none⟩ = some (.func (.func 72) #[] #[]) := by simp [World.cell?, hff]
    have hnf := fnil3
    obtain ⟨c0, c1, c2, c3, c4, c5, c6, c7, c8, c9⟩ := hts10.c
    obtain ⟨La, hLa⟩ : ∃ La, L ++ [32] = La := ⟨_, rfl⟩
    have hlLa : La.length ≤ 10000000051 + 10300 * j := by rw [← hLa]; simp; omega
    rw [hLa] at hts10
    have HTG : Hid (La ++ fldT x 3 ++ rowT x (rl.drop (j + 1)) = l ++ textE x) := by show _ = _; rw [← hLa, ← HCO2.out]; simp
    clear hLa HCO2
    have hen := enters_of Tryz.func72 (by kernel_rfl) rfl
    have hge := right_fld HR.out HIN2.out (by omega)
    simp only [Ev.fld, leastE] at hge
    have hil := Lib.itoa_length_le x.n hrg.n.1 hrg.n.2
    go_wp2_with fail
    refine (at3_any _ _).mono ?_
    rintro e wz ⟨rfl, rfl⟩
    have hne : ¬ x.n = -1 := by omega
    have hd5 : (x.n == -1) = false := by simpa using hne
    have HF : Hid (fldT x 3 = Lib.itoa x.n) := by show _ = _; unfold fldT; rw [if_neg (by decide), if_neg (by simpa [Ev.fld] using hne)]; rfl
    clear hne
    go_wp2_with fail
    refine (at3_any _ _).mono ?_
    rintro e wz ⟨rfl, rfl⟩
    go_wp2_with fail
    refine (appendInt_any B x.n hrg.n _ La _ hts10.row hts10.le hB5 (by omega) (HEH.out _ hts10.kp)).mono ?_
    rintro e w11 ⟨v11, rfl, hb11, hk11⟩
    have hts11 := hts10.step hb11 hk11
    have hrw11 := hrw10.kp hk11
    clear hts10 hrw10 hb11 hk11
    go_wp2_with fail
    go_roundw
    case rel => first | exact ⟨j + 1, _, by go_num, by omega, hts11, hrw11, by have := HTG.out; rw [HF.out] at this; exact this, by simp; omega⟩ | ((repeat apply Exists.intro); exact ⟨⟨j + 1, _, by go_num, by omega, hts11, hrw11, by have := HTG.out; rw [HF.out] at this; exact this, by simp; omega⟩, rfl⟩)
    case measure => simp [intOf]; omega
   ·go_upto_region 9 with fail
    have hts8 := hts.call (below_alloc wr (.cells #[.int .u8 32] 5))
    have hrw8 := hrw.belowAll (below_alloc wr (.cells #[.int .u8 32] 5))
    go_upto_region 12 with (at_builtin; refine wpList_app1 _ rfl (.tmp 43) (.tmp 44) rfl B _ L rfl hts8.row _ 32 rfl (heap_alloc_new _ _) (by omega) hts8.le ?_; intro v9 w9 hb9 hk9; have hts9 := hts8.step hb9 hk9; have hrw9 := hrw8.kp hk9; obtain ⟨t0, t1, t2, t3, t4, t5, t6, t7, t8, t9, t10, t11, t12, t13, t14⟩ := (HTH.out _ hts9.kp).cells)
    have hlf : w9.heap.size < (w9.alloc (.cells #[.string ⟨#[118, 97, 108]⟩, .int .i64 0, Value.nilFunc] 125)).heap.size := by simp
    have hts10 := hts9.call (below_alloc w9 (.cells #[.string ⟨#[118, 97, 108]⟩, .int .i64 0, Value.nilFunc] 125))
    have hrw10 := hrw9.belowAll (below_alloc w9 (.cells #[.string ⟨#[118, 97, 108]⟩, .int .i64 0, Value.nilFunc] 125))
    have hff := heap_alloc_new w9 (.cells #[.string ⟨#[118, 97, 108]⟩, .int .i64 0, Value.nilFunc] 125)
    clear hts hts8 hts9 hrw hrw8 hrw9 hb9 hk9 t0 t1 t2 t3 t4 t5 t6 t7 t8 t9 t10 t11 t12 t13 t14 hc
    generalize w9.alloc (.cells #[.string ⟨#[118, 97, 108]⟩, .int .i64 0, Value.nilFunc] 125) = wf at *
    generalize w9.heap.size = fb at *
    have f1 : wf.cell? ⟨fb, 1, none⟩ = some (.int .i64 0) := by simp [World.cell?, hff]
    have f2 : wf.cell? ⟨fb, 2, none⟩ = some (Value.nilFunc) := by simp [World.cell?, hff]
    have hnf := fnil4
    obtain ⟨c0, c1, c2, c3, c4, c5, c6, c7, c8, c9⟩ := hts10.c
    obtain ⟨La, hLa⟩ : ∃ La, L ++ [32] = La := ⟨_, rfl⟩
    have hlLa : La.length ≤ 10000000051 + 10300 * j := by rw [← hLa]; simp; omega
    rw [hLa] at hts10
    have HTG : Hid (La ++ fldT x 4 ++ rowT x (rl.drop (j + 1)) = l ++ textE x) := by show _ = _; rw [← hLa, ← HCO2.out]; simp
    clear hLa HCO2
    have hrv := right_val HR.out HIN2.out
    have hvx := HVH.out _ hts10.kp hts10.le
    have htl := right_len hrv hvx.rng
    have HTV := Lib.hid (txt_V hrv)
    have HF : Hid (fldT x 4 = txt x.v) := by show _ = _; unfold fldT; rw [if_pos rfl]
    obtain ⟨S, hS⟩ : ∃ S : ByteArray, (⟨(txt x.v).toArray⟩ : ByteArray) = S := ⟨_, rfl⟩
    have HS : Hid (txt x.v = S.data.toList) := by show _ = _; rw [← hS]
    have HTV2 : Hid (textV x.v = .tuple #[.string S, .int .i64 0]) := by show _ = _; rw [HTV.out, hS]
    have hSs : S.size ≤ 10240 := by rw [← hS]; simpa [ByteArray.size] using htl
    clear hS hrv htl HTV
    go_wp2_with fail
    refine (Text_any x.v _ _ hvx (HEH.out _ hts10.kp)).mono ?_
    rw [HTV2.out]
    rintro e w11 ⟨rfl, hb11⟩
    have hts11 := hts10.call hb11
    have hrw11 := hrw10.belowAll hb11
    clear hts10 hrw10 hb11 hvx
    go_wp2_with (at_builtin; refine wpList_appS _ rfl (.tmp 72) (.tmp 73) rfl B _ La rfl hts11.row S rfl (by omega) (by omega) hts11.le ?_; intro v12 w12 hb12 hk12)
    have hts12 := hts11.step hb12 hk12
    have hrw12 := hrw11.kp hk12
    clear hts11 hrw11 hb12 hk12
    go_roundw
    case rel => first | exact ⟨j + 1, _, by go_num, by omega, hts12, hrw12, by have := HTG.out; rw [HF.out, HS.out] at this; exact this, by simp; omega⟩ | ((repeat apply Exists.intro); exact ⟨⟨j + 1, _, by go_num, by omega, hts12, hrw12, by have := HTG.out; rw [HF.out, HS.out] at this; exact this, by simp; omega⟩, rfl⟩)
    case measure => simp [intOf]; omega
  ·obtain rfl : j = rl.length := by omega
   have HTG : Hid (L = l ++ textE x) := by show _ = _; have := HLE.out; rw [List.drop_length] at this; simpa [rowT] using this
   go_wp2_with fail
   go_ret
   exact ⟨_, rfl, by rw [← HTG.out]; exact hts.row, hts.kp⟩
end Go.Proofs.YtjldbbcdhdfliaaGreatDoor
