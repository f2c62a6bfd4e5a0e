/-
 Walks over package trace: bytes.
-/
import Derived.Test.YtjldbbcdhdfliaaGreatDoorTf
import Derived.Test.YtjldbbcdhdfliaaGreatDoorTeTs
import Derived.StillTailTactics
import Derived.Test.YtjldbbcdhdfliaaGreatDoorToTp
import Derived.Test.YtjldbbcdhdfliaaGreatDoorTgTh
import Derived.Test.YtjldbbcdhdfliaaGreatDoorTmTq
import Derived.Deep.Onto
namespace Go.Proofs.YtjldbbcdhdfliaaGreatDoor
open Go.RowKit Go.Sort

/-- A field's bytes. -/
def fldB (x : Ev) (i : Nat) : List UInt8 := if i = 4 then leb (txt x.v).length ++ txt x.v else leb (x.fld i - leastE i).toNat
def rowB (x : Ev) : List Nat → List UInt8
 | [] => []
 | i :: r => fldB x i ++ rowB x r
/-- An event's bytes, behind one with that Step. -/
def bytesE (x : Ev) (last : Int) : List UInt8 := UInt8.ofNat x.k.toNat :: (leb (x.st - last).toNat ++ (leb x.th.toNat ++ rowB x (rowE x.k)))
theorem rowB_cons {x : Ev} {l : List Nat} {j : Nat} (hj : j < l.length) : rowB x (l.drop j) = fldB x l[j] ++ rowB x (l.drop (j + 1)) := by
 rw [List.drop_eq_getElem_cons hj, rowB]
theorem putI_any (B : Nat) (z : Int) (hz : 0 ≤ z) (hz2 : z ≤ 9223372036854775808) (bv : Value) (l : List UInt8) (w : World) (hrow : Byt B w bv l) (hB : B ≤ w.heap.size) (hl : l.length ≤ 10000000000) :
  Calls Tryz.prog 92 #[bv, .int .u64 z] w fun e w' => ∃ v', e = .returned v' ∧ Byt B w' v' (l ++ leb z.toNat) ∧ Kp B w w' := by
 obtain ⟨n, rfl⟩ : ∃ n : Nat, z = (n : Nat) := ⟨z.toNat, by omega⟩
 rw [Int.toNat_natCast]
 exact put_any B n (by omega) bv l w hrow hB hl
theorem putE_any (B : Nat) (z' z : Int) (he : z' = z) (hz : 0 ≤ z) (hz2 : z ≤ 9223372036854775808) (bv : Value) (l : List UInt8) (w : World) (hrow : Byt B w bv l) (hB : B ≤ w.heap.size) (hl : l.length ≤ 10000000000) :
  Calls Tryz.prog 92 #[bv, .int .u64 z'] w fun e w' => ∃ v', e = .returned v' ∧ Byt B w' v' (l ++ leb z.toNat) ∧ Kp B w w' := by
 subst he
 exact putI_any B z' hz hz2 bv l w hrow hB hl
theorem wrapU {n : Int} (h1 : -1 ≤ n) (h2 : n ≤ 9223372036854775807) : IntKind.u64.wrap (IntKind.u64.wrap n + 1) = n + 1 := by
 rw [IntKind.wrap_u64, IntKind.wrap_u64]
 omega
theorem fneq0 (w : World) : (binOp .neq 123 (.func (.func 69) #[] #[]) Value.nilFunc).run Tryz.prog w = .ok (.bool true) w := by kernel_rfl
theorem fneq1 (w : World) : (binOp .neq 123 (.func (.func 70) #[] #[]) Value.nilFunc).run Tryz.prog w = .ok (.bool true) w := by kernel_rfl
theorem fneq2 (w : World) : (binOp .neq 123 (.func (.func 71) #[] #[]) Value.nilFunc).run Tryz.prog w = .ok (.bool true) w := by kernel_rfl
theorem fneq3 (w : World) : (binOp .neq 123 (.func (.func 72) #[] #[]) Value.nilFunc).run Tryz.prog w = .ok (.bool true) w := by kernel_rfl
theorem fneq4 (w : World) : (binOp .neq 123 Value.nilFunc Value.nilFunc).run Tryz.prog w = .ok (.bool false) w := by kernel_rfl
set_option maxRecDepth 100000 in
set_option maxHeartbeats 8000000 in
theorem tbytes_any (B b mb : Nat) (x : Ev) (v : Value) (bv : Value) (l : List UInt8) (last : Int) (w : World) (hT : TabT w b mb) (hbB : b < B) (hmB : mb < B) (hx : IsE (· < B) w x v) (hrow : Byt B w bv l) (hB : B ≤ w.heap.size) (hB5 : 5 ≤ B) (hl : l.length ≤ 1000000000) (hE : Env w) (hr : rightE x = true) (hla : 0 ≤ last) (hls : last ≤ x.st) :
  Calls Tryz.prog 60 #[.pointer (some ⟨b, 0, none⟩), bv, v, .int .i64 last] w fun e w' => ∃ v', e = .returned v' ∧ Byt B w' v' (l ++ bytesE x last) ∧ Kp B w w' := by
 obtain ⟨kk, nn, a, len, cap, rfl, hv, hrg⟩ := hx
 obtain ⟨hk, hst, hth⟩ := right_has hr
 have hb1 := below_alloc w (.cells (evC x kk nn a len cap) 29)
 have hts1 : TXS B x kk nn a len cap w w.heap.size (w.alloc (.cells (evC x kk nn a len cap) 29)) bv l := ⟨hrow.below hb1, heap_alloc_new _ _, Kp.all hB hb1, by simp; omega⟩
 have HT : ∀ W, Kp B w W → TabT W b mb := fun W h => hT.below h.b hbB hmB
 have HE : ∀ W, Kp B w W → Env W := fun W h => hE.below h.b hB5
 have HV : ∀ W, Kp B w W → B ≤ W.heap.size → IsV (· < W.heap.size) W x.v (.agg #[.int .i64 kk, .int .i64 nn, .slice a len cap]) := fun W h h2 => (hv.below h.b).more fun g hg => by omega
 have HTH := Lib.hid HT
 have HEH := Lib.hid HE
 have HVH := Lib.hid HV
 have HR := Lib.hid hr
 clear HT HE HV hT hE hv hrow hb1 hr
 unfold evC at hts1 ⊢
 have hkk : 1 ≤ x.k ∧ x.k ≤ 9 := by unfold hasE at hk; simp at hk; omega
 obtain ⟨hk1, hk9⟩ := hkk
 have hs1 := hrg.st.1
 have hs2 := hrg.st.2
 have ht2 := hrg.th.2
 obtain ⟨bva, bvn, bvc, rfl⟩ := hts1.row.form
 go_enter Tryz.func60, Tryz.ntmps60
 go_upto_region 1 with fail
 generalize w.alloc (.cells #[.int .i64 x.k, .int .i64 x.st, .int .i64 x.th, .int .i64 x.sy, .int .i64 x.br, .int .i64 x.pa, .int .i64 x.n, .int .i64 kk, .int .i64 nn, .slice a len cap] 29) = w1 at *
 generalize w.heap.size = eb at *
 have hts2 := hts1.call (below_alloc w1 (.cells #[.int .u8 x.k] 5))
 obtain ⟨c, hc⟩ : ∃ c, UInt8.ofNat x.k.toNat = c := ⟨_, rfl⟩
 have hcm : (c.toNat : Int) = x.k := by rw [← hc]; simp; omega
 have HC := Lib.hid hc
 have hg : (w1.alloc (.cells #[.int .u8 x.k] 5)).heap[w1.heap.size]? = some (.cells #[.int .u8 (c.toNat : Nat)] 5 (0, 0)) := by rw [hcm]; exact heap_alloc_new _ _
 have HG := Lib.hid hg
 clear hc hcm hg
 obtain ⟨c0, c1, c2, -⟩ := hts1.c
 go_wp2_with (at_builtin; refine wpList_app1 _ rfl (.tmp 14) (.tmp 18) rfl B _ l rfl hts2.row _ c rfl HG.out (by omega) hts2.le ?_; intro v4 w4 hb4 hk4; have hts4 := hts2.step hb4 hk4; obtain ⟨d0, d1, d2, -⟩ := hts4.c)
 clear hb4 hk4 hts1 hts2
 obtain ⟨L4, hL4⟩ : ∃ L4, l ++ [c] = L4 := ⟨_, rfl⟩
 have hlL4 : L4.length ≤ 1000000001 := by rw [← hL4]; simp; omega
 rw [hL4] at hts4
 have HL4 := Lib.hid hL4
 clear hL4
 have hlb5 := leb_len (n := (x.st - last).toNat) (by omega)
 have hlb6 := leb_len (n := x.th.toNat) (by omega)
 obtain ⟨ba4, bn4, bc4, rfl⟩ := hts4.row.form
 refine (putI_any B (x.st - last) (by omega) (by omega) _ L4 _ hts4.row hts4.le (by omega)).mono ?_
 rintro e w5 ⟨v5, rfl, hb5, hk5⟩
 have hts5 := hts4.step hb5 hk5
 clear hts4 hb5 hk5 d0 d1 d2 c0 c1 c2
 obtain ⟨L5, hL5⟩ : ∃ L5, L4 ++ leb (x.st - last).toNat = L5 := ⟨_, rfl⟩
 have hlL5 : L5.length ≤ 1000000011 := by rw [← hL5]; simp; omega
 rw [hL5] at hts5
 have HL5 := Lib.hid hL5
 clear hL5
 obtain ⟨c0, c1, c2, -⟩ := hts5.c
 obtain ⟨ba5, bn5, bc5, rfl⟩ := hts5.row.form
 go_wp2_with fail
 refine (putI_any B x.th hth (by omega) _ L5 _ hts5.row hts5.le (by omega)).mono ?_
 rintro e w6 ⟨v6, rfl, hb6, hk6⟩
 have hts6 := hts5.step hb6 hk6
 clear hts5 hb6 hk6 c0 c1 c2
 obtain ⟨L6, hL6⟩ : ∃ L6, L5 ++ leb x.th.toNat = L6 := ⟨_, rfl⟩
 have hlL6 : L6.length ≤ 1000000021 := by rw [← hL6]; simp; omega
 rw [hL6] at hts6
 have HL6 := Lib.hid hL6
 clear hL6
 have HTGT : Hid (L6 ++ rowB x (rowE x.k) = l ++ bytesE x last) := by
  show _ = _
  unfold bytesE
  rw [HC.out, ← HL6.out, ← HL5.out, ← HL4.out]
  simp
 clear HL4 HL5 HL6 hlL4 hlL5 hlb5 hlb6
 obtain ⟨c0, -⟩ := hts6.c
 obtain ⟨ba6, bn6, bc6, rfl⟩ := hts6.row.form
 go_wp2_with fail
 refine (row_any x.k _).mono ?_
 rintro e w10 ⟨⟨rv, rfl, hrow, -⟩, hb10⟩
 obtain ⟨ra, rfl⟩ := hrow.form
 have hts10 := hts6.call hb10
 clear hts6 hb10 c0
 have HRL := Lib.hid (row_lt x.k)
 have hll := row_len x.k
 obtain ⟨rl, hrl⟩ : ∃ rl, rowE x.k = rl := ⟨_, rfl⟩
 have HRW := Lib.hid hrl
 rw [hrl] at hrow hll ⊢
 have HTG : Hid (L6 ++ rowB x rl = l ++ bytesE x last) := by have := HTGT.out; rw [hrl] at this; exact this
 clear hrl HTGT
 go_wp2_with fail
 go_loopw [1, 36] (fun bw i wr => ∃ (j : Nat) (L : List UInt8), i = .int .i64 (j : Nat) ∧ j ≤ rl.length ∧ TXS B x kk nn a len cap w eb wr bw L ∧ RowM wr rl (.slice ra rl.length rl.length) ∧ L ++ rowB x (rl.drop j) = l ++ bytesE x last ∧ L.length ≤ 1000000021 + 10300 * j) (fun _ i _ => rl.length - (intOf i).toNat)
 case atStart => exact ⟨0, L6, rfl, by omega, hts10, hrow, HTG.out, by omega⟩
 case round =>
  clear hts10 hrow HTG hlL6
  obtain ⟨j, L, rfl, hj, hts, hrw, hLe, hLl⟩ := hrel
  have HLE := Lib.hid hLe
  clear hLe
  obtain ⟨ba, bn, bc, rfl⟩ := hts.row.form
  by_cases hlt : j < rl.length
  ·have hd3 : decide (j < rl.length) = true := by simpa using hlt
   obtain ⟨g, hra, hg, hc⟩ := hrw.at_ hlt
   have hi5 : rl[j] < 5 := HRL.out _ (by rw [HRW.out]; exact List.getElem_mem _)
   have HIN : Hid (rl[j] ∈ rowE x.k) := by show _ ∈ _; rw [HRW.out]; exact List.getElem_mem _
   have HCO : Hid (L ++ (fldB x rl[j] ++ rowB x (rl.drop (j + 1))) = l ++ bytesE x last) := by show _ = _; rw [← rowB_cons hlt]; exact HLE.out
   clear HLE
   subst hra
   obtain ⟨i, hi⟩ : ∃ i, rl[j] = i := ⟨_, rfl⟩
   rw [hi] at hc hi5
   have HIN2 : Hid (i ∈ rowE x.k) := by have := HIN.out; rw [hi] at this; exact this
   have HCO2 : Hid (L ++ (fldB x i ++ rowB x (rl.drop (j + 1))) = l ++ bytesE x last) := by have := HCO.out; rw [hi] at this; exact this
   clear hi HIN HCO
   obtain ⟨t0, t1, t2, t3, t4, t5, t6, t7, t8, t9, t10, t11, t12, t13, t14⟩ := (HTH.out _ hts.kp).cells
   have h5 : i = 0 ∨ i = 1 ∨ i = 2 ∨ i = 3 ∨ i = 4 := by omega
   rcases h5 with rfl | rfl | rfl | rfl | rfl
   ·go_upto_region 8 with fail
    have hts10 := hts.call (below_alloc wr (.cells #[.string ⟨#[115, 121, 110, 99]⟩, .int .i64 0, .func (.func 69) #[] #[]] 125))
    have hrw10 := hrw.belowAll (below_alloc wr (.cells #[.string ⟨#[115, 121, 110, 99]⟩, .int .i64 0, .func (.func 69) #[] #[]] 125))
    have hff := heap_alloc_new wr (.cells #[.string ⟨#[115, 121, 110, 99]⟩, .int .i64 0, .func (.func 69) #[] #[]] 125)
    clear hts hrw t0 t1 t2 t3 t4 t5 t6 t7 t8 t9 t10 t11 t12 t13 t14 hc hg
    generalize wr.alloc (.cells #[.string ⟨#[115, 121, 110, 99]⟩, .int .i64 0, .func (.func 69) #[] #[]] 125) = wf at *
    generalize wr.heap.size = fb at *
    have f1 : wf.cell? ⟨fb, 1, none⟩ = some (.int .i64 0) := by simp [World.cell?, hff]
    have f2 : wf.cell? ⟨fb, 2, none⟩ = some (.func (.func 69) #[] #[]) := by simp [World.cell?, hff]
    have hnf := fneq0
    obtain ⟨c0, c1, c2, c3, c4, c5, c6, c7, c8, c9⟩ := hts10.c
    have hge := right_fld HR.out HIN2.out (by omega)
    simp only [Ev.fld, leastE] at hge
    have hge0 : (0 : Int) ≤ x.sy := by simpa using hge
    have hhi := hrg.sy.2
    go_upto_region 9 with fail
    have hen := enters_of Tryz.func69 (by kernel_rfl) rfl
    go_still_tail 12, (by kernel_rfl)
    still_call (Calls.mono (at0_any _ _) (fun _ _ h => ⟨h.1, h.2.symm⟩))
    repeat still_step
    refine wpStill_nil ?_
    have hts11 := hts10.call (W' := wf.drew) ⟨rfl, rfl, rfl, Nat.le_refl _, fun _ _ => rfl⟩
    have hrw11 := hrw10.belowAll (w' := wf.drew) ⟨rfl, rfl, rfl, Nat.le_refl _, fun _ _ => rfl⟩
    have HF : Hid (fldB x 0 = leb (x.sy).toNat) := by show _ = _; unfold fldB; rw [if_neg (by decide)]; simp [Ev.fld, leastE]
    have hlb := leb_len (n := (x.sy).toNat) (by omega)
    clear hts10 hrw10 c0 c1 c2 c3 c4 c5 c6 c7 c8 c9 f1 f2 hnf hen hff
    go_wp2_with fail
    ((with_reducible refine (putE_any B _ (x.sy) (Int.add_zero _) (by omega) (by omega) _ L _ hts11.row hts11.le (by omega)).mono ?_); rintro e w12 ⟨v12, rfl, hb12, hk12⟩)
    have hts12 := hts11.step hb12 hk12
    have hrw12 := hrw11.kp hk12
    obtain ⟨ba12, bn12, bc12, rfl⟩ := hts12.row.form
    clear hts11 hrw11 hb12 hk12
    go_wp2_with fail
    go_roundw
    case rel => first | exact ⟨j + 1, _, by go_num, by omega, hts12, hrw12, by rw [← HCO2.out, HF.out]; simp, by simp; omega⟩ | ((repeat apply Exists.intro); exact ⟨⟨j + 1, _, by go_num, by omega, hts12, hrw12, by rw [← HCO2.out, HF.out]; simp, by simp; omega⟩, rfl⟩)
    case measure => simp [intOf]; omega
   ·go_upto_region 8 with fail
    have hts10 := hts.call (below_alloc wr (.cells #[.string ⟨#[98, 114, 97, 110, 99, 104]⟩, .int .i64 0, .func (.func 70) #[] #[]] 125))
    have hrw10 := hrw.belowAll (below_alloc wr (.cells #[.string ⟨#[98, 114, 97, 110, 99, 104]⟩, .int .i64 0, .func (.func 70) #[] #[]] 125))
    have hff := heap_alloc_new wr (.cells #[.string ⟨#[98, 114, 97, 110, 99, 104]⟩, .int .i64 0, .func (.func 70) #[] #[]] 125)
    clear hts hrw t0 t1 t2 t3 t4 t5 t6 t7 t8 t9 t10 t11 t12 t13 t14 hc hg
    generalize wr.alloc (.cells #[.string ⟨#[98, 114, 97, 110, 99, 104]⟩, .int .i64 0, .func (.func 70) #[] #[]] 125) = wf at *
    generalize wr.heap.size = fb at *
    have f1 : wf.cell? ⟨fb, 1, none⟩ = some (.int .i64 0) := by simp [World.cell?, hff]
    have f2 : wf.cell? ⟨fb, 2, none⟩ = some (.func (.func 70) #[] #[]) := by simp [World.cell?, hff]
    have hnf := fneq1
    obtain ⟨c0, c1, c2, c3, c4, c5, c6, c7, c8, c9⟩ := hts10.c
    have hge := right_fld HR.out HIN2.out (by omega)
    simp only [Ev.fld, leastE] at hge
    have hge0 : (0 : Int) ≤ x.br := by simpa using hge
    have hhi := hrg.br.2
    go_upto_region 9 with fail
    have hen := enters_of Tryz.func70 (by kernel_rfl) rfl
    go_still_tail 12, (by kernel_rfl)
    still_call (Calls.mono (at1_any _ _) (fun _ _ h => ⟨h.1, h.2.symm⟩))
    repeat still_step
    refine wpStill_nil ?_
    have hts11 := hts10.call (W' := wf.drew) ⟨rfl, rfl, rfl, Nat.le_refl _, fun _ _ => rfl⟩
    have hrw11 := hrw10.belowAll (w' := wf.drew) ⟨rfl, rfl, rfl, Nat.le_refl _, fun _ _ => rfl⟩
    have HF : Hid (fldB x 1 = leb (x.br).toNat) := by show _ = _; unfold fldB; rw [if_neg (by decide)]; simp [Ev.fld, leastE]
    have hlb := leb_len (n := (x.br).toNat) (by omega)
    clear hts10 hrw10 c0 c1 c2 c3 c4 c5 c6 c7 c8 c9 f1 f2 hnf hen hff
    go_wp2_with fail
    ((with_reducible refine (putE_any B _ (x.br) (Int.add_zero _) (by omega) (by omega) _ L _ hts11.row hts11.le (by omega)).mono ?_); rintro e w12 ⟨v12, rfl, hb12, hk12⟩)
    have hts12 := hts11.step hb12 hk12
    have hrw12 := hrw11.kp hk12
    obtain ⟨ba12, bn12, bc12, rfl⟩ := hts12.row.form
    clear hts11 hrw11 hb12 hk12
    go_wp2_with fail
    go_roundw
    case rel => first | exact ⟨j + 1, _, by go_num, by omega, hts12, hrw12, by rw [← HCO2.out, HF.out]; simp, by simp; omega⟩ | ((repeat apply Exists.intro); exact ⟨⟨j + 1, _, by go_num, by omega, hts12, hrw12, by rw [← HCO2.out, HF.out]; simp, by simp; omega⟩, rfl⟩)
    case measure => simp [intOf]; omega
   ·go_upto_region 8 with fail
    have hts10 := hts.call (below_alloc wr (.cells #[.string ⟨#[112, 97, 114, 116, 110, 101, 114]⟩, .int .i64 (-1), .func (.func 71) #[] #[]] 125))
    have hrw10 := hrw.belowAll (below_alloc wr (.cells #[.string ⟨#[112, 97, 114, 116, 110, 101, 114]⟩, .int .i64 (-1), .func (.func 71) #[] #[]] 125))
    have hff := heap_alloc_new wr (.cells #[.string ⟨#[112, 97, 114, 116, 110, 101, 114]⟩, .int .i64 (-1), .func (.func 71) #[] #[]] 125)
    clear hts hrw t0 t1 t2 t3 t4 t5 t6 t7 t8 t9 t10 t11 t12 t13 t14 hc hg
    generalize wr.alloc (.cells #[.string ⟨#[112, 97, 114, 116, 110, 101, 114]⟩, .int .i64 (-1), .func (.func 71) #[] #[]] 125) = wf at *
    generalize wr.heap.size = fb at *
    have f1 : wf.cell? ⟨fb, 1, none⟩ = some (.int .i64 (-1)) := by simp [World.cell?, hff]
    have f2 : wf.cell? ⟨fb, 2, none⟩ = some (.func (.func 71) #[] #[]) := by simp [World.cell?, hff]
    have hnf := fneq2
    obtain ⟨c0, c1, c2, c3, c4, c5, c6, c7, c8, c9⟩ := hts10.c
    have hge := right_fld HR.out HIN2.out (by omega)
    simp only [Ev.fld, leastE] at hge
    have hge2 : (-1 : Int) ≤ x.pa := by simpa using hge
    have hhi := hrg.pa.2
    go_upto_region 9 with fail
    have hen := enters_of Tryz.func71 (by kernel_rfl) rfl
    go_still_tail 12, (by kernel_rfl)
    still_call (Calls.mono (at2_any _ _) (fun _ _ h => ⟨h.1, h.2.symm⟩))
    repeat still_step
    refine wpStill_nil ?_
    have hts11 := hts10.call (W' := wf.drew) ⟨rfl, rfl, rfl, Nat.le_refl _, fun _ _ => rfl⟩
    have hrw11 := hrw10.belowAll (w' := wf.drew) ⟨rfl, rfl, rfl, Nat.le_refl _, fun _ _ => rfl⟩
    have HF : Hid (fldB x 2 = leb (x.pa + 1).toNat) := by show _ = _; unfold fldB; rw [if_neg (by decide)]; simp [Ev.fld, leastE]
    have hlb := leb_len (n := (x.pa + 1).toNat) (by omega)
    clear hts10 hrw10 c0 c1 c2 c3 c4 c5 c6 c7 c8 c9 f1 f2 hnf hen hff
    go_wp2_with fail
    ((with_reducible refine (putE_any B _ (x.pa + 1) (wrapU hge2 hhi) (by omega) (by omega) _ L _ hts11.row hts11.le (by omega)).mono ?_); rintro e w12 ⟨v12, rfl, hb12, hk12⟩)
    have hts12 := hts11.step hb12 hk12
    have hrw12 := hrw11.kp hk12
    obtain ⟨ba12, bn12, bc12, rfl⟩ := hts12.row.form
    clear hts11 hrw11 hb12 hk12
    go_wp2_with fail
    go_roundw
    case rel => first | exact ⟨j + 1, _, by go_num, by omega, hts12, hrw12, by rw [← HCO2.out, HF.out]; simp, by simp; omega⟩ | ((repeat apply Exists.intro); exact ⟨⟨j + 1, _, by go_num, by omega, hts12, hrw12, by rw [← HCO2.out, HF.out]; simp, by simp; omega⟩, rfl⟩)
    case measure => simp [intOf]; omega
   ·go_upto_region 8 with fail
    have hts10 := hts.call (below_alloc wr (.cells #[.string ⟨#[110]⟩, .int .i64 0, .func (.func 72) #[] #[]] 125))
    have hrw10 := hrw.belowAll (below_alloc wr (.cells #[.string ⟨#[110]⟩, .int .i64 0, .func (.func 72) #[] #[]] 125))
    have hff := heap_alloc_new wr (.cells #[.string ⟨#[110]⟩, .int .i64 0, .func (.func 72) #[] #[]] 125)
    clear hts hrw t0 t1 t2 t3 t4 t5 t6 t7 t8 t9 t10 t11 t12 t13 t14 hc hg
    generalize wr.alloc (.cells #[.string ⟨#[110]⟩, .int .i64 0, .func (.func 72) #[] #[]] 125) = wf at *
    generalize wr.heap.size = fb at *
    have f1 : wf.cell? ⟨fb, 1, none⟩ = some (.int .i64 0) := by simp [World.cell?, hff]
    have f2 : wf.cell? ⟨fb, 2, none⟩ = some (.func (.func 72) #[] #[]) := by simp [World.cell?, hff]
    have hnf := fneq3
    obtain ⟨c0, c1, c2, c3, c4, c5, c6, c7, c8, c9⟩ := hts10.c
    have hge := right_fld HR.out HIN2.out (by omega)
    simp only [Ev.fld, leastE] at hge
    have hge0 : (0 : Int) ≤ x.n := by simpa using hge
    have hhi := hrg.n.2
    go_upto_region 9 with fail
    have hen := enters_of Tryz.func72 (by kernel_rfl) rfl
    go_still_tail 12, (by kernel_rfl)
    still_call (Calls.mono (at3_any _ _) (fun _ _ h => ⟨h.1, h.2.symm⟩))
    repeat still_step
    refine wpStill_nil ?_
    have hts11 := hts10.call (W' := wf.drew) ⟨rfl, rfl, rfl, Nat.le_refl _, fun _ _ => rfl⟩
    have hrw11 := hrw10.belowAll (w' := wf.drew) ⟨rfl, rfl, rfl, Nat.le_refl _, fun _ _ => rfl⟩
    have HF : Hid (fldB x 3 = leb (x.n).toNat) := by show _ = _; unfold fldB; rw [if_neg (by decide)]; simp [Ev.fld, leastE]
    have hlb := leb_len (n := (x.n).toNat) (by omega)
    clear hts10 hrw10 c0 c1 c2 c3 c4 c5 c6 c7 c8 c9 f1 f2 hnf hen hff
    go_wp2_with fail
    ((with_reducible refine (putE_any B _ (x.n) (Int.add_zero _) (by omega) (by omega) _ L _ hts11.row hts11.le (by omega)).mono ?_); rintro e w12 ⟨v12, rfl, hb12, hk12⟩)
    have hts12 := hts11.step hb12 hk12
    have hrw12 := hrw11.kp hk12
    obtain ⟨ba12, bn12, bc12, rfl⟩ := hts12.row.form
    clear hts11 hrw11 hb12 hk12
    go_wp2_with fail
    go_roundw
    case rel => first | exact ⟨j + 1, _, by go_num, by omega, hts12, hrw12, by rw [← HCO2.out, HF.out]; simp, by simp; omega⟩ | ((repeat apply Exists.intro); exact ⟨⟨j + 1, _, by go_num, by omega, hts12, hrw12, by rw [← HCO2.out, HF.out]; simp, by simp; omega⟩, rfl⟩)
    case measure => simp [intOf]; omega
   ·go_upto_region 8 with fail
    have hts10 := hts.call (below_alloc wr (.cells #[.string ⟨#[118, 97, 108]⟩, .int .i64 0, Value.nilFunc] 125))
    have hrw10 := hrw.belowAll (below_alloc wr (.cells #[.string ⟨#[118, 97, 108]⟩, .int .i64 0, Value.nilFunc] 125))
    have hff := heap_alloc_new wr (.cells #[.string ⟨#[118, 97, 108]⟩, .int .i64 0, Value.nilFunc] 125)
    clear hts hrw t0 t1 t2 t3 t4 t5 t6 t7 t8 t9 t10 t11 t12 t13 t14 hc hg
    generalize wr.alloc (.cells #[.string ⟨#[118, 97, 108]⟩, .int .i64 0, Value.nilFunc] 125) = wf at *
    generalize wr.heap.size = fb at *
    have f1 : wf.cell? ⟨fb, 1, none⟩ = some (.int .i64 0) := by simp [World.cell?, hff]
    have f2 : wf.cell? ⟨fb, 2, none⟩ = some (Value.nilFunc) := by simp [World.cell?, hff]
    have hnf := fneq4
    obtain ⟨c0, c1, c2, c3, c4, c5, c6, c7, c8, c9⟩ := hts10.c
    have hrv := right_val HR.out HIN2.out
    have hvx := HVH.out _ hts10.kp hts10.le
    have htl := right_len hrv hvx.rng
    have HTV := Lib.hid (txt_V hrv)
    obtain ⟨S, hS⟩ : ∃ S : ByteArray, (⟨(txt x.v).toArray⟩ : ByteArray) = S := ⟨_, rfl⟩
    have hSs : S.size ≤ 10240 := by rw [← hS]; simpa [ByteArray.size] using htl
    have HF : Hid (fldB x 4 = leb S.size ++ S.data.toList) := by show _ = _; unfold fldB; rw [if_pos rfl, ← hS]; simp [ByteArray.size]
    have HTV2 : Hid (textV x.v = .tuple #[.string S, .int .i64 0]) := by show _ = _; rw [HTV.out, hS]
    have hlb := leb_len (n := S.size) (by omega)
    clear hS hrv htl HTV
    go_wp2_with fail
    refine (Text_any x.v _ _ hvx (HEH.out _ hts10.kp)).mono ?_
    rw [HTV2.out]
    rintro e w11 ⟨rfl, hb11⟩
    have hts11 := hts10.call hb11
    have hrw11 := hrw10.belowAll hb11
    clear hts10 hrw10 hb11 hvx
    go_wp2_with fail
    refine (put_any B S.size (by omega) _ L _ hts11.row hts11.le (by omega)).mono ?_
    rintro e w12 ⟨v12, rfl, hb12, hk12⟩
    have hts12 := hts11.step hb12 hk12
    have hrw12 := hrw11.kp hk12
    obtain ⟨ba12, bn12, bc12, rfl⟩ := hts12.row.form
    clear hts11 hrw11 hb12 hk12
    obtain ⟨L2, hL2⟩ : ∃ L2, L ++ leb S.size = L2 := ⟨_, rfl⟩
    have hl2 : L2.length ≤ 1000000031 + 10300 * j := by rw [← hL2]; simp; omega
    rw [hL2] at hts12
    have HL2 := Lib.hid hL2
    clear hL2
    go_wp2_with (at_builtin; refine wpList_appS _ rfl (.tmp 75) (.tmp 76) rfl B _ L2 rfl hts12.row S rfl (by omega) (by omega) hts12.le ?_; intro v13 w13 hb13 hk13)
    have hts13 := hts12.step hb13 hk13
    have hrw13 := hrw12.kp hk13
    clear hts12 hrw12 hb13 hk13
    go_roundw
    case rel => first | exact ⟨j + 1, _, by go_num, by omega, hts13, hrw13, by rw [← HCO2.out, HF.out, ← HL2.out]; simp, by simp; omega⟩ | ((repeat apply Exists.intro); exact ⟨⟨j + 1, _, by go_num, by omega, hts13, hrw13, by rw [← HCO2.out, HF.out, ← HL2.out]; simp, by simp; omega⟩, rfl⟩)
    case measure => simp [intOf]; omega
  ·obtain rfl : j = rl.length := by omega
   have HTG : Hid (L = l ++ bytesE x last) := by show _ = _; have := HLE.out; rw [List.drop_length] at this; simpa [rowB] using this
   go_wp2_with fail
   go_ret
   exact ⟨_, rfl, by rw [← HTG.out]; exact hts.row, hts.kp⟩
end Go.Proofs.YtjldbbcdhdfliaaGreatDoor
/-
 Walks over package trace: Encode.
-/
namespace Go.Proofs.YtjldbbcdhdfliaaGreatDoor
open Go.RowKit Go.Sort

def encGo (last : Int) : List Ev → List UInt8
 | [] => []
 | x :: r => bytesE x last ++ encGo x.st r
/-- A trace's bytes. -/
def encB (l : List Ev) : List UInt8 := encGo 0 l ++ sum4 (sumF 1 (encGo 0 l))
set_option maxRecDepth 100000 in
set_option maxHeartbeats 2000000 in
theorem encD_fault (bb eb : Nat) (vb ve : Value) (older : List PanicEntry) (w : World) (hb : B1 w bb 55 vb) (he : B1 w eb 30 ve) (hne : bb ≠ eb) :
  CallsD Tryz.prog 59 #[.pointer (some ⟨eb, 0, none⟩), .pointer (some ⟨bb, 0, none⟩)] (.panicking (FaultE false :: older)) w fun e u' w' =>
   e = .returned (.tuple #[]) ∧ u' = .panicking (FaultE true :: older) ∧ B1 w' bb 55 (.slice none 0 0) ∧ B1 w' eb 30 (.int .i64 230) ∧ ∀ B, B ≤ bb → B ≤ eb → B ≤ w.heap.size → Below B w w' := by
 unfold FaultE
 refine callsD_of_wpS Tryz.func59 rfl fun c₀ cs hu => ?_
 apply wpS_seq
 apply wpS_region
 simp [wpOpsS, go_sem, recoverD, hu, Tryz.ntmps59, Exit.thenS]
 refine (catch_fault eb ve w he).mono ?_
 rintro e w1 ⟨rfl, he1, hg1⟩
 have hb1 := hb.gr hg1 hne
 have c0 := he1.c
 have c1 := hb1.c
 have f1 := hb1.fz 0
 refine wpS_of_wp ?_
 simp only [Array.replicate_succ, Array.replicate_zero, List.push_toArray, List.append_toArray, List.nil_append, List.cons_append, List.setIfInBounds_toArray, List.set_cons_succ, List.set_cons_zero]
 go_wp2_with fail
 refine ⟨rfl, _, rfl, .tuple #[], results_none rfl _ _ _, rfl, rfl, hb1.set _, he1.far (fun e => hne e.symm) _, fun B h1 h2 h3 => ?_⟩
 exact (hg1.belowOf h2 h3).setCell (p := ⟨bb, 0, none⟩) h1 _
set_option maxRecDepth 100000 in
set_option maxHeartbeats 1000000 in
theorem encD_none (bb eb : Nat) (w : World) (he : B1 w eb 30 (.int .i64 0)) :
  CallsD Tryz.prog 59 #[.pointer (some ⟨eb, 0, none⟩), .pointer (some ⟨bb, 0, none⟩)] .returning w fun e u' w' => e = .returned (.tuple #[]) ∧ u' = .returning ∧ w' = w := by
 refine callsD_of_wpS Tryz.func59 rfl fun c₀ cs hu => ?_
 apply wpS_seq
 apply wpS_region
 simp [wpOpsS, go_sem, recoverD, hu, Tryz.ntmps59, Exit.thenS]
 refine (catch_nil _ w).mono ?_
 rintro e w1 ⟨rfl, rfl⟩
 have c0 := he.c
 refine wpS_of_wp ?_
 simp only [Array.replicate_succ, Array.replicate_zero, List.push_toArray, List.append_toArray, List.nil_append, List.cons_append, List.setIfInBounds_toArray, List.set_cons_succ, List.set_cons_zero]
 go_wp2_with fail
 cases c₀
 refine ⟨rfl, _, rfl, .tuple #[], results_none rfl _ _ _, rfl, ?_, rfl⟩
 exact hu
/-- What stands in Encode. -/
structure EnI (bb eb b mb lo : Nat) (w W : World) (v : Value) (L : List UInt8) : Prop where
 bc : B1 W bb 55 v
 ec : B1 W eb 30 (.int .i64 0)
 row : Byt lo W v L
 tt : TabT W b mb
 bd : Below w.heap.size w W
 en : Env W
 le : lo ≤ W.heap.size
 o0 : w.heap.size = bb
 o1 : bb + 1 = eb
 o2 : eb < b
 o3 : eb < mb
 o4 : b < lo
 o5 : mb < lo
 o9 : 5 ≤ w.heap.size
section
variable {bb eb b mb lo : Nat} {w W W1 W' : World} {v v' : Value} {L L' : List UInt8}
theorem EnI.below (h : EnI bb eb b mb lo w W v L) (hb : Below W.heap.size W W') : EnI bb eb b mb lo w W' v L :=
 ⟨h.bc.belowAll hb, h.ec.belowAll hb, h.row.below hb, h.tt.belowAll hb, h.bd.trans (hb.mono h.bd.size), h.en.below (hb.mono (B' := w.heap.size) h.bd.size) h.o9, Nat.le_trans h.le hb.size, h.o0, h.o1, h.o2, h.o3, h.o4, h.o5, h.o9⟩
theorem Byt.far {B : Nat} {q : Addr} {u : Value} (h : Byt B W v L) (hq : q.block < B) : Byt B (W.setCell q u) v L := by
 obtain ⟨h1, h2⟩ := h
 refine ⟨h1, ?_⟩
 rcases h2 with h2 | ⟨g, cap, cur, e1, e2, e3, e4⟩
 ·exact .inl h2
 ·exact .inr ⟨g, cap, cur, e1, e2, (Below.heap_setCell _ _ _ _ (by omega)).trans e3, e4⟩
theorem EnI.next (h : EnI bb eb b mb lo w W v L) (hk : Kp lo W W1) (hr : Byt lo W1 v' L') : EnI bb eb b mb lo w (W1.setCell ⟨bb, 0, none⟩ v') v' L' := by
 have e0 := h.o0
 have e1 := h.o1
 have e2 := h.o2
 have e3 := h.o3
 have e4 := h.o4
 have e5 := h.o5
 have hb1 : B1 W1 bb 55 v := hk.k _ _ _ _ h.bc (by decide)
 have he1 : B1 W1 eb 30 (.int .i64 0) := hk.k _ _ _ _ h.ec (by decide)
 have hbw : Below w.heap.size W (W1.setCell ⟨bb, 0, none⟩ v') := (hk.b.mono (by omega)).setCell (p := ⟨bb, 0, none⟩) (by simp; omega) _
 refine ⟨hb1.set _, he1.far (by simp; omega) _, hr.far (by simp; omega), ⟨(Below.heap_setCell _ _ _ _ (by simp; omega)).trans ((hk.b.block b h.o4).trans h.tt.c), h.tt.m.block ((Below.heap_setCell _ _ _ _ (by simp; omega)).trans (hk.b.block mb h.o5))⟩, h.bd.trans hbw, h.en.below hbw h.o9, ?_, h.o0, h.o1, h.o2, h.o3, h.o4, h.o5, h.o9⟩
 have := hk.size
 have := h.le
 simp [World.setCell]
 omega
end
/-- How Encode ends. -/
def EncEnds (l : List Ev) (w : World) (e : Ending) (w' : World) : Prop := (match firstW l with
 | none => ∃ v, e = .returned (.tuple #[v, .int .i64 0]) ∧ Byt w.heap.size w' v (encB l)
 | some _ => e = .returned (.tuple #[.slice none 0 0, .int .i64 230])) ∧ Below w.heap.size w w'
theorem right_of_none {l : List Ev} (h : firstW l = none) {k : Nat} {x : Ev} (hx : l[k]? = some x) : rightE x = true ∧ ∀ (j : Nat) (y : Ev), k = j + 1 → l[j]? = some y → y.st ≤ x.st := by
 have hk := (List.getElem?_eq_some_iff.1 hx).1
 have hw : wrongAt l k = false := by
  unfold firstW at h
  rw [List.find?_eq_none] at h
  have := h k (by simpa using hk)
  simpa using this
 unfold wrongAt at hw
 rw [hx] at hw
 simp only [Bool.or_eq_false_iff, Bool.not_eq_false'] at hw
 refine ⟨hw.1, ?_⟩
 rintro j y rfl hy
 have h2 := hw.2
 simp only [hy] at h2
 simpa using h2
theorem sum4_cells (n : Nat) : ([.int .u8 ((n : Int) % 256), .int .u8 ((n : Int) / 256 % 256), .int .u8 ((n : Int) / 65536 % 256), .int .u8 ((n : Int) / 16777216 % 256)] : List Value) = Lib.byteCells (sum4 n) := by
 unfold sum4 Lib.byteCells
 simp
section
variable {ops : Array Oper} {rest : List Oper} {o : Oper} {a : Act} {Q : Exit → Act → World → Prop}
/-- append(b, c...), c four bytes. -/
theorem wpList_app4 (w : World) (hgd : o.guard = none) (s x : Operand) (ho : o.op = .call { callee := .builtin .append, args := #[s, x], argTypes := #[55, 55] })
  (B : Nat) (bv : Value) (l : List UInt8) (hs : a.eval s = bv) (hrow : Byt B w bv l) (g n : Nat) (hx : a.eval x = .slice (some ⟨g, 0, none⟩) 4 4) (hg : w.heap[g]? = some (.cells #[.int .u8 ((n : Int) % 256), .int .u8 ((n : Int) / 256 % 256), .int .u8 ((n : Int) / 65536 % 256), .int .u8 ((n : Int) / 16777216 % 256)] 101 (0, 0)))
  (hl : l.length ≤ 100000000000) (hB : B ≤ w.heap.size) (h : ∀ v' w', Byt B w' v' (l ++ sum4 n) → Kp B w w' → wpList Tryz.prog ops Q rest (a.put o.dst v') w') : wpList Tryz.prog ops Q (o :: rest) a w := by
 obtain ⟨i0, hi0, hz0, hz1, hz2⟩ := info_parts u8_info
 refine wpList_append_lies w hgd s x 55 ho B 5 i0 _ 1 1 Tryz.underlying55 hi0 hz0 hz1 hz2 rfl (by decide) bv l.length (Lib.byteCells l) hs hrow ⟨g, 0, none⟩ 4 4 [.int .u8 ((n : Int) % 256), .int .u8 ((n : Int) / 256 % 256), .int .u8 ((n : Int) / 65536 % 256), .int .u8 ((n : Int) / 16777216 % 256)] hx rfl (World.news_of_block hg) (by simp [Value.oneCell']) (by omega) (by unfold maxLen; omega) (by omega) hB _ rfl ?_
 intro g' cap w' hown hgrow _ _
 refine h _ w' ?_ (Kp.grown hrow hB hgrow)
 unfold Byt
 rw [bytes_app, List.length_append, ← sum4_cells]
 exact hown
end
theorem rowB_len {x : Ev} : ∀ l : List Nat, (∀ i ∈ l, (fldB x i).length ≤ 10300) → (rowB x l).length ≤ 10300 * l.length
 | [], _ => by simp [rowB]
 | i :: r, h => by
  have h1 := h i (by simp)
  have h2 := rowB_len r fun j hj => h j (by simp [hj])
  rw [rowB]
  simp
  omega
theorem bytesE_len {x : Ev} {last : Int} (hr : rightE x = true) (hg : RngE x) (hv : AllR x.v) (hla : 0 ≤ last) : (bytesE x last).length ≤ 60000 := by
 have hll := row_len x.k
 have h1 := leb_len (n := (x.st - last).toNat) (by have := hg.st.2; omega)
 have h2 := leb_len (n := x.th.toNat) (by have := hg.th.2; omega)
 have h3 := rowB_len (x := x) (rowE x.k) (fun i hi => by
  have h5 := row_lt x.k i hi
  unfold fldB
  by_cases h4 : i = 4
  ·subst h4
   rw [if_pos rfl]
   have h6 := right_len (right_val hr hi) hv
   have h7 := leb_len (n := (txt x.v).length) (by omega)
   simp
   omega
  ·rw [if_neg h4]
   have h7 := leb_len (n := (x.fld i - leastE i).toNat) (by
    have h8 : x.fld i ≤ 9223372036854775807 := by
     match i, h5, h4 with
     | 0, _, _ => exact hg.sy.2
     | 1, _, _ => exact hg.br.2
     | 2, _, _ => exact hg.pa.2
     | 3, _, _ => exact hg.n.2
     | 4, _, h => exact absurd rfl h
     | n + 5, h, _ => exact absurd h (by omega)
    unfold leastE
    split <;> omega)
   omega)
 unfold bytesE
 simp
 omega
set_option maxRecDepth 100000 in
set_option maxHeartbeats 8000000 in
theorem TEncode_any (l : List Ev) (hll : l.length ≤ 1000) (a : Option Addr) (cap : Nat) (w : World) (hE : IsEs (· < w.heap.size) w l a) (hEn : Env w) : Calls Tryz.prog 24 #[.slice a l.length cap] w (EncEnds l w) := by
 have hmf : ∀ (fn : Fn) (first cap : Array Value) (w : World), (Instr.makeFunc fn first cap).run Tryz.prog w = .ok (.func fn first cap) w := fun _ _ _ _ => rfl
 have h0 : Below w.heap.size w ((w.alloc (.cells #[.slice none 0 0] 55)).alloc (.cells #[.int .i64 0] 30)) := (below_alloc _ _).alloc (by simp) _
 have s1 : (w.alloc (.cells #[.slice none 0 0] 55)).heap.size = w.heap.size + 1 := by simp
 have hb0 := (B1.new w 55 (.slice none 0 0)).alloc (.cells #[.int .i64 0] 30)
 have he0 := B1.new (w.alloc (.cells #[.slice none 0 0] 55)) 30 (.int .i64 0)
 rw [s1] at he0
 clear s1
 obtain ⟨r, hr⟩ : ∃ r, firstW l = r := ⟨_, rfl⟩
 have HR := Lib.hid hr
 unfold EncEnds
 rw [hr]
 clear hr
 go_enter_defers Tryz.func24, Tryz.ntmps24
 go_wp2_with fail
 generalize (w.alloc (.cells #[.slice none 0 0] 55)).alloc (.cells #[.int .i64 0] 30) = w1 at *
 refine (tables_any _).mono ?_
 rintro e w2 ⟨b, mb, rfl, hb1, hb2, hT, hb3⟩
 have hbw := h0.trans (hb3.mono h0.size)
 have hb02 := hb0.belowAll hb3
 have he02 := he0.belowAll hb3
 have hlt0 := he0.lt
 clear h0 hb3 hb0 he0
 go_wp2_with fail
 refine (check_any l (by omega) a cap b mb _ hT (hE.later hbw)).mono ?_
 rw [HR.out]
 rintro e w3 ⟨rfl, hb4⟩
 have hI0 : EnI w.heap.size (w.heap.size + 1) b mb w3.heap.size w w3 (.slice none 0 0) [] :=
  ⟨hb02.belowAll hb4, he02.belowAll hb4, Byt.nil _ _, hT.belowAll hb4, hbw.trans (hb4.mono hbw.size), hEn.below (hbw.trans (hb4.mono hbw.size)) hEn.size, Nat.le_refl _, rfl, rfl, by omega, by omega, Nat.lt_of_lt_of_le hT.lt hb4.size, Nat.lt_of_lt_of_le hT.m.lt hb4.size, hEn.size⟩
 clear hbw hb02 he02 hT hb4 hb1 hb2
 cases r with
 | some k =>
  simp only [chkV]
  go_wp2_with fail
  refine (raise_any _).mono ?_
  rintro e w4 ⟨rfl, rfl⟩
  show bodyPostD _ _ _ _ _ _
  refine leaves_cons (f := 59) (args := #[.pointer (some ⟨w.heap.size + 1, 0, none⟩), .pointer (some ⟨w.heap.size, 0, none⟩)]) (by simp) (by simp [go_sem]) ?_
  refine (encD_fault w.heap.size (w.heap.size + 1) _ _ [] _ hI0.bc hI0.ec (by omega)).mono ?_
  rintro e u' w5 ⟨rfl, rfl, hb5, he5, hbb⟩
  refine ⟨.tuple #[.slice none 0 0, .int .i64 230], by simp [results, Tryz.results24, go_sem, hb5.c, he5.c], ?_⟩
  exact ⟨rfl, hI0.bd.trans (hbb _ (Nat.le_refl _) (by omega) hI0.bd.size)⟩
 | none =>
  simp only [chkV]
  generalize w3.heap.size = lo at hI0
  go_wp2_with fail
  go_loopw [7, 23] (fun la i wr => ∃ (j : Nat) (last : Int) (v : Value) (L : List UInt8), la = .int .i64 last ∧ i = .int .i64 (j : Nat) ∧ j ≤ l.length ∧ EnI w.heap.size (w.heap.size + 1) b mb lo w wr v L ∧ L ++ encGo last (l.drop j) = encGo 0 l ∧ 0 ≤ last ∧ (∀ x, l[j]? = some x → last ≤ x.st) ∧ L.length ≤ 60000 * j) (fun _ i _ => l.length - (intOf i).toNat)
  case atStart => exact ⟨0, 0, _, [], rfl, rfl, Nat.zero_le _, hI0, rfl, Int.le_refl _, fun x hx => (right_has (right_of_none HR.out hx).1).2.1, by simp⟩
  case round =>
   clear hI0
   obtain ⟨j, last, v, L, rfl, rfl, hj, hI, hLe, hla, hls, hLl⟩ := hrel
   obtain ⟨va, vn, vc, rfl⟩ := hI.row.form
   have HLE := Lib.hid hLe
   have HLS := Lib.hid hls
   clear hLe hls
   by_cases hlt : j < l.length
   ·have hd1 : decide (j < l.length) = true := by simpa using hlt
    obtain ⟨x, hx⟩ : ∃ x, l[j]? = some x := ⟨l[j], List.getElem?_eq_getElem hlt⟩
    have hrx := right_of_none HR.out hx
    have hlx := HLS.out x hx
    obtain ⟨g, o, kk, nn, a2, len2, cap2, ha, hg, hcel, hv, hrg⟩ := hE j x hx
    subst ha
    have hbd := hI.bd
    have hcW : ∀ i u, (evC x kk nn a2 len2 cap2)[i]? = some u → wr.cell? ⟨g, o + j * 10 + i, none⟩ = some u := fun i u hi => (hbd.cell (p := ⟨g, o + j * 10 + i, none⟩) hg).trans (hcel i u hi)
    have e0 : wr.cell? ⟨g, o + j * 10, none⟩ = some (.int .i64 x.k) := hcW 0 (.int .i64 x.k) rfl
    have e1 := hcW 1 (.int .i64 x.st) rfl
    have e2 := hcW 2 (.int .i64 x.th) rfl
    have e3 := hcW 3 (.int .i64 x.sy) rfl
    have e4 := hcW 4 (.int .i64 x.br) rfl
    have e5 := hcW 5 (.int .i64 x.pa) rfl
    have e6 := hcW 6 (.int .i64 x.n) rfl
    have e7 := hcW 7 (.int .i64 kk) rfl
    have e8 := hcW 8 (.int .i64 nn) rfl
    have e9 := hcW 9 (.slice a2 len2 cap2) rfl
    have HB : Hid ((bytesE x last).length ≤ 60000) := bytesE_len hrx.1 hrg hv.rng hla
    have HST : Hid (∀ y, l[j + 1]? = some y → x.st ≤ y.st) := fun y hy => (right_of_none HR.out hy).2 j x rfl hx
    have HRX := Lib.hid hrx.1
    have HDR : Hid (l.drop j = x :: l.drop (j + 1)) := by
     show _ = _
     rw [List.drop_eq_getElem_cons hlt]
     congr 1
     have := List.getElem?_eq_getElem hlt
     rw [hx] at this
     injection this with this
     exact this.symm
    have hI2 := hI.below (below_alloc wr (.cells #[.int .i64 x.k, .int .i64 x.st, .int .i64 x.th, .int .i64 x.sy, .int .i64 x.br, .int .i64 x.pa, .int .i64 x.n, .int .i64 kk, .int .i64 nn, .slice a2 len2 cap2] 29))
    have hbe : BE (wr.alloc (.cells #[.int .i64 x.k, .int .i64 x.st, .int .i64 x.th, .int .i64 x.sy, .int .i64 x.br, .int .i64 x.pa, .int .i64 x.n, .int .i64 kk, .int .i64 nn, .slice a2 len2 cap2] 29)) wr.heap.size #[.int .i64 x.k, .int .i64 x.st, .int .i64 x.th, .int .i64 x.sy, .int .i64 x.br, .int .i64 x.pa, .int .i64 x.n, .int .i64 kk, .int .i64 nn, .slice a2 len2 cap2] := heap_alloc_new _ _
    have hbw2 := hI2.bd
    have hxlt := hI.le
    clear hx hrx hcel hcW hI hbd hg
    go_upto_region 10 with fail
    clear e0 e1 e2 e3 e4 e5 e6 e7 e8 e9
    generalize wr.alloc (.cells #[.int .i64 x.k, .int .i64 x.st, .int .i64 x.th, .int .i64 x.sy, .int .i64 x.br, .int .i64 x.pa, .int .i64 x.n, .int .i64 kk, .int .i64 nn, .slice a2 len2 cap2] 29) = w4 at *
    generalize wr.heap.size = xb at *
    obtain ⟨c0, c1, c2, c3, c4, c5, c6, c7, c8, c9⟩ := hbe.c
    have cb := hI2.bc.c
    have o1 := hI2.o1
    have o2 := hI2.o2
    have o4 := hI2.o4
    go_wp2_with fail
    refine (tbytes_any lo b mb x _ _ L last _ hI2.tt hI2.o4 hI2.o5 ⟨kk, nn, a2, len2, cap2, rfl, (hv.below hbw2).more fun g hg => by omega, hrg⟩ hI2.row hI2.le (by have := hI2.o9; omega) (by omega) hI2.en HRX.out hla hlx).mono ?_
    rintro e w5 ⟨v5, rfl, hb5, hk5⟩
    have hI5 := hI2.next hk5 hb5
    have hbb5 : B1 w5 w.heap.size 55 (.slice va vn vc) := hk5.k _ _ _ _ hI2.bc (by decide)
    have hbe5 : BE w5 xb #[.int .i64 x.k, .int .i64 x.st, .int .i64 x.th, .int .i64 x.sy, .int .i64 x.br, .int .i64 x.pa, .int .i64 x.n, .int .i64 kk, .int .i64 nn, .slice a2 len2 cap2] := hk5.k _ _ _ _ hbe (by decide)
    have hbe6 : BE (w5.setCell ⟨w.heap.size, 0, none⟩ v5) xb #[.int .i64 x.k, .int .i64 x.st, .int .i64 x.th, .int .i64 x.sy, .int .i64 x.br, .int .i64 x.pa, .int .i64 x.n, .int .i64 kk, .int .i64 nn, .slice a2 len2 cap2] := hbe5.far (by simp; omega) _
    have d0 := hbb5.c
    have d1 := hbb5.fz 0
    obtain ⟨va5, vn5, vc5, rfl⟩ := hb5.form
    obtain ⟨-, d2, -⟩ := hbe6.c
    clear hI2 hbe hb5 hk5 hbb5 hbe5 hbe6 hbw2 c0 c1 c2 c3 c4 c5 c6 c7 c8 c9 cb
    go_wp2_with fail
    go_roundw
    case rel => first | exact ⟨j + 1, x.st, _, L ++ bytesE x last, rfl, by go_num, by omega, hI5, by rw [← HLE.out, HDR.out, encGo]; simp, (right_has HRX.out).2.1, HST.out, by have := HB.out; simp; omega⟩ | ((repeat apply Exists.intro); exact ⟨⟨j + 1, x.st, _, L ++ bytesE x last, rfl, by go_num, by omega, hI5, by rw [← HLE.out, HDR.out, encGo]; simp, (right_has HRX.out).2.1, HST.out, by have := HB.out; simp; omega⟩, rfl⟩)
    case measure => simp [intOf]; omega
   ·have hd1 : decide (j < l.length) = false := by simpa using hlt
    obtain rfl : j = l.length := by omega
    have HL : Hid (L = encGo 0 l) := by
     have := HLE.out
     rw [List.drop_length, encGo, List.append_nil] at this
     exact this
    have cb := hI.bc.c
    go_wp2_with fail
    refine (tsum_any lo _ L (by omega) _ hI.row).mono ?_
    rintro e w4 ⟨rfl, hb4⟩
    have hI4 := hI.below hb4
    clear hI hb4 cb
    unfold sum4V
    have hI5 := hI4.below (below_alloc w4 (.cells #[.int .u8 (((sumF 1 L : Nat) : Int) % 256), .int .u8 (((sumF 1 L : Nat) : Int) / 256 % 256), .int .u8 (((sumF 1 L : Nat) : Int) / 65536 % 256), .int .u8 (((sumF 1 L : Nat) : Int) / 16777216 % 256)] 101))
    have hg5 := heap_alloc_new w4 (.cells #[.int .u8 (((sumF 1 L : Nat) : Int) % 256), .int .u8 (((sumF 1 L : Nat) : Int) / 256 % 256), .int .u8 (((sumF 1 L : Nat) : Int) / 65536 % 256), .int .u8 (((sumF 1 L : Nat) : Int) / 16777216 % 256)] 101)
    go_upto_region 14 with fail
    obtain ⟨n, hn⟩ : ∃ n, sumF 1 L = n := ⟨_, rfl⟩
    rw [hn] at hI5 hg5 ⊢
    have HN := Lib.hid hn
    clear hn hI4
    generalize w4.alloc (.cells #[.int .u8 ((n : Int) % 256), .int .u8 ((n : Int) / 256 % 256), .int .u8 ((n : Int) / 65536 % 256), .int .u8 ((n : Int) / 16777216 % 256)] 101) = w5 at *
    generalize w4.heap.size = zb at *
    have cb := hI5.bc.c
    go_still_tail 2, (by kernel_rfl)
    have hI6 := hI5.below (W' := w5.drew) ⟨rfl, rfl, rfl, Nat.le_refl _, fun _ _ => rfl⟩
    refine wpList_app4 _ rfl (.tmp 37) (.tmp 38) rfl lo _ L rfl hI6.row zb n rfl hg5 (by omega) hI6.le ?_
    intro v9 w9 hb9 hk9
    have hI9 := hI6.next hk9 hb9
    have hbb9 : B1 w9 w.heap.size 55 (.slice va vn vc) := hk9.k _ _ _ _ hI6.bc (by decide)
    have hee9 : B1 w9 (w.heap.size + 1) 30 (.int .i64 0) := hk9.k _ _ _ _ hI6.ec (by decide)
    have hlo := hI9.o4
    have hlo2 := hI9.o2
    obtain ⟨va9, vn9, vc9, rfl⟩ := hb9.form
    have d0 := hbb9.c
    have d1 := hbb9.fz 0
    have d2 := hee9.c
    have d3 := hee9.fz 0
    have hb10 := hI9.bc.far (q := ⟨w.heap.size + 1, 0, none⟩) (by simp) (.int .i64 0)
    have he10 := hI9.ec.set (.int .i64 0)
    have hr10 : Byt w.heap.size ((w9.setCell ⟨w.heap.size, 0, none⟩ (.slice va9 vn9 vc9)).setCell ⟨w.heap.size + 1, 0, none⟩ (.int .i64 0)) (.slice va9 vn9 vc9) (L ++ sum4 n) := World.ownsRow.mono (hI9.row.far (q := ⟨w.heap.size + 1, 0, none⟩) (by simp; omega)) (by omega)
    have hbd10 := hI9.bd.setCell (p := ⟨w.heap.size + 1, 0, none⟩) (by simp) (.int .i64 0)
    have HV : Hid (L ++ sum4 n = encB l) := by
     show _ = _
     rw [← HN.out, HL.out]
     rfl
    clear hI5 hI6 hI9 hb9 hk9 cb hbb9 hee9
    go_wp2_with fail
    show bodyPostD Tryz.prog Tryz.f24 _ .ret _ _
    refine leaves_cons (f := 59) (args := #[.pointer (some ⟨w.heap.size + 1, 0, none⟩), .pointer (some ⟨w.heap.size, 0, none⟩)]) (by simp) (by simp [go_sem]) ?_
    refine (encD_none w.heap.size (w.heap.size + 1) _ he10).mono ?_
    rintro e u' w11 ⟨rfl, rfl, rfl⟩
    refine ⟨.tuple #[.slice va9 vn9 vc9, .int .i64 0], by simp [results, Tryz.results24, go_sem, hb10.c, he10.c], ?_⟩
    exact ⟨⟨_, rfl, by rw [← HV.out]; exact hr10⟩, hbd10⟩
end Go.Proofs.YtjldbbcdhdfliaaGreatDoor
