/-
 Walks over the reference of layer 23: Text. Printed by gen_uk.py.
-/
import Derived.Test.YtjldbbcdhdfliaaGreatDoorUiUj
import Derived.Test.YtjldbbcdhdfliaaGreatDoorTgTh
import Derived.Test.YtjldbbcdhdfliaaGreatDoorRRef
import Derived.Test.YtjldbbcdhdfliaaGreatDoorUcUh
import Derived.Lib.QuietBelow
import Derived.Deep.QuietTactic
import Derived.BigQuiet
import Derived.Lib.ItoaLen
import Derived.Test.YtjldbbcdhdfliaaGreatDoorCaCc
import Derived.Test.YtjldbbcdhdfliaaGreatDoorNnNe
import Derived.Test.YtjldbbcdhdfliaaGreatDoorTtTu
namespace Go.Proofs.YtjldbbcdhdfliaaGreatDoor
open Go.RowKit Go.Sort

theorem rowI_step (k : Int) (i : Nat) (hi : i < 5) : (rowE k).filter (i ≤ ·) = if decide (i ∈ rowE k) then i :: (rowE k).filter (i + 1 ≤ ·) else (rowE k).filter (i + 1 ≤ ·) := by
 by_cases h : 1 ≤ k ∧ k ≤ 8
 ·have h1 : k = 1 ∨ k = 2 ∨ k = 3 ∨ k = 4 ∨ k = 5 ∨ k = 6 ∨ k = 7 ∨ k = 8 := by omega
  have h2 : i = 0 ∨ i = 1 ∨ i = 2 ∨ i = 3 ∨ i = 4 := by omega
  rcases h1 with rfl | rfl | rfl | rfl | rfl | rfl | rfl | rfl <;> rcases h2 with rfl | rfl | rfl | rfl | rfl <;> decide
 ·have e : rowE k = [] := by
   unfold rowE
   rw [if_neg (by omega), if_neg (by omega), if_neg (by omega), if_neg (by omega), if_neg (by omega), if_neg (by omega)]
  rw [e]
  simp
theorem rowI_all (k : Int) : (rowE k).filter (0 ≤ ·) = rowE k := by simp
theorem rowI_end (k : Int) : (rowE k).filter (5 ≤ ·) = [] := by
 rw [List.filter_eq_nil_iff]
 intro i hi
 have := row_lt k i hi
 simp
 omega
end Go.Proofs.YtjldbbcdhdfliaaGreatDoor
/-
 Walks over the reference of layer 23: Encode. Printed by gen_cb.py.
-/
namespace Go.Proofs.YtjldbbcdhdfliaaGreatDoor
open Go.RowKit Go.Sort

theorem rputE_any (B : Nat) (z' z : Int) (he : z' = z) (hz : 0 ≤ z) (hz2 : z ≤ 9223372036854775808) (bv : Value) (l : List UInt8) (w : World) (hrow : Byt B w bv l) (hB : B ≤ w.heap.size) (hl : l.length ≤ 10000000000) :
  Calls Tryz.prog 61 #[bv, .int .u64 z'] w fun e w' => ∃ v', e = .returned v' ∧ Byt B w' v' (l ++ leb z.toNat) ∧ Kp B w w' := by
 subst he
 obtain ⟨n, rfl⟩ : ∃ n : Nat, z' = (n : Nat) := ⟨z'.toNat, by omega⟩
 rw [Int.toNat_natCast]
 exact rput_any B n (by omega) bv l w hrow hB hl
theorem has_rng {k : Int} (h : hasE k = true) : 1 ≤ k ∧ k ≤ 9 := by
 unfold hasE at h
 simpa using h
theorem neE_shape : Shape (ropsOf Tryz.f25 14) neEK neEE := ⟨by kernel_rfl, by kernel_rfl⟩
theorem fld_max {x : Ev} (hg : RngE x) {i : Nat} (hi : i < 4) : x.fld i ≤ 9223372036854775807 := by
 match i, hi with
 | 0, _ => exact hg.sy.2
 | 1, _ => exact hg.br.2
 | 2, _ => exact hg.pa.2
 | 3, _ => exact hg.n.2
set_option maxRecDepth 100000 in
set_option maxHeartbeats 16000000 in
theorem rEncode_any (l : List Ev) (hll : l.length ≤ 1000) (a : Option Addr) (cap : Nat) (w : World) (hE : IsEs (· < w.heap.size) w l a) (hnd : ∀ x ∈ l, nd x.v ≤ 2000000) : Calls Tryz.prog 25 #[.slice a l.length cap] w (EncEnds l w) := by
 obtain ⟨r, hr⟩ : ∃ r, firstW l = r := ⟨_, rfl⟩
 have HR := Lib.hid hr
 have HE1 := Lib.hid hE
 have HND := Lib.hid hnd
 have HCK := Lib.hid (rCheckE_any l (by omega) a cap w hE hnd)
 unfold EncEnds
 rw [hr]
 obtain ⟨n, hn⟩ : ∃ n, l.length = n := ⟨_, rfl⟩
 have HN := Lib.hid hn
 rw [hn] at HCK hll ⊢
 clear hr hE hnd hn
 go_enter Tryz.func25, Tryz.ntmps25
 go_wp2_with fail
 refine HCK.out.mono ?_
 unfold CkV
 rw [HR.out]
 rintro e w1 ⟨rfl, hb1⟩
 cases r with
 | some k =>
  go_wp2_with fail
  go_ret2
  exact ⟨rfl, hb1⟩
 | none =>
  have hkp1 := Kp.all (Nat.le_refl _) hb1
  clear hb1
  go_wp2_with fail
  go_loopw [6, 7, 8] (fun b la i wr => ∃ (j : Nat) (last : Int) (v : Value) (L : List UInt8), b = v ∧ la = .int .i64 last ∧ i = .int .i64 (j : Nat) ∧ j ≤ n ∧ Byt w.heap.size wr v L ∧ Kp w.heap.size w wr ∧ L ++ encGo last (l.drop j) = encGo 0 l ∧ 0 ≤ last ∧ (∀ x, l[j]? = some x → last ≤ x.st) ∧ L.length ≤ 60000 * j) (fun _ _ i _ => n - (intOf i).toNat)
  case atStart => exact ⟨0, 0, _, [], rfl, rfl, rfl, Nat.zero_le _, Byt.nil _ _, hkp1, rfl, Int.le_refl _, fun x hx => (right_has (right_of_none HR.out hx).1).2.1, by simp⟩
  case round =>
   clear hkp1
   obtain ⟨j, last, v, L, rfl, rfl, rfl, hj, hrow, hkp, hLe, hla, hls, hLl⟩ := hrel
   obtain ⟨va, vn, vc, rfl⟩ := hrow.form
   have HLE := Lib.hid hLe
   have HLS := Lib.hid hls
   clear hLe hls
   by_cases hlt : j < n
   ·have hd1 : decide (j < n) = true := by simpa using hlt
    have hlt2 : (j : Int) < (n : Int) := by omega
    obtain ⟨x, hx⟩ : ∃ x, l[j]? = some x := ⟨l[j]'(by have := HN.out; omega), List.getElem?_eq_getElem _⟩
    have hndx := HND.out x (List.mem_of_getElem? hx)
    have hrx := right_of_none HR.out hx
    have hlx := HLS.out x hx
    obtain ⟨g1, o1, kk, nn, a1, len1, cap1, ha1, hg1, hc1, hv1, hrg⟩ := HE1.out j x hx
    subst ha1
    have p0 : wr.cell? ⟨g1, o1 + j * 10, none⟩ = some (.int .i64 x.k) := (hkp.b.cell (p := ⟨g1, o1 + j * 10, none⟩) hg1).trans (hc1 0 (.int .i64 x.k) rfl)
    have p1 : wr.cell? ⟨g1, o1 + j * 10 + 1, none⟩ = some (.int .i64 x.st) := (hkp.b.cell (p := ⟨g1, o1 + j * 10 + 1, none⟩) hg1).trans (hc1 1 (.int .i64 x.st) rfl)
    have p2 : wr.cell? ⟨g1, o1 + j * 10 + 2, none⟩ = some (.int .i64 x.th) := (hkp.b.cell (p := ⟨g1, o1 + j * 10 + 2, none⟩) hg1).trans (hc1 2 (.int .i64 x.th) rfl)
    have p3 : wr.cell? ⟨g1, o1 + j * 10 + 3, none⟩ = some (.int .i64 x.sy) := (hkp.b.cell (p := ⟨g1, o1 + j * 10 + 3, none⟩) hg1).trans (hc1 3 (.int .i64 x.sy) rfl)
    have p4 : wr.cell? ⟨g1, o1 + j * 10 + 4, none⟩ = some (.int .i64 x.br) := (hkp.b.cell (p := ⟨g1, o1 + j * 10 + 4, none⟩) hg1).trans (hc1 4 (.int .i64 x.br) rfl)
    have p5 : wr.cell? ⟨g1, o1 + j * 10 + 5, none⟩ = some (.int .i64 x.pa) := (hkp.b.cell (p := ⟨g1, o1 + j * 10 + 5, none⟩) hg1).trans (hc1 5 (.int .i64 x.pa) rfl)
    have p6 : wr.cell? ⟨g1, o1 + j * 10 + 6, none⟩ = some (.int .i64 x.n) := (hkp.b.cell (p := ⟨g1, o1 + j * 10 + 6, none⟩) hg1).trans (hc1 6 (.int .i64 x.n) rfl)
    have p7 : wr.cell? ⟨g1, o1 + j * 10 + 7, none⟩ = some (.int .i64 kk) := (hkp.b.cell (p := ⟨g1, o1 + j * 10 + 7, none⟩) hg1).trans (hc1 7 (.int .i64 kk) rfl)
    have p8 : wr.cell? ⟨g1, o1 + j * 10 + 8, none⟩ = some (.int .i64 nn) := (hkp.b.cell (p := ⟨g1, o1 + j * 10 + 8, none⟩) hg1).trans (hc1 8 (.int .i64 nn) rfl)
    have p9 : wr.cell? ⟨g1, o1 + j * 10 + 9, none⟩ = some (.slice a1 len1 cap1) := (hkp.b.cell (p := ⟨g1, o1 + j * 10 + 9, none⟩) hg1).trans (hc1 9 (.slice a1 len1 cap1) rfl)
    have HB : Hid ((bytesE x last).length ≤ 60000) := bytesE_len hrx.1 hrg hv1.rng hla
    have HST : Hid (∀ y, l[j + 1]? = some y → x.st ≤ y.st) := fun y hy => (right_of_none HR.out hy).2 j x rfl hx
    have HRX := Lib.hid hrx.1
    have HDR : Hid (l.drop j = x :: l.drop (j + 1)) := by
     show _ = _
     have hlj : j < l.length := by have := HN.out; omega
     rw [List.drop_eq_getElem_cons hlj]
     congr 1
     have := List.getElem?_eq_getElem hlj
     rw [hx] at this
     injection this with this
     exact this.symm
    have hv4 : IsV (· < w.heap.size) w x.v (.agg #[.int .i64 kk, .int .i64 nn, .slice a1 len1 cap1]) := hv1
    have hsz := hkp.size
    have hb4 := below_alloc wr (.cells #[.int .i64 x.k, .int .i64 x.st, .int .i64 x.th, .int .i64 x.sy, .int .i64 x.br, .int .i64 x.pa, .int .i64 x.n, .int .i64 kk, .int .i64 nn, .slice a1 len1 cap1] 29)
    have hrow4 := hrow.below hb4
    have hkp4 := hkp.trans (Kp.all hsz hb4)
    have hbe4 : BE (wr.alloc (.cells #[.int .i64 x.k, .int .i64 x.st, .int .i64 x.th, .int .i64 x.sy, .int .i64 x.br, .int .i64 x.pa, .int .i64 x.n, .int .i64 kk, .int .i64 nn, .slice a1 len1 cap1] 29)) wr.heap.size #[.int .i64 x.k, .int .i64 x.st, .int .i64 x.th, .int .i64 x.sy, .int .i64 x.br, .int .i64 x.pa, .int .i64 x.n, .int .i64 kk, .int .i64 nn, .slice a1 len1 cap1] := heap_alloc_new _ _
    have hk1 := right_has hrx.1
    have hsth := hrg.st.2
    have hthh := hrg.th.2
    have hxb : w.heap.size ≤ wr.heap.size := hsz
    clear hx hrx hc1 hv1 hg1 hrow hkp hb4
    go_upto_region 10 with fail
    clear p0 p1 p2 p3 p4 p5 p6 p7 p8 p9
    generalize wr.alloc (.cells #[.int .i64 x.k, .int .i64 x.st, .int .i64 x.th, .int .i64 x.sy, .int .i64 x.br, .int .i64 x.pa, .int .i64 x.n, .int .i64 kk, .int .i64 nn, .slice a1 len1 cap1] 29) = w4 at *
    generalize wr.heap.size = xb at *
    have hkk := has_rng hk1.1
    obtain ⟨c, hc⟩ : ∃ c, UInt8.ofNat x.k.toNat = c := ⟨_, rfl⟩
    have hcm : ((c.toNat : Nat) : Int) = x.k := by rw [← hc, u8_of (by omega)]; omega
    have HC := Lib.hid hc
    have hsz4 := hkp4.size
    have hb5 := below_alloc w4 (.cells #[.int .u8 x.k] 5)
    have hrow5 := hrow4.below hb5
    have hkp5 := hkp4.trans (Kp.all hsz4 hb5)
    have hbe5 := BE.belowAll hbe4 hb5
    have hg5 : (w4.alloc (.cells #[.int .u8 x.k] 5)).heap[w4.heap.size]? = some (.cells #[.int .u8 (c.toNat : Nat)] 5 (0, 0)) := by rw [hcm]; exact heap_alloc_new _ _
    have hs5 := hkp5.size
    obtain ⟨c0, c1, c2, c3, c4, c5, c6, c7, c8, c9⟩ := BE.c hbe4
    go_upto_region 11 with (at_builtin; refine wpList_app1 _ rfl (.tmp 33) (.tmp 37) rfl w.heap.size _ L rfl hrow5 _ c rfl hg5 (by omega) hs5 ?_; intro v6 w6 hr6 hk6)
    have hbe6 : BE w6 xb #[.int .i64 x.k, .int .i64 x.st, .int .i64 x.th, .int .i64 x.sy, .int .i64 x.br, .int .i64 x.pa, .int .i64 x.n, .int .i64 kk, .int .i64 nn, .slice a1 len1 cap1] := hk6.k _ _ _ _ hbe5 (by decide)
    have hkp6 := hkp5.trans hk6
    obtain ⟨va6, vn6, vc6, rfl⟩ := hr6.form
    clear c0 c1 c2 c3 c4 c5 c6 c7 c8 c9 hb5 hrow5 hkp5 hbe5 hg5 hs5 hbe4 hrow4 hkp4 hsz4 hc hcm hk6
    obtain ⟨c0, c1, c2, c3, c4, c5, c6, c7, c8, c9⟩ := BE.c hbe6
    go_wp2_with fail
    refine (rputE_any w.heap.size _ (x.st - last) rfl (by omega) (by omega) _ (L ++ [c]) _ hr6 hkp6.size (by simp; omega)).mono ?_
    rintro e w7 ⟨v7, rfl, hr7, hk7⟩
    have hbe7 : BE w7 xb #[.int .i64 x.k, .int .i64 x.st, .int .i64 x.th, .int .i64 x.sy, .int .i64 x.br, .int .i64 x.pa, .int .i64 x.n, .int .i64 kk, .int .i64 nn, .slice a1 len1 cap1] := hk7.k _ _ _ _ hbe6 (by decide)
    have hkp7 := hkp6.trans hk7
    obtain ⟨va7, vn7, vc7, rfl⟩ := hr7.form
    have hl7 := leb_len (n := (x.st - last).toNat) (by omega)
    clear c0 c1 c2 c3 c4 c5 c6 c7 c8 c9 hr6 hkp6 hbe6 hk7
    obtain ⟨c0, c1, c2, c3, c4, c5, c6, c7, c8, c9⟩ := BE.c hbe7
    go_wp2_with fail
    refine (rputE_any w.heap.size _ x.th rfl (by omega) (by omega) _ _ _ hr7 hkp7.size (by simp; omega)).mono ?_
    rintro e w8 ⟨v8, rfl, hr8, hk8⟩
    have hbe8 : BE w8 xb #[.int .i64 x.k, .int .i64 x.st, .int .i64 x.th, .int .i64 x.sy, .int .i64 x.br, .int .i64 x.pa, .int .i64 x.n, .int .i64 kk, .int .i64 nn, .slice a1 len1 cap1] := hk8.k _ _ _ _ hbe7 (by decide)
    have hkp8 := hkp7.trans hk8
    obtain ⟨va8, vn8, vc8, rfl⟩ := hr8.form
    have hl8 := leb_len (n := x.th.toNat) (by omega)
    clear c0 c1 c2 c3 c4 c5 c6 c7 c8 c9 hr7 hkp7 hbe7 hk8
    obtain ⟨c0, c1, c2, c3, c4, c5, c6, c7, c8, c9⟩ := BE.c hbe8
    have HHL : Hid ((L ++ [c] ++ leb (x.st - last).toNat ++ leb x.th.toNat) ++ rowB x ((rowE x.k).filter (0 ≤ ·)) = L ++ bytesE x last) := by
     show _ = _
     rw [rowI_all]
     unfold bytesE
     rw [HC.out]
     simp
    go_upto_region 14 with fail
    clear c0 c1 c2 c3 c4 c5 c6 c7 c8 c9
    refine neE_region (x := x) (kk := kk) (nn := nn) (al := a1) (ll := len1) (cl := cap1) (xb := xb) neE_shape (by simp) rfl hbe8 ?_
    intro a3 w9 g4 g5 hU h4 h5 hz4 hz5 hm4 hm5 hb9
    obtain ⟨us, vs, hus, hvs, rfl⟩ := hU.list (by simp)
    obtain ⟨x0, us0, eus0, hus0⟩ := list_cons4 hus
    subst eus0
    obtain ⟨x1, us1, eus1, hus1⟩ := list_cons4 hus0
    subst eus1
    have enus := List.eq_nil_of_length_eq_zero hus1
    subst enus
    obtain ⟨q0, vs0, evs0, hvs0⟩ := list_cons4 hvs
    subst evs0
    obtain ⟨q1, vs1, evs1, hvs1⟩ := list_cons4 hvs0
    subst evs1
    obtain ⟨q2, vs2, evs2, hvs2⟩ := list_cons4 hvs1
    subst evs2
    obtain ⟨q3, vs3, evs3, hvs3⟩ := list_cons4 hvs2
    subst evs3
    obtain ⟨q4, vs4, evs4, hvs4⟩ := list_cons4 hvs3
    subst evs4
    have envs := List.eq_nil_of_length_eq_zero hvs4
    subst envs
    have e40 : x0 = .pointer (some ⟨g4, 0, none⟩) := h4
    have e50 : x1 = .pointer (some ⟨g5, 0, none⟩) := h5
    subst e40 e50
    simp only [List.take_succ_cons, List.take_zero, List.drop_succ_cons, List.drop_zero, List.cons_append, List.nil_append]
    clear hU h4 h5 hus hus0 hus1 hvs hvs0 hvs1 hvs2 hvs3 hvs4
    have hbe9 := BE.belowAll hbe8 hb9
    have hr9 := hr8.below hb9
    have hkp9 := hkp8.trans (Kp.all hkp8.size hb9)
    have HM4 := Lib.hid hm4
    have HM5 := Lib.hid hm5
    clear hbe8 hr8 hkp8 hb9 hm4 hm5 hz4 hz5
    generalize L ++ [c] ++ leb (x.st - last).toNat ++ leb x.th.toNat = H at *
    go_wp2_with fail
    go_loopw [6, 12] (fun b i wq => ∃ (m : Nat) (v : Value) (S : List UInt8), b = v ∧ i = .int .i64 (m : Nat) ∧ m ≤ 4 ∧ Byt w.heap.size wq v S ∧ Kp w.heap.size w9 wq ∧ S ++ rowB x ((rowE x.k).filter (m ≤ ·)) = L ++ bytesE x last) (fun _ i _ => 4 - (intOf i).toNat)
    case atStart => exact ⟨0, _, H, rfl, rfl, by omega, hr9, Kp.refl _ _, HHL.out⟩
    case round =>
     clear hr9 HHL
     obtain ⟨m, v, S, rfl, rfl, hm, hrq, hkq, hSe⟩ := hrel
     have hSl : S.length ≤ 60000 * j + 60000 := by
      have h1 := congrArg List.length hSe
      have h2 := HB.out
      simp only [List.length_append] at h1
      omega
     obtain ⟨va, vn, vc, rfl⟩ := hrq.form
     have HSE := Lib.hid hSe
     clear hSe
     have hm4 := hkq.k _ _ _ _ HM4.out (by decide)
     have hm5 := hkq.k _ _ _ _ HM5.out (by decide)
     have hsq := Nat.le_trans hkp9.size hkq.size
     by_cases hlm : m < 4
     ·have hdm : decide ((m : Int) < 4) = true := by simp; omega
      have hj5 : m < 5 := by omega
      have hj5' : (m : Int) < 5 := by omega
      have hj4 : (m : Int) < 4 := by omega
      have cn := nm_at hm4 hj5
      have cl := nu_at hm5 hlm
      have HST2 := Lib.hid (rowI_step x.k m hj5)
      obtain ⟨bn, hbn⟩ : ∃ b, decide (m ∈ rowE x.k) = b := ⟨_, rfl⟩
      obtain ⟨F, hF⟩ : ∃ F, x.fld m = F := ⟨_, rfl⟩
      rw [hbn] at cn
      rw [hF] at cl
      clear hm4 hm5
      cases bn
      ·have HNX : Hid (S ++ rowB x ((rowE x.k).filter (m + 1 ≤ ·)) = L ++ bytesE x last) := by
        show _ = _
        rw [← HSE.out, HST2.out, hbn]
        rfl
       clear hbn hF
       go_wp2_with fail
       go_roundw
       case rel => first | exact ⟨m + 1, _, S, rfl, by go_num, by omega, hrq, hkq, HNX.out⟩ | ((repeat apply Exists.intro); exact ⟨⟨m + 1, _, S, rfl, by go_num, by omega, hrq, hkq, HNX.out⟩, rfl⟩)
       case measure => simp [intOf]; omega
      ·have hmem : m ∈ rowE x.k := by simpa using hbn
       have hle := right_fld HRX.out hmem hlm
       have hmx := fld_max hrg hlm
       rw [hF] at hle hmx
       have hj4n : m ≠ 4 := by omega
       have hge1 : -1 ≤ F := by
        unfold leastE at hle
        split at hle <;> omega
       by_cases hm2 : m = 2
       ·subst hm2
        have HNX : Hid ((S ++ leb (F + 1).toNat) ++ rowB x ((rowE x.k).filter (2 + 1 ≤ ·)) = L ++ bytesE x last) := by
         show _ = _
         rw [← HSE.out, HST2.out, hbn, if_pos rfl, rowB]
         unfold fldB
         rw [if_neg hj4n, hF, show F - leastE 2 = F + 1 by unfold leastE; simp]
         simp
        clear hbn hF hmem hle
        go_wp2_with fail
        refine (rputE_any w.heap.size _ (F + 1) (by first | exact wrapU hge1 hmx | rfl) (by omega) (by omega) _ S _ hrq hsq (by omega)).mono ?_
        rintro e w10 ⟨v10, rfl, hr10, hk10⟩
        have hkq2 := hkq.trans hk10
        clear hkq hk10 hrq cn cl
        go_wp2_with fail
        go_roundw
        case rel => first | exact ⟨2 + 1, _, _, rfl, by go_num, by omega, hr10, hkq2, HNX.out⟩ | ((repeat apply Exists.intro); exact ⟨⟨2 + 1, _, _, rfl, by go_num, by omega, hr10, hkq2, HNX.out⟩, rfl⟩)
        case measure => simp [intOf]
       ·have hd2 : ((m : Int) == 2) = false := by rw [beq_eq_false_iff_ne]; omega
        have hl0 : leastE m = 0 := by
         unfold leastE
         rw [if_neg hm2]
        rw [hl0] at hle
        have HNX : Hid ((S ++ leb F.toNat) ++ rowB x ((rowE x.k).filter (m + 1 ≤ ·)) = L ++ bytesE x last) := by
         show _ = _
         rw [← HSE.out, HST2.out, hbn, if_pos rfl, rowB]
         unfold fldB
         rw [if_neg hj4n, hF, hl0]
         simp
        clear hbn hF hmem hl0
        go_wp2_with fail
        refine (rputE_any w.heap.size _ F (by first | rfl | exact Int.add_zero _) (by omega) (by omega) _ S _ hrq hsq (by omega)).mono ?_
        rintro e w10 ⟨v10, rfl, hr10, hk10⟩
        have hkq2 := hkq.trans hk10
        clear hkq hk10 hrq cn cl
        go_wp2_with fail
        go_roundw
        case rel => first | exact ⟨m + 1, _, _, rfl, by go_num, by omega, hr10, hkq2, HNX.out⟩ | ((repeat apply Exists.intro); exact ⟨⟨m + 1, _, _, rfl, by go_num, by omega, hr10, hkq2, HNX.out⟩, rfl⟩)
        case measure => simp [intOf]; omega
     ·obtain rfl : m = 4 := by omega
      have hdm : decide (((4 : Nat) : Int) < 4) = false := by decide
      have c44 := nm_at hm4 (i := 4) (by omega)
      have HST2 := Lib.hid (rowI_step x.k 4 (by omega))
      obtain ⟨b4, hb4⟩ : ∃ b, decide (4 ∈ rowE x.k) = b := ⟨_, rfl⟩
      rw [hb4] at c44
      have hbq : BE wr xb #[.int .i64 x.k, .int .i64 x.st, .int .i64 x.th, .int .i64 x.sy, .int .i64 x.br, .int .i64 x.pa, .int .i64 x.n, .int .i64 kk, .int .i64 nn, .slice a1 len1 cap1] := hkq.k _ _ _ _ hbe9 (by decide)
      have hkw := hkp9.trans hkq
      clear hm4 hm5 hbe9 hkp9 hkq
      cases b4
      ·have HNX : Hid (S = L ++ bytesE x last) := by
        show _ = _
        rw [← HSE.out, HST2.out, hb4, if_neg (by simp), rowI_end]
        simp [rowB]
       clear hb4 hbq
       rw [HNX.out] at hrq
       go_wp2_with fail
       go_roundw
       case rel => first | exact ⟨j + 1, x.st, _, L ++ bytesE x last, rfl, rfl, by go_num, by omega, hrq, hkw, by rw [← HLE.out, HDR.out, encGo]; simp, (right_has HRX.out).2.1, HST.out, by have := HB.out; simp; omega⟩ | ((repeat apply Exists.intro); exact ⟨⟨j + 1, x.st, _, L ++ bytesE x last, rfl, rfl, by go_num, by omega, hrq, hkw, by rw [← HLE.out, HDR.out, encGo]; simp, (right_has HRX.out).2.1, HST.out, by have := HB.out; simp; omega⟩, rfl⟩)
       case measure => simp [intOf]; omega
      ·have hmem : 4 ∈ rowE x.k := by simpa using hb4
       have hrt := right_val HRX.out hmem
       obtain ⟨V, hV⟩ : ∃ V : ByteArray, (⟨(txt x.v).toArray⟩ : ByteArray) = V := ⟨_, rfl⟩
       have hVl : V.data.toList = txt x.v := by rw [← hV]
       have hVn : (txt x.v).length = V.size := by rw [← hV]; rfl
       have hVz : V.size ≤ 20000 := by
        have := right_len hrt hv4.rng
        omega
       have HNX : Hid (S ++ leb V.size ++ V.data.toList = L ++ bytesE x last) := by
        show _ = _
        rw [← HSE.out, HST2.out, hb4, if_pos rfl, rowI_end, rowB, rowB]
        unfold fldB
        rw [if_pos rfl, hVn, hVl]
        simp
       have HTV : Hid (textV x.v = .tuple #[.string V, .int .i64 0]) := by
        show _ = _
        rw [txt_V hrt, hV]
       have hv10 : IsV (· < wr.heap.size) wr x.v (.agg #[.int .i64 kk, .int .i64 nn, .slice a1 len1 cap1]) := (hv4.below hkw.b).more fun g hg => Nat.lt_of_lt_of_le hg hkw.size
       obtain ⟨-, -, -, -, -, -, -, c7, c8, c9⟩ := BE.c hbq
       have hl9 := leb_len (n := V.size) (by omega)
       clear hb4 hmem hrt hV hVl hVn hbq
       go_wp2_with fail
       refine (rText_any x.v _ _ hv10 hndx).mono ?_
       rw [HTV.out]
       rintro e w10 ⟨rfl, hb10⟩
       have hr10 := hrq.below hb10
       have hkw10 := hkw.trans (Kp.all hsq hb10)
       have hs10 := hkw10.size
       clear hv10 c7 c8 c9 hb10 hkw hrq
       go_wp2_with fail
       refine (rputE_any w.heap.size _ (V.size : Int) (by first | rfl | exact Int.add_zero _) (by omega) (by omega) _ S _ hr10 hs10 (by omega)).mono ?_
       rintro e w11 ⟨v11, rfl, hr11, hk11⟩
       rw [Int.toNat_natCast] at hr11
       obtain ⟨va11, vn11, vc11, rfl⟩ := hr11.form
       have hkw11 := hkw10.trans hk11
       have hs11 := hkw11.size
       clear hr10 hk11 hkw10
       go_wp2_with (at_builtin; refine wpList_appS _ rfl (.tmp 100) (.tmp 101) rfl w.heap.size _ _ rfl hr11 V rfl (by omega) (by simp; omega) hs11 ?_; intro v12 w12 hr12 hk12)
       rw [HNX.out] at hr12
       have hkw12 := hkw11.trans hk12
       go_roundw
       case rel => first | exact ⟨j + 1, x.st, _, L ++ bytesE x last, rfl, rfl, by go_num, by omega, hr12, hkw12, by rw [← HLE.out, HDR.out, encGo]; simp, (right_has HRX.out).2.1, HST.out, by have := HB.out; simp; omega⟩ | ((repeat apply Exists.intro); exact ⟨⟨j + 1, x.st, _, L ++ bytesE x last, rfl, rfl, by go_num, by omega, hr12, hkw12, by rw [← HLE.out, HDR.out, encGo]; simp, (right_has HRX.out).2.1, HST.out, by have := HB.out; simp; omega⟩, rfl⟩)
       case measure => simp [intOf]; omega
   ·have hd1 : decide (j < n) = false := by simpa using hlt
    obtain rfl : j = n := by omega
    have HL : Hid (L = encGo 0 l) := by
     have := HLE.out
     rw [List.drop_eq_nil_of_le (by have := HN.out; omega), encGo, List.append_nil] at this
     exact this
    obtain ⟨la, lc, hveq, hlies, -⟩ := hrow.lies
    simp only [Value.slice.injEq] at hveq
    obtain ⟨rfl, rfl, rfl⟩ := hveq
    have HV : Hid (L ++ sum4 (sumF 1 L) = encB l) := by
     show _ = _
     rw [HL.out]
     rfl
    have hsz := hkp.size
    go_wp2_with fail
    refine (rsealed23_any va vc L (by omega) _ hlies).mono ?_
    rintro e w9 ⟨v9, rfl, hv9, hb9⟩
    rw [HV.out] at hv9
    go_wp2_with fail
    go_ret2
    exact ⟨⟨_, rfl, World.ownsRow.mono hv9 hsz⟩, hkp.b.trans (hb9.mono hsz)⟩
end Go.Proofs.YtjldbbcdhdfliaaGreatDoor
