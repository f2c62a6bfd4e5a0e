/-
  Walks over the reference of layer 23: Text. Printed by gen_uk.py.
-/
import Derived.Test.YtjldbbcdhdfliaaGreatDoorUi
import Derived.Test.YtjldbbcdhdfliaaGreatDoorTgTh
import Derived.Test.YtjldbbcdhdfliaaGreatDoorRRef
import Derived.Test.YtjldbbcdhdfliaaGreatDoorUcUh
import Derived.Lib.QuietBelow
import Derived.Deep.QuietTactic
import Derived.BigQuiet
import Derived.Lib.ItoaLen
namespace Go.Proofs.YtjldbbcdhdfliaaGreatDoor
open Go.RowKit Go.Sort

theorem str_eq {S : ByteArray} {l : List UInt8} (h : S.data.toList = l) : S = ⟨l.toArray⟩ := by
  obtain ⟨d⟩ := S
  simp only at h
  subst h
  rfl
theorem rowI_step (k : Int) (i : Nat) (hi : i < 5) : (rowE k).filter (i ≤ ·) = if decide (i ∈ rowE k) then i :: (rowE k).filter (i + 1 ≤ ·) else (rowE k).filter (i + 1 ≤ ·) := by
  by_cases h : 1 ≤ k ∧ k ≤ 8
  · have h1 : k = 1 ∨ k = 2 ∨ k = 3 ∨ k = 4 ∨ k = 5 ∨ k = 6 ∨ k = 7 ∨ k = 8 := by omega
    have h2 : i = 0 ∨ i = 1 ∨ i = 2 ∨ i = 3 ∨ i = 4 := by omega
    rcases h1 with rfl | rfl | rfl | rfl | rfl | rfl | rfl | rfl <;> rcases h2 with rfl | rfl | rfl | rfl | rfl <;> decide
  · have e : rowE k = [] := by
      unfold rowE
      rw [if_neg (by omega), if_neg (by omega), if_neg (by omega), if_neg (by omega), if_neg (by omega), if_neg (by omega)]
    rw [e]
    simp
theorem rowI_all (k : Int) : (rowE k).filter (0 ≤ ·) = rowE k := by simp
theorem rowI_end (k : Int) : (rowE k).filter (5 ≤ ·) = [] := by
  rw [List.filter_eq_nil_iff]
  intro i hi
  have := row_lt k i hi
  simp
  omega
theorem nnT_shape : Shape (ropsOf Tryz.f19 5) nnTK nnTE := ⟨by kernel_rfl, by kernel_rfl⟩
theorem digits_bel (n : Int) (hn : Rng n) (w : World) : Calls Tryz.prog 51 #[.int .i64 n] w fun e w' => e = .returned (.string ⟨(Lib.itoa n).toArray⟩) ∧ Below w.heap.size w w' := (rDigits_any n hn w).mono fun _ _ ⟨h1, h2⟩ => ⟨h1, by rw [h2]; exact Below.refl _ _⟩
theorem itoa_str (n : Int) (hn : Rng n) : ∃ A : ByteArray, (⟨(Lib.itoa n).toArray⟩ : ByteArray) = A ∧ A.size ≤ 21 ∧ A.data.toList = Lib.itoa n := ⟨_, rfl, by have := Lib.itoa_length_le n hn.1 hn.2; simpa [ByteArray.size] using this, by simp⟩
set_option maxRecDepth 100000 in
set_option maxHeartbeats 8000000 in
theorem rTextE_any (x : Ev) (v : Value) (w : World) (hx : IsE (· < w.heap.size) w x v) (hnd : nd x.v ≤ 2000000) : Calls Tryz.prog 19 #[v] w fun e w' => e = .returned (ttV x) ∧ Below w.heap.size w w' := by
  obtain ⟨kk, nn, a, len, cap, rfl, hv, hrg⟩ := hx
  have hb1 := below_alloc w (.cells (evC x kk nn a len cap) 29)
  have hbe : BE (w.alloc (.cells (evC x kk nn a len cap) 29)) w.heap.size (evC x kk nn a len cap) := heap_alloc_new _ _
  have hi1 : IsE (· < (w.alloc (.cells (evC x kk nn a len cap) 29)).heap.size) (w.alloc (.cells (evC x kk nn a len cap) 29)) x (.agg (evC x kk nn a len cap)) := ⟨kk, nn, a, len, cap, rfl, hv.later hb1, hrg⟩
  obtain ⟨C, hC⟩ : ∃ C, ttV x = C := ⟨_, rfl⟩
  have HC := Lib.hid hC
  rw [hC]
  clear hC
  unfold evC at hb1 hbe hi1 ⊢
  obtain ⟨R, hR⟩ : ∃ R, rightE x = R := ⟨_, rfl⟩
  have HR := Lib.hid hR
  clear hv hR
  go_enter Tryz.func19, Tryz.ntmps19
  go_upto_region 1 with fail
  generalize w.alloc (.cells #[.int .i64 x.k, .int .i64 x.st, .int .i64 x.th, .int .i64 x.sy, .int .i64 x.br, .int .i64 x.pa, .int .i64 x.n, .int .i64 kk, .int .i64 nn, .slice a len cap] 29) = w1 at *
  obtain ⟨c0, c1, c2, c3, c4, c5, c6, c7, c8, c9⟩ := hbe.c
  go_wp2_with fail
  refine (rRightE_any x _ _ hi1 hnd).mono ?_
  rw [HR.out]
  rintro e w2 ⟨rfl, hb2⟩
  have hbe2 := BE.belowAll hbe hb2
  have hi2 := hi1.later hb2
  have hbw2 := hb1.trans (hb2.mono hb1.size)
  clear c0 c1 c2 c3 c4 c5 c6 c7 c8 c9 hbe hi1 hb1 hb2
  cases R
  · obtain rfl : C = .tuple #[.string ⟨#[]⟩, .int .i64 230] := by
      rw [← HC.out]
      unfold ttV
      rw [HR.out]
      rfl
    go_wp2_with fail
    go_ret2
    exact ⟨rfl, hbw2⟩
  · have HC2 : Hid (C = .tuple #[.string ⟨(textE x).toArray⟩, .int .i64 0]) := by
      show _ = _
      rw [← HC.out]
      unfold ttV
      rw [HR.out]
      rfl
    obtain ⟨c0, c1, c2, c3, c4, c5, c6, c7, c8, c9⟩ := BE.c hbe2
    obtain ⟨A, hA, hAz, hAl⟩ := itoa_str x.st hrg.st
    obtain ⟨B, hB, hBz, hBl⟩ := itoa_str x.th hrg.th
    obtain ⟨N, hN⟩ : ∃ N, wordE x.k = N := ⟨_, rfl⟩
    have hNz : N.size ≤ 6 := by rw [← hN]; exact wordE_size x.k
    have y0 := fun d os => cell_regrown c0 d os
    have y1 := fun d os => cell_regrown c1 d os
    have y2 := fun d os => cell_regrown c2 d os
    have cA : ∀ d os, Calls Tryz.prog 51 #[.int .i64 x.st] (grow (redrawn w2 d) os) fun e w'' => e = .returned (.string A) ∧ ∃ p : Regrown, w'' = grow (redrawn w2 p.d) p.os := by rw [← hA]; exact fun d os => Calls.regrown_of (digits_bel x.st hrg.st _)
    have cB : ∀ d os, Calls Tryz.prog 51 #[.int .i64 x.th] (grow (redrawn w2 d) os) fun e w'' => e = .returned (.string B) ∧ ∃ p : Regrown, w'' = grow (redrawn w2 p.d) p.os := by rw [← hB]; exact fun d os => Calls.regrown_of (digits_bel x.th hrg.th _)
    have cN : ∀ d os, Calls Tryz.prog 38 #[.int .i64 x.k] (grow (redrawn w2 d) os) fun e w'' => e = .returned (.string N) ∧ ∃ p : Regrown, w'' = grow (redrawn w2 p.d) p.os := by rw [← hN]; exact fun d os => Calls.regrown_of (rName_any x.k _)
    have z32 : (ByteArray.mk #[32]).size = 1 := rfl
    have q1 : ¬ (9223372036854775807 < A.size + 1) := by omega
    have q2 : ¬ (9223372036854775807 < A.size + 1 + B.size) := by omega
    have q3 : ¬ (9223372036854775807 < A.size + 1 + B.size + 1) := by omega
    have q4 : ¬ (9223372036854775807 < A.size + 1 + B.size + 1 + N.size) := by omega
    have HN := Lib.hid hN
    have HAL := Lib.hid hAl
    have HBL := Lib.hid hBl
    clear hA hB hN hAl hBl
    go_upto_region 4 with fail
    refine wp_region_quiet_below (by kernel_rfl) (by kernel_rfl) ?_
    repeat (go_big_quiet_step (first | (with_reducible exact cA _ _) | (with_reducible exact cB _ _) | (with_reducible exact cN _ _)))
    refine wpQuiet_nil ?_
    intro _ hw'
    obtain ⟨⟨dq, osq⟩, hw''⟩ := hw'
    subst hw''
    have hb3 := below_regrown w2 dq osq
    have hbe3 := BE.belowAll hbe2 hb3
    have hi3 := hi2.later hb3
    have hbw3 := hbw2.trans (hb3.mono hbw2.size)
    clear y0 y1 y2 cA cB cN c0 c1 c2 c3 c4 c5 c6 c7 c8 c9 hbe2 hi2 hbw2 hb3 q1 q2 q3 q4 z32
    generalize grow (redrawn w2 dq) osq = w3 at *
    have hHL : (A ++ ByteArray.mk #[32] ++ B ++ ByteArray.mk #[32] ++ N).data.toList ++ rowT x ((rowE x.k).filter (0 ≤ ·)) = textE x := by
      rw [rowI_all]
      unfold textE
      rw [← HAL.out, ← HBL.out, HN.out]
      simp [ByteArray.data_append]
    have hHz : (A ++ ByteArray.mk #[32] ++ B ++ ByteArray.mk #[32] ++ N).size ≤ 50 := by
      simp [ByteArray.size_append]
      have z32 : (ByteArray.mk #[32]).size = 1 := rfl
      omega
    generalize A ++ ByteArray.mk #[32] ++ B ++ ByteArray.mk #[32] ++ N = H at *
    have HHL := Lib.hid hHL
    clear hHL
    go_upto_region 5 with fail
    refine nnT_region (x := x) (kk := kk) (nn := nn) (al := a) (ll := len) (cl := cap) (xb := w.heap.size) nnT_shape (by simp) rfl rfl hbe3 ?_
    intro a3 w4 g4 g5 hU h4 h5 hz4 hz5 hm4 hm5 hb3
    obtain ⟨us, hus, rfl⟩ := hU.list (by simp)
    obtain ⟨x0, us0, e0, hus0⟩ := list_cons4 hus
    subst e0
    obtain ⟨x1, us1, e1, hus1⟩ := list_cons4 hus0
    subst e1
    obtain ⟨x2, us2, e2, hus2⟩ := list_cons4 hus1
    subst e2
    obtain ⟨x3, us3, e3, hus3⟩ := list_cons4 hus2
    subst e3
    obtain ⟨x4, us4, e4, hus4⟩ := list_cons4 hus3
    subst e4
    obtain ⟨x5, us5, e5, hus5⟩ := list_cons4 hus4
    subst e5
    obtain ⟨x6, us6, e6, hus6⟩ := list_cons4 hus5
    subst e6
    obtain ⟨x7, us7, e7, hus7⟩ := list_cons4 hus6
    subst e7
    obtain ⟨x8, us8, e8, hus8⟩ := list_cons4 hus7
    subst e8
    obtain ⟨x9, us9, e9, hus9⟩ := list_cons4 hus8
    subst e9
    obtain ⟨x10, us10, e10, hus10⟩ := list_cons4 hus9
    subst e10
    obtain ⟨x11, us11, e11, hus11⟩ := list_cons4 hus10
    subst e11
    obtain ⟨x12, us12, e12, hus12⟩ := list_cons4 hus11
    subst e12
    obtain ⟨x13, us13, e13, hus13⟩ := list_cons4 hus12
    subst e13
    obtain ⟨x14, us14, e14, hus14⟩ := list_cons4 hus13
    subst e14
    obtain ⟨x15, us15, e15, hus15⟩ := list_cons4 hus14
    subst e15
    obtain ⟨x16, us16, e16, hus16⟩ := list_cons4 hus15
    subst e16
    obtain ⟨x17, us17, e17, hus17⟩ := list_cons4 hus16
    subst e17
    obtain ⟨x18, us18, e18, hus18⟩ := list_cons4 hus17
    subst e18
    obtain ⟨x19, us19, e19, hus19⟩ := list_cons4 hus18
    subst e19
    obtain ⟨x20, us20, e20, hus20⟩ := list_cons4 hus19
    subst e20
    obtain ⟨x21, us21, e21, hus21⟩ := list_cons4 hus20
    subst e21
    obtain ⟨x22, us22, e22, hus22⟩ := list_cons4 hus21
    subst e22
    obtain ⟨x23, us23, e23, hus23⟩ := list_cons4 hus22
    subst e23
    obtain ⟨x24, us24, e24, hus24⟩ := list_cons4 hus23
    subst e24
    obtain ⟨x25, us25, e25, hus25⟩ := list_cons4 hus24
    subst e25
    have en := List.eq_nil_of_length_eq_zero hus25
    subst en
    have e40 : x0 = .pointer (some ⟨g4, 0, none⟩) := h4
    have e50 : x1 = .pointer (some ⟨g5, 0, none⟩) := h5
    subst e40 e50
    simp only [List.take_succ_cons, List.take_zero, List.drop_succ_cons, List.drop_zero, List.cons_append, List.nil_append]
    clear hU h4 h5 hus hus0 hus1 hus2 hus3 hus4 hus5 hus6 hus7 hus8 hus9 hus10 hus11 hus12 hus13 hus14 hus15 hus16 hus17 hus18 hus19 hus20 hus21 hus22 hus23 hus24 hus25
    have hbe4 := BE.belowAll hbe3 hb3
    have hi4 := hi3.later hb3
    have hbw := hbw3.trans (hb3.mono hbw3.size)
    have HM4 := Lib.hid hm4
    have HM5 := Lib.hid hm5
    clear hbe3 hi3 hbw3 hb3 hm4 hm5 hz4 hz5
    go_wp2_with fail
    go_loop [5, 8] (fun s i => ∃ (j : Nat) (S : ByteArray), i = .int .i64 (j : Nat) ∧ s = .string S ∧ j ≤ 4 ∧ S.size ≤ 50 + 30 * j ∧ S.data.toList ++ rowT x ((rowE x.k).filter (j ≤ ·)) = textE x) (fun _ i => 4 - (intOf i).toNat)
    case atStart => exact ⟨0, H, rfl, rfl, by omega, by omega, HHL.out⟩
    case round =>
      clear hHz HHL
      obtain ⟨j, S, rfl, rfl, hj, hSz, htx⟩ := hrel
      have HTX := Lib.hid htx
      clear htx
      have z32 : (ByteArray.mk #[32]).size = 1 := rfl
      have z45 : (ByteArray.mk #[32, 45]).size = 2 := rfl
      by_cases hlt : j < 4
      · have hd1 : decide ((j : Int) < 4) = true := by simp; omega
        have hj5 : j < 5 := by omega
        have hj5' : (j : Int) < 5 := by omega
        have hj4 : (j : Int) < 4 := by omega
        have cn := nm_at HM4.out hj5
        have cl := nu_at HM5.out hlt
        have HST := Lib.hid (rowI_step x.k j hj5)
        obtain ⟨bn, hbn⟩ : ∃ b, decide (j ∈ rowE x.k) = b := ⟨_, rfl⟩
        obtain ⟨F, hF⟩ : ∃ F, x.fld j = F := ⟨_, rfl⟩
        rw [hbn] at cn
        rw [hF] at cl
        cases bn
        · have HNX : Hid (S.data.toList ++ rowT x ((rowE x.k).filter (j + 1 ≤ ·)) = textE x) := by
            show _ = _
            rw [← HTX.out, HST.out, hbn]
            rfl
          clear hbn hF
          go_wp2_with fail
          go_round
          case rel => exact ⟨j + 1, S, by go_num, rfl, by omega, by omega, HNX.out⟩
          case measure => simp [intOf]; omega
        · have hmem : j ∈ rowE x.k := by simpa using hbn
          have hle := right_fld HR.out hmem hlt
          rw [hF] at hle
          have hj4n : j ≠ 4 := by omega
          by_cases hneg : F < 0
          · have hq : decide (F < 0) = true := by simpa using hneg
            have hF1 : F = -1 := by
              unfold leastE at hle
              split at hle <;> omega
            have HNX : Hid ((S ++ ByteArray.mk #[32, 45]).data.toList ++ rowT x ((rowE x.k).filter (j + 1 ≤ ·)) = textE x) := by
              show _ = _
              rw [← HTX.out, HST.out, hbn, if_pos rfl, rowT]
              unfold fldT
              rw [if_neg hj4n, if_pos (by rw [hF]; exact hF1)]
              simp [ByteArray.data_append]
            have q1 : ¬ (9223372036854775807 < S.size + 2) := by omega
            clear hbn hF hmem hle hneg hF1 hj4n
            go_wp2_with fail
            go_round
            case rel => exact ⟨j + 1, S ++ ByteArray.mk #[32, 45], by go_num, rfl, by omega, by rw [ByteArray.size_append, z45]; omega, HNX.out⟩
            case measure => simp [intOf]; omega
          · have hq : decide (F < 0) = false := by simpa using hneg
            have hFr : Rng F := by
              rw [← hF]
              match j, hlt with
              | 0, _ => exact hrg.sy
              | 1, _ => exact hrg.br
              | 2, _ => exact hrg.pa
              | 3, _ => exact hrg.n
            obtain ⟨D, hD, hDz, hDl⟩ := itoa_str F hFr
            have HNX : Hid ((S ++ ByteArray.mk #[32] ++ D).data.toList ++ rowT x ((rowE x.k).filter (j + 1 ≤ ·)) = textE x) := by
              show _ = _
              rw [← HTX.out, HST.out, hbn, if_pos rfl, rowT]
              unfold fldT
              rw [if_neg hj4n, if_neg (by rw [hF]; omega), hF, ← hDl]
              simp [ByteArray.data_append]
            have q1 : ¬ (9223372036854775807 < S.size + 1) := by omega
            have q2 : ¬ (9223372036854775807 < S.size + 1 + D.size) := by omega
            have HD := Lib.hid hD
            clear hbn hF hmem hle hneg hj4n hD hDl
            go_wp2_with fail
            refine (rDigits_any F hFr _).mono ?_
            rw [HD.out]
            rintro e w5 ⟨rfl, rfl⟩
            go_wp2_with fail
            go_round
            case rel => exact ⟨j + 1, S ++ ByteArray.mk #[32] ++ D, by go_num, rfl, by omega, by rw [ByteArray.size_append, ByteArray.size_append, z32]; omega, HNX.out⟩
            case measure => simp [intOf]; omega
      · obtain rfl : j = 4 := by omega
        have hd1 : decide (((4 : Nat) : Int) < 4) = false := by decide
        have c44 := nm_at HM4.out (i := 4) (by omega)
        have HST := Lib.hid (rowI_step x.k 4 (by omega))
        obtain ⟨b4, hb4⟩ : ∃ b, decide (4 ∈ rowE x.k) = b := ⟨_, rfl⟩
        rw [hb4] at c44
        cases b4
        · have HNX : Hid (S.data.toList = textE x) := by
            show _ = _
            rw [← HTX.out, HST.out, hb4, if_neg (by simp), rowI_end]
            simp [rowT]
          obtain rfl : C = .tuple #[.string S, .int .i64 0] := by rw [HC2.out, str_eq HNX.out]
          clear hb4
          go_wp2_with fail
          go_ret2
          exact ⟨rfl, hbw⟩
        · have hmem : 4 ∈ rowE x.k := by simpa using hb4
          have hrt := right_val HR.out hmem
          obtain ⟨V, hV⟩ : ∃ V : ByteArray, (⟨(txt x.v).toArray⟩ : ByteArray) = V := ⟨_, rfl⟩
          obtain ⟨kk', nn', a', len', cap', hve, hv4, hrg4⟩ := hi4
          have hVz : V.size ≤ 20000 := by
            have := right_len hrt hv4.rng
            rw [← hV]
            simp [ByteArray.size]
            omega
          have HNX : Hid ((S ++ ByteArray.mk #[32] ++ V).data.toList = textE x) := by
            show _ = _
            rw [← HTX.out, HST.out, hb4, if_pos rfl, rowI_end, rowT, rowT]
            unfold fldT
            rw [if_pos rfl, ← hV]
            simp [ByteArray.data_append]
          obtain rfl : C = .tuple #[.string (S ++ ByteArray.mk #[32] ++ V), .int .i64 0] := by rw [HC2.out, str_eq HNX.out]
          have hve2 : kk = kk' ∧ nn = nn' ∧ a = a' ∧ len = len' ∧ cap = cap' := by
            unfold evC at hve
            simp only [Value.agg.injEq, Array.mk.injEq, List.cons.injEq, Value.int.injEq, Value.slice.injEq, true_and, and_true] at hve
            obtain ⟨e1, e2, e3, e4, e5⟩ := hve
            exact ⟨e1, e2, e3, e4, e5⟩
          obtain ⟨rfl, rfl, rfl, rfl, rfl⟩ := hve2
          have q1 : ¬ (9223372036854775807 < S.size + 1) := by omega
          have q2 : ¬ (9223372036854775807 < S.size + 1 + V.size) := by omega
          have HTV : Hid (textV x.v = .tuple #[.string V, .int .i64 0]) := by
            show _ = _
            rw [txt_V hrt, hV]
          obtain ⟨c0, c1, c2, c3, c4, c5, c6, c7, c8, c9⟩ := BE.c hbe4
          clear hb4 hmem hrt hV hve c0 c1 c2 c3 c4 c5 c6
          go_wp2_with fail
          refine (rText_any x.v _ _ hv4 hnd).mono ?_
          rw [HTV.out]
          rintro e w5 ⟨rfl, hb5⟩
          go_wp2_with fail
          go_ret2
          exact ⟨rfl, hbw.trans (hb5.mono hbw.size)⟩
end Go.Proofs.YtjldbbcdhdfliaaGreatDoor
