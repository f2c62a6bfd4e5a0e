/-
  Walks over the reference of layer 5: text, Text, Lines.
-/
import Derived.Test.YtkahboomahhdoaaDoorRefT
namespace Go.Proofs.YtkahboomahhdoaaDoor
open Go.RowKit

theorem mk_app (a b : List UInt8) : ByteArray.mk a.toArray ++ ByteArray.mk b.toArray = ByteArray.mk (a ++ b).toArray := by
  apply ByteArray.ext
  rw [ByteArray.data_append]
  apply Array.ext'
  simp
theorem word_new (w : World) (j : Nat) (hj : j < 14) : (w.alloc (.cells wordCells 9)).cell? ⟨w.heap.size, j, none⟩ = some (.string (wdB j)) := by
  have h : j = 0 ∨ j = 1 ∨ j = 2 ∨ j = 3 ∨ j = 4 ∨ j = 5 ∨ j = 6 ∨ j = 7 ∨ j = 8 ∨ j = 9 ∨ j = 10 ∨ j = 11 ∨ j = 12 ∨ j = 13 := by omega
  rw [World.cell?_alloc_new]
  rcases h with rfl | rfl | rfl | rfl | rfl | rfl | rfl | rfl | rfl | rfl | rfl | rfl | rfl | rfl <;> rfl
theorem text_start (w : World) (j : Nat) (hj : j < 14) (k n : Int) (a : Option Addr) (len cap : Nat) :
    ((w.alloc (.cells #[.int .i64 k, .int .i64 n, .slice a len cap] 26)).alloc (.cells wordCells 9)).cell? ⟨w.heap.size + 1, j, none⟩ = some (.string (wdB j)) ∧
    Bx ((w.alloc (.cells #[.int .i64 k, .int .i64 n, .slice a len cap] 26)).alloc (.cells wordCells 9)) w.heap.size 26 (.int .i64 k) (.int .i64 n) (.slice a len cap) ∧
    Below w.heap.size w ((w.alloc (.cells #[.int .i64 k, .int .i64 n, .slice a len cap] 26)).alloc (.cells wordCells 9)) := by
  have h1 := word_new (w.alloc (.cells #[.int .i64 k, .int .i64 n, .slice a len cap] 26)) j hj
  have hs : (w.alloc (.cells #[.int .i64 k, .int .i64 n, .slice a len cap] 26)).heap.size = w.heap.size + 1 := by simp
  rw [hs] at h1
  exact ⟨h1, (Bx.new w 26 _ _ _).alloc _, (below_alloc _ _).trans ((below_alloc _ _).mono (by simp))⟩
/-- A string of bytes, with its length at hand. -/
def bstr (l : List UInt8) : ByteArray := ⟨l.toArray⟩
theorem bstr_size (l : List UInt8) : (bstr l).size = l.length := rfl
theorem bstr_app (a b : List UInt8) : bstr a ++ bstr b = bstr (a ++ b) := mk_app a b
theorem wdB_bstr (j : Nat) : wdB j = bstr (wdl j) := rfl

set_option maxRecDepth 100000 in
set_option maxHeartbeats 2000000 in
theorem rtext_any (m : Nat) : ∀ (t : VT) (v : Value) (w : World), SizeOf.sizeOf t ≤ m → IsV (· < w.heap.size) w t v → shps t = true → (txt t).length ≤ 1000000 →
    Calls Tryd.prog 43 #[v] w fun e w' => e = .returned (.string (bstr (txt t))) ∧ Below w.heap.size w w' := by
  induction m with
  | zero => intro t; cases t; simp
  | succ m ih =>
    intro t v w hk hv hsh hlen
    obtain ⟨kd, nn, l⟩ := t
    rw [IsV] at hv
    obtain ⟨a, cap, rfl, hkr, hnr, hl, hcap, hrow⟩ := hv
    unfold maxLen at hcap
    have HI := Lib.hid ih
    clear ih
    rw [shps, Bool.and_eq_true] at hsh
    have hkind := shp_kind hsh.1
    have HSL := Lib.hid hsh.2
    clear hsh
    have hb0 := below_alloc w (.cells #[.int .i64 kd, .int .i64 nn, .slice a l.length cap] 26)
    have hbx := Bx.new w 26 (.int .i64 kd) (.int .i64 nn) (.slice a l.length cap)
    have hf15 : (bstr [40]).size = 1 := rfl
    have hf16 : (bstr [41]).size = 1 := rfl
    have hf17 : (bstr [44]).size = 1 := rfl
    by_cases h2 : kd = 2
    · subst h2
      have HT : Hid (txt (.mk 2 nn l) = Lib.itoa nn) := by show _ = _; rw [txt, if_pos rfl]
      go_enter Tryd.func43, Tryd.ntmps43
      go_wp2_with fail
      refine (rDigits_any nn hnr _).mono ?_
      rintro e w1 ⟨rfl, rfl⟩
      go_wp2_with fail
      go_ret
      exact ⟨by rw [HT.out]; rfl, hb0⟩
    · obtain ⟨j, rfl⟩ := Int.eq_ofNat_of_zero_le (show 0 ≤ kd by omega)
      have hj : j < 14 := by omega
      have e2 : ((j : Int) == 2) = false := by rw [beq_eq_false_iff_ne]; exact h2
      obtain ⟨hwn, hbx1, hb1⟩ := text_start w j hj j nn a l.length cap
      by_cases hleaf : (j : Int) = 1 ∨ (j : Int) = 8
      · have HT : Hid (txt (.mk j nn l) = wdl j) := by
          show _ = _
          rw [txt, if_neg h2, if_pos hleaf]
          simp
        have hd : ((j : Int) == 1 || (j : Int) == 8) = true := by simpa using hleaf
        go_enter Tryd.func43, Tryd.ntmps43
        go_wp2_with fail
        refine (refwords_any _).mono ?_
        rintro e w1 ⟨rfl, rfl⟩
        generalize (w.alloc (.cells #[.int .i64 (j : Int), .int .i64 nn, .slice a l.length cap] 26)).alloc (.cells wordCells 9) = w2 at *
        rcases hleaf with h1 | h1
        all_goals
          obtain rfl : j = _ := Int.ofNat_inj.1 h1
          go_wp2_with fail
          go_ret
          exact ⟨(congrArg (fun x => Ending.returned (.string (bstr x))) HT.out).symm, hb1⟩
      · have e1 : ((j : Int) == 1) = false := by rw [beq_eq_false_iff_ne]; omega
        have e8 : ((j : Int) == 8) = false := by rw [beq_eq_false_iff_ne]; omega
        cases hnd : numd j
        · have HND := Lib.hid hnd
          clear hnd
          have HT : Hid (txt (.mk j nn l) = (wdl j ++ [40]) ++ txtL l false ++ [41]) := by
            show _ = _
            rw [txt, if_neg h2, if_neg hleaf, HND.out]
            simp
          rw [HT.out] at hlen
          simp only [List.length_append, List.length_cons, List.length_nil] at hlen
          have hws : (wdB j).size = (wdl j).length := rfl
          have h40 : (ByteArray.mk #[40]).size = 1 := rfl
          have h41 : (ByteArray.mk #[41]).size = 1 := rfl
          have h44 : (ByteArray.mk #[44]).size = 1 := rfl
          go_enter Tryd.func43, Tryd.ntmps43
          go_wp2_with fail
          refine (refwords_any _).mono ?_
          rintro e w1 ⟨rfl, rfl⟩
          generalize (w.alloc (.cells #[.int .i64 (j : Int), .int .i64 nn, .slice a l.length cap] 26)).alloc (.cells wordCells 9) = w2 at *
          go_wp2_with fail
          have hS0 : wdB j ++ ByteArray.mk #[40] = bstr (wdl j ++ [40]) := bstr_app (wdl j) [40]
          have hz0 : (wdB j ++ ByteArray.mk #[40]).size = (wdl j).length + 1 := by rw [hS0, bstr_size]; simp
          generalize wdB j ++ ByteArray.mk #[40] = S0 at *
          have HS0 := Lib.hid hS0
          clear hS0
          refine (rnumbered_any _ _ (by omega)).mono ?_
          rintro e w3 ⟨rfl, rfl⟩
          rw [HND.out]
          clear hwn
          have x1 := hbx1.c1
          have x2 := hbx1.c2
          go_wp2_with fail
          go_loopw [4, 5] (fun sv x wr => ∃ (i : Nat) (done : List UInt8) (S : ByteArray), i ≤ l.length ∧ x = .int .i64 i ∧ sv = .string S ∧ S = bstr ((wdl j ++ [40]) ++ done) ∧ txtL l false = done ++ txtL (l.drop i) (decide (0 < i) || false) ∧ Below w.heap.size w wr ∧ Bx wr w.heap.size 26 (.int .i64 j) (.int .i64 nn) (.slice a l.length cap)) (fun _ x _ => l.length - (intOf x).toNat)
          case atStart => exact ⟨0, [], _, by omega, rfl, rfl, by rw [List.append_nil]; exact HS0.out, rfl, hb1, hbx1⟩
          case round =>
            clear x1 x2 hbx1 hb1
            obtain ⟨i, done, S, hi, rfl, rfl, hS, hq, hb, hbx1⟩ := hrel
            have HQ := Lib.hid hq
            have hqlen : (txtL l false).length = done.length + (txtL (l.drop i) (decide (0 < i) || false)).length := by rw [hq, List.length_append]
            have hpd : S.size = (wdl j ++ [40]).length + done.length := by rw [hS, bstr_size, List.length_append]
            simp only [List.length_append, List.length_cons, List.length_nil] at hpd
            have HSS := Lib.hid hS
            clear hq hS
            have hsz := hb.size
            have x2 := hbx1.c2
            have hxl := hbx1.lt
            by_cases hlt : i < l.length
            · obtain ⟨kk, n2, ll, g, o, a', cap', hlj, rfl, hg, c0, c1, c2, ht⟩ := hrow.at_ hlt
              have d0 := (hb.cell (p := ⟨g, o + i * 3, none⟩) hg).trans c0
              have d1 := (hb.cell (p := ⟨g, o + i * 3 + 1, none⟩) hg).trans c1
              have d2 := (hb.cell (p := ⟨g, o + i * 3 + 2, none⟩) hg).trans c2
              have hsub : shps (.mk kk n2 ll) = true := by rw [← hlj]; exact shpsL_mem HSL.out (List.getElem_mem hlt)
              have hszk : SizeOf.sizeOf (VT.mk kk n2 ll) ≤ m := by rw [← hlj]; exact sz_lt (List.getElem_mem hlt) hk
              have hstep : ∀ c, txtL (l.drop i) c = (if c then [44] else []) ++ (txt (.mk kk n2 ll) ++ txtL (l.drop (i + 1)) true) := by
                intro c
                rw [List.drop_eq_getElem_cons hlt, txtL, hlj]
              have HS := Lib.hid hstep
              have HSUB := Lib.hid hsub
              clear hstep hlj c0 c1 c2 hsub
              have hc1 : Hid ((decide (0 < i + 1) || false) = true) := by show _ = _; simp
              have hvk := ht.later hb
              by_cases hi0 : i = 0
              · subst hi0
                rw [Nat.zero_mul, Nat.add_zero] at d0 d1 d2
                have hcz : (decide (0 < 0) || false) = false := by simp
                have hl9 : (txtL (l.drop 0) (decide (0 < 0) || false)).length = (txt (.mk kk n2 ll)).length + (txtL (l.drop (0 + 1)) true).length := by rw [HS.out, hcz]; simp
                have HCZ := Lib.hid hcz
                clear hcz
                have hd0 : decide ((0 : Int) < ((0 : Nat) : Int)) = false := by simp
                go_wp2_with (go_at_call 64; refine (rnumbered_any _ _ (by omega)).mono ?_; rintro e w3 ⟨rfl, rfl⟩; rw [HND.out])
                refine (HI.out (.mk kk n2 ll) _ _ hszk hvk HSUB.out (by omega)).mono ?_
                rintro e w5 ⟨rfl, hb5⟩
                have htk : (bstr (txt (.mk kk n2 ll))).size = (txt (.mk kk n2 ll)).length := rfl
                have HAP : Hid (S ++ bstr (txt (.mk kk n2 ll)) = bstr ((wdl j ++ [40]) ++ (done ++ txt (.mk kk n2 ll)))) := by show _ = _; rw [HSS.out, bstr_app]; simp
                generalize bstr (txt (.mk kk n2 ll)) = T at *
                go_wp2_with fail
                go_roundw
                case rel =>
                  refine ⟨0 + 1, done ++ txt (.mk kk n2 ll), _, by omega, by go_num, rfl, HAP.out, ?_, hb.trans (hb5.mono hsz), hbx1.belowAll hb5⟩
                  rw [HQ.out, HS.out, HCZ.out, hc1.out]; simp
                case measure => simp [intOf]; omega
              · have hip : 0 < i := by omega
                have hcz : (decide (0 < i) || false) = true := by simp [hip]
                have hl9 : (txtL (l.drop i) (decide (0 < i) || false)).length = 1 + ((txt (.mk kk n2 ll)).length + (txtL (l.drop (i + 1)) true).length) := by rw [HS.out, hcz]; simp; omega
                have HCZ := Lib.hid hcz
                clear hcz
                go_wp2_with (go_at_call 64; refine (rnumbered_any _ _ (by omega)).mono ?_; rintro e w3 ⟨rfl, rfl⟩; rw [HND.out])
                have h442 : S ++ ByteArray.mk #[44] = bstr ((wdl j ++ [40]) ++ done ++ [44]) := by rw [HSS.out]; exact bstr_app _ [44]
                have hz44 : (S ++ ByteArray.mk #[44]).size = S.size + 1 := by rw [ByteArray.size_append]; rfl
                generalize S ++ ByteArray.mk #[44] = S2 at *
                have H44 := Lib.hid h442
                clear h442
                refine (HI.out (.mk kk n2 ll) _ _ hszk hvk HSUB.out (by omega)).mono ?_
                rintro e w5 ⟨rfl, hb5⟩
                have htk : (bstr (txt (.mk kk n2 ll))).size = (txt (.mk kk n2 ll)).length := rfl
                have HAP : Hid (S2 ++ bstr (txt (.mk kk n2 ll)) = bstr ((wdl j ++ [40]) ++ (done ++ [44] ++ txt (.mk kk n2 ll)))) := by show _ = _; rw [H44.out, bstr_app]; simp
                generalize bstr (txt (.mk kk n2 ll)) = T at *
                go_wp2_with fail
                go_roundw
                case rel =>
                  refine ⟨i + 1, done ++ [44] ++ txt (.mk kk n2 ll), _, by omega, by go_num, rfl, HAP.out, ?_, hb.trans (hb5.mono hsz), hbx1.belowAll hb5⟩
                  rw [HQ.out, HS.out, HCZ.out, hc1.out]; simp
                case measure => simp [intOf]; omega
            · have hnil : txtL (l.drop i) (decide (0 < i) || false) = [] := by rw [List.drop_of_length_le (by omega), txtL]
              rw [hnil] at hqlen
              have HN := Lib.hid hnil
              have H41 : Hid (S ++ ByteArray.mk #[41] = bstr ((wdl j ++ [40]) ++ done ++ [41])) := by show _ = _; rw [HSS.out]; exact bstr_app _ [41]
              clear hnil
              simp only [List.length_nil] at hqlen
              go_wp2_with fail
              go_ret
              refine ⟨?_, hb⟩
              have e9 : txt (.mk j nn l) = (wdl j ++ [40]) ++ done ++ [41] := by rw [HT.out, HQ.out, HN.out]; simp
              rw [e9, ← H41.out]; rfl
        · have HND := Lib.hid hnd
          clear hnd
          have HT : Hid (txt (.mk j nn l) = (wdl j ++ [40] ++ Lib.itoa nn) ++ txtL l true ++ [41]) := by
            show _ = _
            rw [txt, if_neg h2, if_neg hleaf, HND.out]
            simp
          rw [HT.out] at hlen
          simp only [List.length_append, List.length_cons, List.length_nil] at hlen
          have hws : (wdB j).size = (wdl j).length := rfl
          have h40 : (ByteArray.mk #[40]).size = 1 := rfl
          have h41 : (ByteArray.mk #[41]).size = 1 := rfl
          have h44 : (ByteArray.mk #[44]).size = 1 := rfl
          go_enter Tryd.func43, Tryd.ntmps43
          go_wp2_with fail
          refine (refwords_any _).mono ?_
          rintro e w1 ⟨rfl, rfl⟩
          generalize (w.alloc (.cells #[.int .i64 (j : Int), .int .i64 nn, .slice a l.length cap] 26)).alloc (.cells wordCells 9) = w2 at *
          go_wp2_with fail
          have hS0 : wdB j ++ ByteArray.mk #[40] = bstr (wdl j ++ [40]) := bstr_app (wdl j) [40]
          have hz0 : (wdB j ++ ByteArray.mk #[40]).size = (wdl j).length + 1 := by rw [hS0, bstr_size]; simp
          generalize wdB j ++ ByteArray.mk #[40] = S0 at *
          have HS0 := Lib.hid hS0
          clear hS0
          refine (rnumbered_any _ _ (by omega)).mono ?_
          rintro e w3 ⟨rfl, rfl⟩
          rw [HND.out]
          clear hwn
          have x1 := hbx1.c1
          have x2 := hbx1.c2
          go_wp2_with fail
          refine (rDigits_any nn hnr _).mono ?_
          rintro e w4 ⟨rfl, rfl⟩
          have hit : (ByteArray.mk (Lib.itoa nn).toArray).size = (Lib.itoa nn).length := rfl
          have hSI : ByteArray.mk (Lib.itoa nn).toArray = bstr (Lib.itoa nn) := rfl
          generalize ByteArray.mk (Lib.itoa nn).toArray = SI at *
          have HSI := Lib.hid hSI
          clear hSI
          go_wp2_with fail
          have hS1 : S0 ++ SI = bstr (wdl j ++ [40] ++ Lib.itoa nn) := by rw [HS0.out, HSI.out]; exact bstr_app _ _
          generalize S0 ++ SI = S1 at *
          have HS1 := Lib.hid hS1
          clear hS1
          go_loopw [4, 5] (fun sv x wr => ∃ (i : Nat) (done : List UInt8) (S : ByteArray), i ≤ l.length ∧ x = .int .i64 i ∧ sv = .string S ∧ S = bstr ((wdl j ++ [40] ++ Lib.itoa nn) ++ done) ∧ txtL l true = done ++ txtL (l.drop i) (decide (0 < i) || true) ∧ Below w.heap.size w wr ∧ Bx wr w.heap.size 26 (.int .i64 j) (.int .i64 nn) (.slice a l.length cap)) (fun _ x _ => l.length - (intOf x).toNat)
          case atStart => exact ⟨0, [], _, by omega, rfl, rfl, by rw [List.append_nil]; exact HS1.out, rfl, hb1, hbx1⟩
          case round =>
            clear x1 x2 hbx1 hb1
            obtain ⟨i, done, S, hi, rfl, rfl, hS, hq, hb, hbx1⟩ := hrel
            have HQ := Lib.hid hq
            have hqlen : (txtL l true).length = done.length + (txtL (l.drop i) (decide (0 < i) || true)).length := by rw [hq, List.length_append]
            have hpd : S.size = (wdl j ++ [40] ++ Lib.itoa nn).length + done.length := by rw [hS, bstr_size, List.length_append]
            simp only [List.length_append, List.length_cons, List.length_nil] at hpd
            have HSS := Lib.hid hS
            clear hq hS
            have hsz := hb.size
            have x2 := hbx1.c2
            have hxl := hbx1.lt
            by_cases hlt : i < l.length
            · obtain ⟨kk, n2, ll, g, o, a', cap', hlj, rfl, hg, c0, c1, c2, ht⟩ := hrow.at_ hlt
              have d0 := (hb.cell (p := ⟨g, o + i * 3, none⟩) hg).trans c0
              have d1 := (hb.cell (p := ⟨g, o + i * 3 + 1, none⟩) hg).trans c1
              have d2 := (hb.cell (p := ⟨g, o + i * 3 + 2, none⟩) hg).trans c2
              have hsub : shps (.mk kk n2 ll) = true := by rw [← hlj]; exact shpsL_mem HSL.out (List.getElem_mem hlt)
              have hszk : SizeOf.sizeOf (VT.mk kk n2 ll) ≤ m := by rw [← hlj]; exact sz_lt (List.getElem_mem hlt) hk
              have hstep : ∀ c, txtL (l.drop i) c = (if c then [44] else []) ++ (txt (.mk kk n2 ll) ++ txtL (l.drop (i + 1)) true) := by
                intro c
                rw [List.drop_eq_getElem_cons hlt, txtL, hlj]
              have HS := Lib.hid hstep
              have HSUB := Lib.hid hsub
              clear hstep hlj c0 c1 c2 hsub
              have hc1 : Hid ((decide (0 < i + 1) || true) = true) := by show _ = _; simp
              have hvk := ht.later hb
              by_cases hi0 : i = 0
              · subst hi0
                rw [Nat.zero_mul, Nat.add_zero] at d0 d1 d2
                have hcz : (decide (0 < 0) || true) = true := by simp
                have hl9 : (txtL (l.drop 0) (decide (0 < 0) || true)).length = 1 + ((txt (.mk kk n2 ll)).length + (txtL (l.drop (0 + 1)) true).length) := by rw [HS.out, hcz]; simp; omega
                have HCZ := Lib.hid hcz
                clear hcz
                go_wp2_with (go_at_call 64; refine (rnumbered_any _ _ (by omega)).mono ?_; rintro e w3 ⟨rfl, rfl⟩; rw [HND.out])
                have h442 : S ++ ByteArray.mk #[44] = bstr ((wdl j ++ [40] ++ Lib.itoa nn) ++ done ++ [44]) := by rw [HSS.out]; exact bstr_app _ [44]
                have hz44 : (S ++ ByteArray.mk #[44]).size = S.size + 1 := by rw [ByteArray.size_append]; rfl
                generalize S ++ ByteArray.mk #[44] = S2 at *
                have H44 := Lib.hid h442
                clear h442
                refine (HI.out (.mk kk n2 ll) _ _ hszk hvk HSUB.out (by omega)).mono ?_
                rintro e w5 ⟨rfl, hb5⟩
                have htk : (bstr (txt (.mk kk n2 ll))).size = (txt (.mk kk n2 ll)).length := rfl
                have HAP : Hid (S2 ++ bstr (txt (.mk kk n2 ll)) = bstr ((wdl j ++ [40] ++ Lib.itoa nn) ++ (done ++ [44] ++ txt (.mk kk n2 ll)))) := by show _ = _; rw [H44.out, bstr_app]; simp
                generalize bstr (txt (.mk kk n2 ll)) = T at *
                go_wp2_with fail
                go_roundw
                case rel =>
                  refine ⟨0 + 1, done ++ [44] ++ txt (.mk kk n2 ll), _, by omega, by go_num, rfl, HAP.out, ?_, hb.trans (hb5.mono hsz), hbx1.belowAll hb5⟩
                  rw [HQ.out, HS.out, HCZ.out, hc1.out]; simp
                case measure => simp [intOf]; omega
              · have hip : 0 < i := by omega
                have hcz : (decide (0 < i) || true) = true := by simp [hip]
                have hl9 : (txtL (l.drop i) (decide (0 < i) || true)).length = 1 + ((txt (.mk kk n2 ll)).length + (txtL (l.drop (i + 1)) true).length) := by rw [HS.out, hcz]; simp; omega
                have HCZ := Lib.hid hcz
                clear hcz
                go_wp2_with (go_at_call 64; refine (rnumbered_any _ _ (by omega)).mono ?_; rintro e w3 ⟨rfl, rfl⟩; rw [HND.out])
                have h442 : S ++ ByteArray.mk #[44] = bstr ((wdl j ++ [40] ++ Lib.itoa nn) ++ done ++ [44]) := by rw [HSS.out]; exact bstr_app _ [44]
                have hz44 : (S ++ ByteArray.mk #[44]).size = S.size + 1 := by rw [ByteArray.size_append]; rfl
                generalize S ++ ByteArray.mk #[44] = S2 at *
                have H44 := Lib.hid h442
                clear h442
                refine (HI.out (.mk kk n2 ll) _ _ hszk hvk HSUB.out (by omega)).mono ?_
                rintro e w5 ⟨rfl, hb5⟩
                have htk : (bstr (txt (.mk kk n2 ll))).size = (txt (.mk kk n2 ll)).length := rfl
                have HAP : Hid (S2 ++ bstr (txt (.mk kk n2 ll)) = bstr ((wdl j ++ [40] ++ Lib.itoa nn) ++ (done ++ [44] ++ txt (.mk kk n2 ll)))) := by show _ = _; rw [H44.out, bstr_app]; simp
                generalize bstr (txt (.mk kk n2 ll)) = T at *
                go_wp2_with fail
                go_roundw
                case rel =>
                  refine ⟨i + 1, done ++ [44] ++ txt (.mk kk n2 ll), _, by omega, by go_num, rfl, HAP.out, ?_, hb.trans (hb5.mono hsz), hbx1.belowAll hb5⟩
                  rw [HQ.out, HS.out, HCZ.out, hc1.out]; simp
                case measure => simp [intOf]; omega
            · have hnil : txtL (l.drop i) (decide (0 < i) || true) = [] := by rw [List.drop_of_length_le (by omega), txtL]
              rw [hnil] at hqlen
              have HN := Lib.hid hnil
              have H41 : Hid (S ++ ByteArray.mk #[41] = bstr ((wdl j ++ [40] ++ Lib.itoa nn) ++ done ++ [41])) := by show _ = _; rw [HSS.out]; exact bstr_app _ [41]
              clear hnil
              simp only [List.length_nil] at hqlen
              go_wp2_with fail
              go_ret
              refine ⟨?_, hb⟩
              have e9 : txt (.mk j nn l) = (wdl j ++ [40] ++ Lib.itoa nn) ++ done ++ [41] := by rw [HT.out, HQ.out, HN.out]; simp
              rw [e9, ← H41.out]; rfl
end Go.Proofs.YtkahboomahhdoaaDoor
