/-
  ValtextHolds: for every two values and every two strings the call returns true, and the arguments read as they did: the row and its card.
-/
import Derived.Test.YtkahboomahhdoaaDoorHold
import Derived.Test.YtkahboomahhdoaaDoorLaw1
import Derived.Test.YtkahboomahhdoaaDoorTop0
import Derived.Test.YtkahboomahhdoaaDoorOpen
import Derived.Carry
namespace Go.Proofs.YtkahboomahhdoaaDoor
open Go.RowKit Go.Shelf

theorem bytes_eq {s : ByteArray} {l : List UInt8} (h : l = s.data.toList) : (⟨l.toArray⟩ : ByteArray) = s := by
  obtain ⟨d⟩ := s
  subst h
  simp
theorem alike_cut (s : ByteArray) (j : Nat) : Alike s (s.extract 0 j) j := by
  unfold Alike
  simp [ByteArray.data_extract, List.take_take]
theorem alike_app (s more : ByteArray) (j : Nat) (hj : j ≤ s.size) : Alike s (s.extract 0 j ++ more) j := by
  unfold Alike
  have hl : s.data.toList.length = s.size := by simp
  rw [ByteArray.data_append, ByteArray.data_extract]
  simp only [Array.toList_append, Array.toList_extract]
  rw [List.take_append_of_le_length (by simp; omega)]
  simp [List.take_take]
/-- What Text of a value hands back. -/
def TxOf (t : VT) (S : ByteArray) (n : Int) : Prop := (n = 0 ∧ right t = true ∧ S = ⟨(txt t).toArray⟩) ∨ n = 40
theorem textV_of (t : VT) : ∃ (S : ByteArray) (n : Int), textV t = .tuple #[.string S, .int .i64 n] ∧ TxOf t S n := by
  unfold textV
  split
  · rename_i h
    exact ⟨_, _, rfl, .inl ⟨rfl, h, rfl⟩⟩
  · exact ⟨_, _, rfl, .inr rfl⟩
theorem right_nd {t : VT} (h : right t = true) : nd t ≤ 256 := by
  unfold right at h
  simp only [Bool.and_eq_true, small_nd, decide_eq_true_eq] at h
  exact h.1
theorem res_cut {s : ByteArray} {j : Nat} (h : parse s = .error j) {t : VT} {j1 er1 : Nat} (hr : resP (parse (s.extract 0 j)) = (t, j1, er1)) : er1 = 0 ∨ (er1 = 50 ∧ j1 = j) := by
  rcases hp : parse (s.extract 0 j) with j' | t'
  · rw [hp] at hr
    injection hr with h1 h2
    injection h2 with h2 h3
    have h4 := parse_ahead h (alike_cut s j) hp
    have h5 := parse_le hp
    have h6 : (s.extract 0 j).size ≤ j := by simp; omega
    exact .inr ⟨h3.symm, by omega⟩
  · rw [hp] at hr
    injection hr with h1 h2
    injection h2 with h2 h3
    exact .inl h3.symm
theorem res_app {s more : ByteArray} {j : Nat} (h : parse s = .error j) {t : VT} {j1 er1 : Nat} (hr : resP (parse (s.extract 0 j ++ more)) = (t, j1, er1)) : er1 = 0 ∨ (er1 = 50 ∧ j ≤ j1) := by
  rcases hp : parse (s.extract 0 j ++ more) with j' | t'
  · rw [hp] at hr
    injection hr with h1 h2
    injection h2 with h2 h3
    have h4 := parse_ahead h (alike_app s more j (parse_le h)) hp
    exact .inr ⟨h3.symm, by omega⟩
  · rw [hp] at hr
    injection hr with h1 h2
    injection h2 with h2 h3
    exact .inl h3.symm
/-- What stands in ValtextHolds. -/
structure HSt (ta tb : VT) (ka na : Int) (aa : Option Addr) (la ca : Nat) (kb nb : Int) (ab : Option Addr) (lb cb : Nat) (w W : World) : Prop where
  xa : Bx W w.heap.size 26 (.int .i64 ka) (.int .i64 na) (.slice aa la ca)
  xb : Bx W (w.heap.size + 1) 26 (.int .i64 kb) (.int .i64 nb) (.slice ab lb cb)
  va : IsV (· < W.heap.size) W ta (.agg #[.int .i64 ka, .int .i64 na, .slice aa la ca])
  vb : IsV (· < W.heap.size) W tb (.agg #[.int .i64 kb, .int .i64 nb, .slice ab lb cb])
  b : Below w.heap.size w W
  env : Env W
theorem HSt.below {ta tb : VT} {ka na : Int} {aa : Option Addr} {la ca : Nat} {kb nb : Int} {ab : Option Addr} {lb cb : Nat} {w W W' : World} (h : HSt ta tb ka na aa la ca kb nb ab lb cb w W) (hb : Below W.heap.size W W') : HSt ta tb ka na aa la ca kb nb ab lb cb w W' :=
  ⟨h.xa.belowAll hb, h.xb.belowAll hb, h.va.later hb, h.vb.later hb, h.b.trans (hb.mono h.b.size), h.env.below hb h.env.size⟩

set_option maxRecDepth 100000 in
set_option maxHeartbeats 4000000 in
theorem holds_law (ta tb : VT) (v v' : Value) (s more : ByteArray) (hs : s.size ≤ maxLen) (hm : more.size ≤ maxLen) (w : World) (hv : IsV (· < w.heap.size) w ta v) (hv' : IsV (· < w.heap.size) w tb v') (hE : Env w) :
    Calls Tryd.prog 7 #[v, v', .string s, .string more] w fun e w' => e = .returned (.bool true) ∧ Below w.heap.size w w' := by
  have hs2 := hs
  have hm2 := hm
  unfold maxLen at hs2 hm2
  obtain ⟨ka, na, aa, la, ca, rfl⟩ := hv.form
  obtain ⟨kb, nb, ab, lb, cb, rfl⟩ := hv'.form
  have hb0 := (below_alloc w (.cells #[.int .i64 ka, .int .i64 na, .slice aa la ca] 26)).trans ((below_alloc (w.alloc (.cells #[.int .i64 ka, .int .i64 na, .slice aa la ca] 26)) (.cells #[.int .i64 kb, .int .i64 nb, .slice ab lb cb] 26)).mono (by simp))
  have hst0 : HSt ta tb ka na aa la ca kb nb ab lb cb w ((w.alloc (.cells #[.int .i64 ka, .int .i64 na, .slice aa la ca] 26)).alloc (.cells #[.int .i64 kb, .int .i64 nb, .slice ab lb cb] 26)) :=
    ⟨(Bx.new w _ _ _ _).alloc _, two_new _ _ _, hv.later hb0, hv'.later hb0, hb0, hE.below hb0 hE.size⟩
  clear hb0 hv hv' hE
  go_enter Tryd.func7, Tryd.ntmps7
  go_upto_region 1 with fail
  generalize (w.alloc (.cells #[.int .i64 ka, .int .i64 na, .slice aa la ca] 26)).alloc (.cells #[.int .i64 kb, .int .i64 nb, .slice ab lb cb] 26) = w1 at *
  have a0 := hst0.xa.c0
  have a1 := hst0.xa.c1
  have a2 := hst0.xa.c2
  by_cases hl : 600 < s.size
  · have hd : decide (600 < (s.size : Int)) = true := by simp; omega
    go_wp2_with fail
    refine (works_any _ hst0.env).mono ?_
    rintro e w2 ⟨rfl, hb2⟩
    go_wp2_with fail
    go_ret
    exact ⟨rfl, (hst0.below hb2).b⟩
  have hd : decide (600 < (s.size : Int)) = false := by simp; omega
  by_cases hl2 : 50 < more.size
  · have hd2 : decide (50 < (more.size : Int)) = true := by simp; omega
    go_wp2_with fail
    refine (works_any _ hst0.env).mono ?_
    rintro e w2 ⟨rfl, hb2⟩
    go_wp2_with fail
    go_ret
    exact ⟨rfl, (hst0.below hb2).b⟩
  have hd2 : decide (50 < (more.size : Int)) = false := by simp; omega
  go_wp2_with fail
  refine (Size_any ta _ _ hst0.va).mono ?_
  rintro e w2 ⟨rfl, hb2⟩
  have hst2 := hst0.below hb2
  clear hst0 hb2 a0 a1 a2
  generalize cnt ta 0 = sa
  have b0 := hst2.xb.c0
  have b1 := hst2.xb.c1
  have b2 := hst2.xb.c2
  by_cases hl3 : 256 < sa
  · have hd3 : decide (256 < (sa : Int)) = true := by simp; omega
    go_wp2_with fail
    refine (works_any _ hst2.env).mono ?_
    rintro e w3 ⟨rfl, hb3⟩
    go_wp2_with fail
    go_ret
    exact ⟨rfl, (hst2.below hb3).b⟩
  have hd3 : decide (256 < (sa : Int)) = false := by simp; omega
  go_wp2_with fail
  refine (Size_any tb _ _ hst2.vb).mono ?_
  rintro e w3 ⟨rfl, hb3⟩
  have hst3 := hst2.below hb3
  clear hst2 hb3 b0 b1 b2
  generalize cnt tb 0 = sb
  by_cases hl4 : 256 < sb
  · have hd4 : decide (256 < (sb : Int)) = true := by simp; omega
    go_wp2_with fail
    refine (works_any _ hst3.env).mono ?_
    rintro e w4 ⟨rfl, hb4⟩
    go_wp2_with fail
    go_ret
    exact ⟨rfl, (hst3.below hb4).b⟩
  have hd4 : decide (256 < (sb : Int)) = false := by simp; omega
  have a0 := hst3.xa.c0
  have a1 := hst3.xa.c1
  have a2 := hst3.xa.c2
  obtain ⟨S, m, hS, hSo⟩ := textV_of ta
  obtain ⟨S', m', hS', hSo'⟩ := textV_of tb
  have HS := Lib.hid hS
  have HS' := Lib.hid hS'
  clear hS hS'
  go_wp2_with fail
  refine (Text_any ta _ _ hst3.va hst3.env).mono ?_
  rw [HS.out]
  rintro e w4 ⟨rfl, hb4⟩
  have hst4 := hst3.below hb4
  clear hst3 hb4 a0 a1 a2
  have b0 := hst4.xb.c0
  have b1 := hst4.xb.c1
  have b2 := hst4.xb.c2
  go_wp2_with fail
  refine (Text_any tb _ _ hst4.vb hst4.env).mono ?_
  rw [HS'.out]
  rintro e w5 ⟨rfl, hb5⟩
  have hst5 := hst4.below hb5
  clear hst4 hb5 b0 b1 b2
  go_wp2_with fail
  refine (num_any _ _).mono ?_
  rintro e w6 ⟨rfl, rfl⟩
  go_upto_if 58 with fail
  go_cut [] from 13 to 92 (fun wx => Below w.heap.size w wx ∧ Env wx)
  case first =>
    rcases hSo with ⟨rfl, hra, hSe⟩ | rfl
    · have HSE := Lib.hid hSe
      have hnda := right_nd hra
      have hszS := right_len hra hst5.va.rng
      have hp : parse S = .ok ta := by rw [hSe]; exact parse_txt hra hst5.va.rng
      have hS3 : S.size ≤ maxLen := by rw [hSe]; unfold maxLen; simp [ByteArray.size]; omega
      have HP := Lib.hid hp
      clear hSe hp
      go_wp2_with fail
      refine (Parse_any S hS3 _ hst5.env.words).mono ?_
      intro e w7 h7
      rw [HP.out] at h7
      obtain ⟨vv, rfl, hv7, hb7⟩ := h7
      obtain ⟨k, n, a, len, cap, rfl⟩ := hv7.form
      go_upto_region 7 with fail
      have hb8 := below_alloc w7 (.cells #[.int .i64 k, .int .i64 n, .slice a len cap] 26)
      have hx8 := Bx.new w7 26 (.int .i64 k) (.int .i64 n) (.slice a len cap)
      have hst8 := (hst5.below hb7).below hb8
      have hv8 := IsV.later (w := w7) (hv7.more fun g hg => hg.2) hb8
      clear hst5 hb7 hb8 hv7
      generalize w7.alloc (.cells #[.int .i64 k, .int .i64 n, .slice a len cap] 26) = w8 at *
      generalize w7.heap.size = g7 at *
      go_wp2_with fail
      refine (num_any _ _).mono ?_
      rintro e w9 ⟨rfl, rfl⟩
      have x0 := hx8.c0
      have x1 := hx8.c1
      have x2 := hx8.c2
      have a0 := hst8.xa.c0
      have a1 := hst8.xa.c1
      have a2 := hst8.xa.c2
      go_wp2_with fail
      refine (Same_any ta ta _ _ _ hv8 hst8.va).mono ?_
      rw [same_refl hnda]
      rintro e w9 ⟨rfl, hb9⟩
      have hst9 := hst8.below hb9
      clear hst8 hb9 x0 x1 x2 a0 a1 a2 hx8 hv8
      go_wp2_with fail
      refine (num_any _ _).mono ?_
      rintro e w10 ⟨rfl, rfl⟩
      rcases hSo' with ⟨rfl, hrb, hSe'⟩ | rfl
      · have a0 := hst9.xa.c0
        have a1 := hst9.xa.c1
        have a2 := hst9.xa.c2
        have b0 := hst9.xb.c0
        have b1 := hst9.xb.c1
        have b2 := hst9.xb.c2
        have hst := same_txt hra hrb hst9.va.rng hst9.vb.rng
        obtain ⟨bb, hbb⟩ : ∃ bb, (small ta && small tb && eqT ta tb) = bb := ⟨_, rfl⟩
        have hbs : (S.toList == S'.toList) = bb := by
          rw [HSE.out, hSe', ByteArray.toList_eq, ByteArray.toList_eq, ← hbb, ← hst, Bool.eq_iff_iff]
          simp
        have HBB := Lib.hid hbb
        clear hbb hst hSe'
        go_wp2_with fail
        refine (Same_any ta tb _ _ _ hst9.va hst9.vb).mono ?_
        rw [HBB.out]
        rintro e w11 ⟨rfl, hb11⟩
        have hst11 := hst9.below hb11
        clear hst9 hb11
        cases bb
        · go_wp2_with fail
          go_meet
          exact ⟨hst11.b, hst11.env⟩
        · go_wp2_with fail
          go_meet
          exact ⟨hst11.b, hst11.env⟩
      · go_wp2_with fail
        go_meet
        exact ⟨hst9.b, hst9.env⟩
    · go_wp2_with fail
      go_meet
      exact ⟨hst5.b, hst5.env⟩
  case rest =>
    obtain ⟨hbc, hEc⟩ := hcut
    clear hst5
    go_wp2_with fail
    refine (Parse_any s hs _ hEc.words).mono ?_
    intro e w6 h6
    rcases hp : parse s with j | t
    · rw [hp] at h6
      obtain ⟨rfl, hb6⟩ := h6
      have hj := parse_le hp
      have HP := Lib.hid hp
      clear hp
      have hE6 := hEc.below hb6 hEc.size
      have hb7 := hbc.trans (hb6.mono hbc.size)
      clear hbc hEc hb6
      go_upto_region 10 with fail
      have hb8 := below_alloc w6 (.cells #[.int .i64 0, .int .i64 0, .slice none 0 0] 26)
      have hE8 := hE6.below hb8 hE6.size
      have hb9 := hb7.trans (hb8.mono hb7.size)
      clear hb7 hE6 hb8
      generalize w6.alloc (.cells #[.int .i64 0, .int .i64 0, .slice none 0 0] 26) = w8 at *
      generalize w6.heap.size = g6 at *
      go_wp2_with fail
      refine (num_any _ _).mono ?_
      rintro e w9 ⟨rfl, rfl⟩
      have hj1 : decide (s.size < j) = false := by simp; omega
      have hj2 : decide ((s.size : Int) < (j : Int)) = false := by simp; omega
      obtain ⟨X, hX⟩ : ∃ X, s.extract 0 j = X := ⟨_, rfl⟩
      have hXs : X.size ≤ 600 := by rw [← hX]; simp [ByteArray.size_extract]; omega
      obtain ⟨⟨t1, j1, er1⟩, hres1⟩ : ∃ x, resP (parse X) = x := ⟨_, rfl⟩
      have hr1 := res_cut (t := t1) (j1 := j1) (er1 := er1) HP.out (by rw [hX]; exact hres1)
      have HRES1 := Lib.hid hres1
      clear hres1
      have hI1 : (er1 : Int) = 0 ∨ ((er1 : Int) = 50 ∧ j1 = j) := by omega
      obtain ⟨Y, hY⟩ : ∃ Y, X ++ more = Y := ⟨_, rfl⟩
      have hYs : Y.size ≤ 650 := by rw [← hY]; simp; omega
      obtain ⟨⟨t2, j2, er2⟩, hres2⟩ : ∃ x, resP (parse Y) = x := ⟨_, rfl⟩
      have hr2 := res_app (t := t2) (j1 := j2) (er1 := er2) HP.out (by rw [hX, hY]; exact hres2)
      have hI2 : (er2 : Int) = 0 ∨ ((er2 : Int) = 50 ∧ j ≤ j2) := by omega
      have HRES2 := Lib.hid hres2
      have HY := Lib.hid hY
      clear hres2 hr1 hr2 hY
      go_wp2_with fail
      refine (Parse_any X (by unfold maxLen; omega) _ hE8.words).mono ?_
      intro e w10 h10
      obtain ⟨k1, n1, a1, len1, cap1, rfl, hv10, hb10⟩ := parse_out HRES1.out h10
      have hE10 := hE8.below hb10 hE8.size
      have hb11 := hb9.trans (hb10.mono hb9.size)
      clear h10 hv10 hb10 hE8 hb9
      generalize (er1 : Int) = E1 at *
      go_upto_region 16 with fail
      have hb12 := below_alloc w10 (.cells #[.int .i64 k1, .int .i64 n1, .slice a1 len1 cap1] 26)
      have hE12 := hE10.below hb12 hE10.size
      have hb13 := hb11.trans (hb12.mono hb11.size)
      clear hb11 hE10 hb12
      generalize w10.alloc (.cells #[.int .i64 k1, .int .i64 n1, .slice a1 len1 cap1] 26) = w12 at *
      generalize w10.heap.size = g10 at *
      have hY := HY.out
      go_wp2_with fail
      refine (Parse_any Y (by unfold maxLen; omega) _ hE12.words).mono ?_
      intro e w14 h14
      obtain ⟨k2, n2, a2, len2, cap2, rfl, hv14, hb14⟩ := parse_out HRES2.out h14
      have hE14 := hE12.below hb14 hE12.size
      have hb15 := hb13.trans (hb14.mono hb13.size)
      clear h14 hv14 hb14 hE12 hb13 hX hY
      generalize (er2 : Int) = E2 at *
      go_upto_region 17 with fail
      have hb16 := below_alloc w14 (.cells #[.int .i64 k2, .int .i64 n2, .slice a2 len2 cap2] 26)
      have hE16 := hE14.below hb16 hE14.size
      have hb17 := hb15.trans (hb16.mono hb15.size)
      clear hb15 hE14 hb16
      generalize w14.alloc (.cells #[.int .i64 k2, .int .i64 n2, .slice a2 len2 cap2] 26) = w16 at *
      generalize w14.heap.size = g14 at *
      have hj3 : E2 = 50 → decide (j2 < j) = false := fun h => by
        rcases hI2 with h0 | ⟨_, h1⟩
        · omega
        · simpa using h1
      go_wp2_with fail
      refine (num_any _ _).mono ?_
      rintro e w17 ⟨rfl, rfl⟩
      rcases hI1 with rfl | ⟨rfl, rfl⟩
      all_goals
        go_wp2_with fail
        refine (num_any _ _).mono ?_
        rintro e w18 ⟨rfl, rfl⟩
        rcases hI2 with rfl | ⟨rfl, _⟩
        · clear hj3
          go_wp2_with fail
          refine (works_any _ hE16).mono ?_
          rintro e w19 ⟨rfl, hb19⟩
          go_wp2_with fail
          go_ret
          exact ⟨rfl, hb17.trans (hb19.mono hb17.size)⟩
        · have hj4 := hj3 rfl
          clear hj3
          go_wp2_with fail
          refine (works_any _ hE16).mono ?_
          rintro e w19 ⟨rfl, hb19⟩
          go_wp2_with fail
          go_ret
          exact ⟨rfl, hb17.trans (hb19.mono hb17.size)⟩
    · rw [hp] at h6
      obtain ⟨vv, rfl, hv6, hb6⟩ := h6
      obtain ⟨k, n, a, len, cap, rfl⟩ := hv6.form
      have hsn := parse_snd hp
      have htx : textV t = .tuple #[.string s, .int .i64 0] := by
        unfold textV
        rw [if_pos hsn.2, bytes_eq hsn.1]
      have HTX := Lib.hid htx
      clear htx hsn hp
      have hE6 := hEc.below hb6 hEc.size
      have hb7 := hbc.trans (hb6.mono hbc.size)
      clear hbc hEc hb6
      go_upto_region 10 with fail
      have hb8 := below_alloc w6 (.cells #[.int .i64 k, .int .i64 n, .slice a len cap] 26)
      have hx8 := Bx.new w6 26 (.int .i64 k) (.int .i64 n) (.slice a len cap)
      have hE8 := hE6.below hb8 hE6.size
      have hb9 := hb7.trans (hb8.mono hb7.size)
      have hv8 := IsV.later (w := w6) (hv6.more fun g hg => hg.2) hb8
      clear hb7 hE6 hb8 hv6
      generalize w6.alloc (.cells #[.int .i64 k, .int .i64 n, .slice a len cap] 26) = w8 at *
      generalize w6.heap.size = g6 at *
      have x0 := hx8.c0
      have x1 := hx8.c1
      have x2 := hx8.c2
      go_wp2_with fail
      refine (num_any _ _).mono ?_
      rintro e w9 ⟨rfl, rfl⟩
      go_wp2_with fail
      refine (Text_any t _ _ hv8 hE8).mono ?_
      rw [HTX.out]
      rintro e w9 ⟨rfl, hb10⟩
      have hE9 := hE8.below hb10 hE8.size
      have hb11 := hb9.trans (hb10.mono hb9.size)
      clear hb9 hE8 hb10 hv8 hx8 x0 x1 x2
      go_wp2_with fail
      refine (num_any _ _).mono ?_
      rintro e w10 ⟨rfl, rfl⟩
      go_wp2_with fail
      refine (works_any _ hE9).mono ?_
      rintro e w11 ⟨rfl, hb12⟩
      go_wp2_with fail
      go_ret
      exact ⟨rfl, hb11.trans (hb12.mono hb11.size)⟩
end Go.Proofs.YtkahboomahhdoaaDoor
namespace Go.Proofs.YtkahboomahhdoaaDoor.valtextHolds
open Go.ChangeShapes Go.WideShapes Go.ChangeAt Go.RowKit
open Go.ChangeMaps (open_string shut_string)

theorem laidOut : laidOutB Tryd.prog = true := by kernel_rfl
set_option maxRecDepth 100000 in
/-- A value that came in is a tree. -/
theorem isV_open {H : Type} {enc : TypeId × Value → H} {W : World} {base : Nat} {sp : Nat → Bool} {held : Bool} {v : Value} {d : DataW H} {p : List MemPlace} (hv : Value.okWide Tryd.prog W .any base 26 v) (h : DataW.Trod enc Tryd.prog W 0 sp held 26 v d p) : ∃ t, IsV (· < W.heap.size) W t v := by
  obtain ⟨f0, f1, f2, hu, _⟩ := vFields
  obtain ⟨cs, rfl, hcs⟩ := okWide_struct hu hv
  obtain ⟨fuel, hf⟩ := h
  rw [cVal] at hcs
  obtain ⟨l⟩ := cs
  match l, hcs with
  | [c0, c1, c2], _ =>
    obtain ⟨t, ht, _⟩ := isV_trod fuel hf
    exact ⟨t, ht⟩
set_option maxRecDepth 100000 in
theorem contract (H : Type) (enc : TypeId × Value → H) (W : World) (base : Nat) (args : Array Value) (ds gs : List (DataW H)) (before : List MemPlace)
    (hval : ∀ (j : Nat) t v, Tryd.f7.params[j]? = some t → args[j]? = some v → Value.okWide Tryd.prog W .any base t v)
    (hW : DataW.Whole enc Tryd.prog Tryd.f7.params.toList Rows.valtextHoldsSpec.vars false W args.toList ds gs before) (hL : laidMetH Tryd.prog Rows.valtextHoldsRow.laid W) (hsh : W.ShapedOpen Tryd.prog) :
    Calls Tryd.prog 7 args W fun e W' => ∃ v, e = .returned v ∧ Rows.valtextHoldsSpec.post enc Tryd.prog Tryd.f7 false true false false W args v W' := by
  have hW' := hW
  have hlt : ∀ p ∈ before, p.block < W.heap.size := fun p hp => hW.lt p hp
  obtain ⟨p, q, hA0, hV, rfl, hfz, hnd⟩ := hW
  have hA : DataW.TrodAll enc Tryd.prog W 0 (fun _ => true) true Tryd.f7.params.toList args.toList ds p := hA0
  rw [Tryd.params7] at hA hval
  obtain ⟨v0, vs0, d0, ds0, p0, q0, hargs, rfl, rfl, h0, r0⟩ := trodAll_cons hA
  obtain ⟨v1, vs1, d1, ds1, p1, q1, hargs1, rfl, rfl, h1, r1⟩ := trodAll_cons r0
  obtain ⟨v2, vs2, d2, ds2, p2, q2, hargs2, rfl, rfl, h2, r2⟩ := trodAll_cons r1
  obtain ⟨v3, vs3, d3, ds3, p3, q3, hargs3, rfl, rfl, h3, r3⟩ := trodAll_cons r2
  obtain ⟨rfl, rfl, rfl⟩ := trodAll_nil r3
  obtain rfl : args = #[v0, v1, v2, v3] := Array.toList_inj.1 (by rw [hargs, hargs1, hargs2, hargs3])
  obtain ⟨rfl, rfl⟩ := trodVars_none hV
  obtain ⟨t0, hv0⟩ := isV_open (hval 0 26 v0 rfl rfl) h0
  obtain ⟨t1, hv1⟩ := isV_open (hval 1 26 v1 rfl rfl) h1
  obtain ⟨s, rfl, rfl, rfl, hs⟩ := open_string Tryd.underlying9 (hval 2 9 v2 rfl rfl) h2
  obtain ⟨s', rfl, rfl, rfl, hs'⟩ := open_string Tryd.underlying9 (hval 3 9 v3 rfl rfl) h3
  clear hA0
  simp only [List.append_nil] at hW' hlt
  have hL2 : laidMetH Tryd.prog [("math/bits.deBruijn32tab", Rows.laid_math_bits_deBruijn32tab), ("math/bits.deBruijn64tab", Rows.laid_math_bits_deBruijn64tab), ("internal/strconv.uint64pow10", Rows.laid_internal_strconv_uint64pow10), ("betrothal/valtext.words", Rows.laid_betrothal_valtext_words)] W := hL
  refine (holds_law t0 t1 v0 v1 s s' hs hs' W hv0 hv1 (env_of hL2 hsh)).mono fun e W' ⟨he, hb⟩ => ?_
  subst he
  exact ⟨_, rfl, post_below (pa := p0 ++ p1) (pv := []) hW' (fun _ _ _ => trodAll_cons_mk (shut_bool Tryd.underlying4 _) trodAll_mk0)
    (fun sp hsp => by
      have k0 := WideElems.Trod_stays (W' := W') (sp' := sp) laidOut (by kernel_rfl) (of_decide_eq_true (by kernel_rfl)) h0 (fun x hx => hb.same (hlt x (List.mem_append_left _ hx))) (fun x hx => hsp x (List.mem_append_left _ hx))
      have k1 := WideElems.Trod_stays (W' := W') (sp' := sp) laidOut (by kernel_rfl) (of_decide_eq_true (by kernel_rfl)) h1 (fun x hx => hb.same (hlt x (List.mem_append_right _ hx))) (fun x hx => hsp x (List.mem_append_right _ hx))
      have k2 := trodAll_cons_mk k0 (trodAll_cons_mk k1 (trodAll_cons_mk (shut_string Tryd.underlying9 hs) (trodAll_cons_mk (shut_string Tryd.underlying9 hs') trodAll_mk0)))
      simp only [List.append_nil] at k2
      exact k2)
    (fun _ _ => rfl) (by simp)
    hb (ok_one (by kernel_rfl) rfl (okWide_bool_mk Tryd.underlying4 _))⟩

theorem laid_met (os : Os) (args : Array Value) : laidMet Tryd.prog Rows.valtextHoldsRow.laid ((World.laidAll Tryd.prog os Rows.valtextHoldsRow.laid).forCall (fun _ _ => 0) ⟨#[], args, []⟩).memory :=
  laidMet_laidAll args (by kernel_rfl) (by kernel_rfl)
theorem reads (os : Os) {H : Type} (enc : TypeId × Value → H) : ∃ places, DataW.whole enc Tryd.prog ((World.laidAll Tryd.prog os Rows.valtextHoldsRow.laid).forCall (fun _ _ => 0) ⟨#[], #[.agg #[.int .i64 0, .int .i64 0, .slice none 0 0], .agg #[.int .i64 0, .int .i64 0, .slice none 0 0], .string ⟨#[]⟩, .string ⟨#[]⟩], []⟩).memory Tryd.f7.params.toList Rows.valtextHoldsSpec.vars false #[Value.agg #[.int .i64 0, .int .i64 0, .slice none 0 0], .agg #[.int .i64 0, .int .i64 0, .slice none 0 0], .string ⟨#[]⟩, .string ⟨#[]⟩].toList 8 = some ([.agg [.lit (.int .i64 0), .lit (.int .i64 0), .nil], .agg [.lit (.int .i64 0), .lit (.int .i64 0), .nil], .lit (.string []), .lit (.string [])], [], places) :=
  ⟨[], by kernel_rfl⟩

set_option maxRecDepth 100000 in
theorem lifted (os : Os) (started : os.Started) (H : Type) (enc : TypeId × Value → H) (F : Stop.Interp) :
    ReturnsInHanded {} Tryd.checked os 7 .any ((OpenSpec.ofChange Rows.valtextHoldsSpec).preRow enc Tryd.prog Tryd.f7 Rows.valtextHoldsRow.domain false Rows.valtextHoldsRow.laid) (((OpenSpec.ofChange Rows.valtextHoldsSpec).at F).post enc Tryd.prog Tryd.f7 false true false false) := by
  obtain ⟨places, hx⟩ := reads os enc
  refine returnsInHanded_of_row (C := Tryd.checked) (s := OpenSpec.ofChange Rows.valtextHoldsSpec) own started (by kernel_rfl) Tryd.func7
    (witness_row_at (enc := enc) (C := Tryd.checked) false (World.laidAll Tryd.prog os Rows.valtextHoldsRow.laid) #[.agg #[.int .i64 0, .int .i64 0, .slice none 0 0], .agg #[.int .i64 0, .int .i64 0, .slice none 0 0], .string ⟨#[]⟩, .string ⟨#[]⟩] (World.laidAll_os _ _ _) (by kernel_rfl) (by kernel_rfl) (by kernel_rfl)
      (OpenSpec.preRow_of_cond 8 hx (by kernel_rfl) (fun k hk => by cases hk) (by kernel_rfl) (laid_met os _))) ?_
  intro W base args ds gs before hval hW _ _ _ hL hsh _
  exact contract H enc W base args ds gs before hval hW hL hsh

theorem said : Rows.ValtextHoldsSaid :=
  OpenClaim.holds_of_cond 7 Tryd.f7 rfl rfl rfl rfl rfl rfl rfl ⟨rfl, rfl, rfl, rfl, rfl⟩ rfl rfl rfl rfl rfl (by kernel_rfl) Tryd.func7 (by kernel_rfl)
    (of_decide_eq_true (by kernel_rfl)) (by unfold Func.isWrapper; first | (rw [if_pos (by decide +kernel)]; kernel_rfl) | (rw [if_neg (by decide +kernel)]; exact ⟨rfl, rfl⟩))
    (fun os started H enc _ F => by rw [OpenClaim.pre_eq_preRow]; exact lifted os started H enc F)

theorem plain (f : FuncId) (fn : Func) (hf : Tryd.pinned.checked.prog.funcNamed "betrothal/betrothallaw05.ValtextHolds" = some f) (hfn : Tryd.pinned.checked.prog.funcs[f]? = some fn) :
    true = Tryd.pinned.checked.prog.looks [] ∧ ∀ (j : Nat) t, fn.params[j]? = some t → Tryd.pinned.checked.prog.wantsStandIn t = false := by
  obtain rfl : f = 7 := Option.some.inj ((show Tryd.prog.funcNamed "betrothal/betrothallaw05.ValtextHolds" = some 7 by kernel_rfl).symm.trans hf) |>.symm
  obtain rfl : fn = Tryd.f7 := (Option.some.inj (Tryd.func7.symm.trans hfn)).symm
  refine ⟨by kernel_rfl, fun j t ht => ?_⟩
  rw [Tryd.params7] at ht
  have hm : t = 26 ∨ t = 9 := by simpa using Array.mem_of_getElem? ht
  rcases hm with rfl | rfl
  · exact (show Tryd.prog.wantsStandIn 26 = false by kernel_rfl)
  · exact (show Tryd.prog.wantsStandIn 9 = false by kernel_rfl)

theorem card : Rows.ValtextHoldsCardSaid :=
  Claim7.holds_tied_plain_at .later [] _ _ _ _ said (fun _ h => by cases h) (by kernel_rfl) (fun _ h => by cases h) valtextHolds_row_tie rfl ⟨rfl, rfl⟩ (by kernel_rfl) rfl plain (by kernel_rfl)
end Go.Proofs.YtkahboomahhdoaaDoor.valtextHolds
namespace Go.Proofs.YtkahboomahhdoaaDoor
theorem valtextHolds_holds : Rows.ValtextHoldsCardSaid := valtextHolds.card
end Go.Proofs.YtkahboomahhdoaaDoor
#print axioms Go.Proofs.YtkahboomahhdoaaDoor.valtextHolds_holds
