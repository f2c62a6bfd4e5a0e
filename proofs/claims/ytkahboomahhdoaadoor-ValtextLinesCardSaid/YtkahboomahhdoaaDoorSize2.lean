/-
  Walks over the reference of layer 4: Size, Same, Right.
-/
import Derived.Test.YtkahboomahhdoaaDoorSize
namespace Go.Proofs.YtkahboomahhdoaaDoor
open Go.RowKit

theorem list7 {us : List Value} (h : us.length = 7) : ∃ u0 u1 u2 u3 u4 u5 u6, us = [u0, u1, u2, u3, u4, u5, u6] := by
  match us, h with
  | [u0, u1, u2, u3, u4, u5, u6], _ => exact ⟨u0, u1, u2, u3, u4, u5, u6, rfl⟩
theorem cnt_end {t : VT} {n : Nat} {todo : List VT} (h : n + ndL todo = nd t) (hn : n ≤ 257) (he : todo = [] ∨ n = 257) : cnt t 0 = n := by
  rw [cnt_nd t 0 (by omega)]
  rcases he with rfl | rfl
  · rw [ndL] at h; omega
  · omega

set_option maxRecDepth 100000 in
set_option maxHeartbeats 1000000 in
theorem rSize_any (t : VT) (v : Value) (w : World) (hv : IsV (· < w.heap.size) w t v) (hnd : nd t ≤ 2000000) :
    Calls Tryd.prog 34 #[v] w fun e w' => e = .returned (.int .i64 (cnt t 0 : Nat)) ∧ Below w.heap.size w w' := by
  obtain ⟨k, n, a, len, cap, rfl⟩ := hv.form
  go_enter Tryd.func34, Tryd.ntmps34
  go_wp2_with fail
  go_loopw [3, 4, 5] (fun td cn _ wr => ∃ (todo : List VT) (xs : List Value) (g c nn : Nat), td = .slice (some ⟨g, 0, none⟩) todo.length c ∧ todo.length ≤ c ∧ w.heap.size ≤ g ∧ Kids (· < w.heap.size) w todo xs ∧ (∀ j u, xs[j]? = some u → g < wr.heap.size ∧ wr.cell? ⟨g, j, none⟩ = some u) ∧ cn = .int .i64 nn ∧ nn ≤ 257 ∧ nn + ndL todo = nd t ∧ Below w.heap.size w wr) (fun _ cn _ _ => 257 - (intOf cn).toNat)
  case atStart =>
    have hkid : Kids (· < w.heap.size) w [t] [.int .i64 k, .int .i64 n, .slice a len cap] := ⟨_, _, _, [], rfl, hv, rfl⟩
    refine ⟨[t], [.int .i64 k, .int .i64 n, .slice a len cap], w.heap.size + 1, 1, 0, rfl, Nat.le_refl _, by omega, hkid, ?_, rfl, by omega, by rw [ndL, ndL]; omega, (below_alloc _ _).trans ((below_alloc _ _).mono (by simp))⟩
    intro j u hj
    refine ⟨by simp, ?_⟩
    match j, hj with
    | 0, hj => simp at hj; subst hj; simp [go_sem]
    | 1, hj => simp at hj; subst hj; simp [go_sem]
    | 2, hj => simp at hj; subst hj; simp [go_sem]
  case round =>
    obtain ⟨todo, xs, g, c, nn, rfl, hc, hg, hkid, hcell, rfl, hnn, hsum, hb⟩ := hrel
    have HS := Lib.hid hsum
    have hlen := len_ndL todo
    have hsz := hb.size
    by_cases h0 : todo = []
    · have HE := Lib.hid (cnt_end hsum hnn (.inl h0))
      subst h0
      go_wp2_with fail
      go_ret
      exact ⟨ret_int (by rw [HE.out]), hb⟩
    · obtain ⟨x, rest, rfl⟩ := List.exists_cons_of_ne_nil h0
      rw [List.length_cons] at hc hlen ⊢
      by_cases h257 : nn = 257
      · have HE := Lib.hid (cnt_end hsum hnn (.inr h257))
        subst h257
        go_wp2_with fail
        go_ret
        exact ⟨ret_int (by rw [HE.out]), hb⟩
      · obtain ⟨v0, v1, v2, ys, rfl, hx, hrest⟩ := hkid
        obtain ⟨k1, n1, a1, l1, c1, he⟩ := hx.form
        simp only [Value.agg.injEq, Array.mk.injEq, List.cons.injEq, and_true] at he
        obtain ⟨rfl, rfl, rfl⟩ := he
        obtain ⟨kk, nk, ll⟩ := x
        have hx2 := hx
        rw [IsV] at hx2
        obtain ⟨a2, c2, he, hkr, hnr, hl2, hc2, hrow⟩ := hx2
        simp only [Value.agg.injEq, Array.mk.injEq, List.cons.injEq, and_true, Value.int.injEq, true_and, Value.slice.injEq] at he
        obtain ⟨rfl, rfl, rfl, rfl, rfl⟩ := he
        have d0 := (hcell 0 _ rfl).2
        have d1 := (hcell 1 _ rfl).2
        have d2 := (hcell 2 _ rfl).2
        have hglt := (hcell 0 _ rfl).1
        have hcell2 : ∀ j u, ys[j]? = some u → g < wr.heap.size ∧ wr.cell? ⟨g, 3 + j, none⟩ = some u := fun j u hj => by
          have := hcell (j + 3) u (by simpa using hj)
          rwa [show j + 3 = 3 + j from by omega] at this
        have HC2 := Lib.hid hcell2
        clear hcell hcell2
        have hylen := hrest.len
        have hyone := hrest.one
        obtain ⟨zs, hz1, hz2, hz3⟩ := hrow.kids
        have hzlen := hz1.len
        have HZ3 := Lib.hid hz3
        clear hz3
        have hkid2 : Kids (· < w.heap.size) w (rest ++ ll) (ys ++ zs) := Kids.append hz1 hrest
        have hsum2 : nn + 1 + ndL (rest ++ ll) = nd t := by
          have := HS.out
          rw [ndL, nd] at this
          rw [ndL_append]
          omega
        have hlen2 := len_ndL (rest ++ ll)
        rw [List.length_append] at hlen2
        go_wp2_with fail
        have hbx := Bx.new wr 26 (.int .i64 k1) (.int .i64 n1) (.slice a1 ll.length c1)
        have hb2 := hb.trans ((below_alloc wr (.cells #[.int .i64 k1, .int .i64 n1, .slice a1 ll.length c1] 26)).mono hsz)
        have hba := below_alloc wr (.cells #[.int .i64 k1, .int .i64 n1, .slice a1 ll.length c1] 26)
        have hsz2 := hba.size
        refine Size_region (g := g) (cap := c) (n := rest.length) (b := wr.heap.size) (cap2 := c1) (ao := a1) (xs := ys) (ys := zs) (n2 := ll.length) size_shape (by simp) rfl hc rfl hbx.c2 hbx.lt hylen ?_ hyone hzlen ?_ hz2 (by omega) ?_
        · intro j u hj
          obtain ⟨q1, q2⟩ := HC2.out j u hj
          exact ⟨by omega, (hba.cell (p := ⟨g, 3 + j, none⟩) q1).trans q2⟩
        · intro j u hj
          obtain ⟨g', o', q1, q2, q3⟩ := HZ3.out j u hj
          rw [show o' + 0 * 3 + j = o' + j from by omega] at q3
          have h3 := hb2.size
          exact ⟨g', o', q1, by omega, (hb2.cell (p := ⟨g', o' + j, none⟩) q2).trans q3⟩
        · intro a3 g3 cap3 w3 hU hcap3 hown3 hb3
          obtain ⟨us, hus, rfl⟩ := hU.list (by simp)
          obtain ⟨x0, x1, x2, x3, x4, x5, x6, rfl⟩ := list7 hus
          simp only [List.take_succ_cons, List.take_zero, List.drop_succ_cons, List.drop_zero, List.cons_append, List.nil_append]
          have hbf := hb2.trans (hb3.mono hb2.size)
          have hg3 := hown3.lt g3 rfl
          clear hus hU d0 d1 d2
          go_wp2_with fail
          go_roundw
          case rel =>
            refine ⟨rest ++ ll, ys ++ zs, g3, cap3, nn + 1, by rw [List.length_append], by rw [List.length_append]; exact hcap3, by have := hb2.size; omega, hkid2, ?_, by go_num, by omega, hsum2, hbf⟩
            intro j u hj
            refine ⟨hg3.2, ?_⟩
            have hjl := (List.getElem?_eq_some_iff.1 hj).1
            rw [hown3.cellAt j (by rw [List.length_append] at hjl; omega)]
            exact hj
          case measure => simp [intOf]; omega

set_option maxHeartbeats 1000000 in
theorem rSame_any (t t' : VT) (v v' : Value) (w : World) (hv : IsV (· < w.heap.size) w t v) (hv' : IsV (· < w.heap.size) w t' v') (hnd : nd t ≤ 2000000) (hnd' : nd t' ≤ 2000000) :
    Calls Tryd.prog 12 #[v, v'] w fun e w' => e = .returned (.bool (small t && small t' && eqT t t')) ∧ Below w.heap.size w w' := by
  obtain ⟨k, n, a, len, cap, rfl⟩ := hv.form
  obtain ⟨k', n', a', len', cap', rfl⟩ := hv'.form
  have hb0 : ∀ o1 o2, Below w.heap.size w ((w.alloc o1).alloc o2) := fun o1 o2 => (below_alloc _ _).trans ((below_alloc _ _).mono (by simp))
  have HB := Lib.hid hb0
  clear hb0
  obtain ⟨m1, hm1⟩ : ∃ m, cnt t 0 = m := ⟨_, rfl⟩
  obtain ⟨m2, hm2⟩ : ∃ m, cnt t' 0 = m := ⟨_, rfl⟩
  have hs1 : small t = decide (m1 ≤ 256) := by rw [← hm1]; rfl
  have hs2 : small t' = decide (m2 ≤ 256) := by rw [← hm2]; rfl
  rw [hs1, hs2]
  have hr1 := cnt_le t 0 (by omega)
  have hr2 := cnt_le t' 0 (by omega)
  rw [hm1] at hr1
  rw [hm2] at hr2
  have H1 := Lib.hid hm1
  have H2 := Lib.hid hm2
  clear hs1 hs2 hm1 hm2
  go_enter Tryd.func12, Tryd.ntmps12
  go_wp2_with fail
  refine (rSize_any t _ _ (hv.later (HB.out _ _)) hnd).mono ?_
  rintro e w1 ⟨rfl, hb1⟩
  rw [H1.out]
  obtain ⟨hc, hf⟩ := bcell hb1
  have c0 := (hc w.heap.size 0 (by simp; omega)).trans (by simp [go_sem] : _ = some (Value.int .i64 k))
  have c1 := (hc w.heap.size 1 (by simp; omega)).trans (by simp [go_sem] : _ = some (Value.int .i64 n))
  have c2 := (hc w.heap.size 2 (by simp; omega)).trans (by simp [go_sem] : _ = some (Value.slice a len cap))
  have d0 := (hc (w.heap.size + 1) 0 (by simp)).trans (by simp [go_sem] : _ = some (Value.int .i64 k'))
  have d1 := (hc (w.heap.size + 1) 1 (by simp)).trans (by simp [go_sem] : _ = some (Value.int .i64 n'))
  have d2 := (hc (w.heap.size + 1) 2 (by simp)).trans (by simp [go_sem] : _ = some (Value.slice a' len' cap'))
  have hbw : Below w.heap.size w w1 := (HB.out _ _).trans (hb1.mono (by simp; omega))
  have hsz : w.heap.size + 2 ≤ w1.heap.size := by have := hb1.size; simpa using this
  clear hc hf hb1
  rcases Nat.lt_or_ge 256 m1 with h256 | h256
  · go_wp2_with fail
    go_ret
    exact ⟨ret_bool (by simp; omega), hbw⟩
  · have hd : decide ((m1 : Int) ≤ 256) = true := by simp; omega
    go_wp2_with fail
    refine (rSize_any t' _ _ (hv'.later hbw) hnd').mono ?_
    rintro e w2 ⟨rfl, hb2⟩
    rw [H2.out]
    obtain ⟨hc, hf⟩ := bcell hb2
    have c0 := (hc w.heap.size 0 (by omega)).trans c0
    have c1 := (hc w.heap.size 1 (by omega)).trans c1
    have c2 := (hc w.heap.size 2 (by omega)).trans c2
    have d0 := (hc (w.heap.size + 1) 0 (by omega)).trans d0
    have d1 := (hc (w.heap.size + 1) 1 (by omega)).trans d1
    have d2 := (hc (w.heap.size + 1) 2 (by omega)).trans d2
    have hbw2 : Below w.heap.size w w2 := hbw.trans (hb2.mono hbw.size)
    clear hc hf hb2
    rcases Nat.lt_or_ge 256 m2 with h256' | h256'
    · go_wp2_with fail
      go_ret
      exact ⟨ret_bool (by simp; omega), hbw2⟩
    · have hd' : decide ((m2 : Int) ≤ 256) = true := by simp; omega
      go_wp2_with fail
      refine (rsame_any _ t t' _ _ _ (Nat.le_refl _) (hv.later hbw2) (hv'.later hbw2)).mono ?_
      rintro e w3 ⟨rfl, hb3⟩
      go_wp2_with fail
      go_ret
      exact ⟨ret_bool (by simp; omega), hbw2.trans (hb3.mono hbw2.size)⟩

set_option maxHeartbeats 1000000 in
theorem rRight_any (t : VT) (v : Value) (w : World) (hv : IsV (· < w.heap.size) w t v) (hnd : nd t ≤ 2000000) :
    Calls Tryd.prog 42 #[v] w fun e w' => e = .returned (.bool (right t)) ∧ Below w.heap.size w w' := by
  obtain ⟨k, n, a, len, cap, rfl⟩ := hv.form
  obtain ⟨m1, hm1⟩ : ∃ m, cnt t 0 = m := ⟨_, rfl⟩
  have hr1 := cnt_le t 0 (by omega)
  rw [hm1] at hr1
  have hs : right t = (decide (m1 ≤ 256) && shps t) := by rw [← hm1]; rfl
  rw [hs]
  have H1 := Lib.hid hm1
  clear hs hm1
  go_enter Tryd.func42, Tryd.ntmps42
  go_wp2_with fail
  refine (rSize_any t _ _ (hv.later (below_alloc _ _)) hnd).mono ?_
  rintro e w1 ⟨rfl, hb1⟩
  rw [H1.out]
  have hbx := (Bx.new w 26 (.int .i64 k) (.int .i64 n) (.slice a len cap)).belowAll hb1
  have c0 := hbx.c0
  have c1 := hbx.c1
  have c2 := hbx.c2
  have hbw : Below w.heap.size w w1 := (below_alloc _ _).trans (hb1.mono (by simp))
  clear hb1
  rcases Nat.lt_or_ge 256 m1 with h256 | h256
  · go_wp2_with fail
    go_ret
    exact ⟨ret_bool (by simp; omega), hbw⟩
  · have hd : decide ((m1 : Int) ≤ 256) = true := by simp; omega
    go_wp2_with fail
    refine (rshapes_any _ t _ _ (Nat.le_refl _) (hv.later hbw)).mono ?_
    rintro e w2 ⟨rfl, hb2⟩
    go_wp2_with fail
    go_ret
    exact ⟨ret_bool (by simp; omega), hbw.trans (hb2.mono hbw.size)⟩
end Go.Proofs.YtkahboomahhdoaaDoor
