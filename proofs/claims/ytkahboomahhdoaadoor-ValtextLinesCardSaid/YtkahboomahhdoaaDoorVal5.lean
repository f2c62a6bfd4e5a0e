/-
  Walks over package val: valid, Check, equal, Same.
-/
import Derived.Test.YtkahboomahhdoaaDoorVal4
namespace Go.Proofs.YtkahboomahhdoaaDoor
open Go.RowKit

theorem IsV.form {ok : Nat → Prop} {w : World} {t : VT} {v : Value} (h : IsV ok w t v) : ∃ (k n : Int) (a : Option Addr) (len cap : Nat), v = .agg #[.int .i64 k, .int .i64 n, .slice a len cap] := by
  obtain ⟨kd, nn, l⟩ := t
  rw [IsV] at h
  obtain ⟨a, cap, rfl, -⟩ := h
  exact ⟨kd, nn, a, l.length, cap, rfl⟩
theorem IsV.later {w w' : World} {t : VT} {v : Value} (h : IsV (· < w.heap.size) w t v) (hb : Below w.heap.size w w') : IsV (· < w'.heap.size) w' t v :=
  (h.below hb).lift hb.size
theorem below_alloc (w : World) (o : Obj) : Below w.heap.size w (w.alloc o) := (Below.refl _ _).alloc (Nat.le_refl _) _

set_option maxHeartbeats 1000000 in
theorem valid_any (t : VT) (v : Value) (w : World) (hv : IsV (· < w.heap.size) w t v) :
    Calls Tryd.prog 67 #[v] w fun e w' => e = .returned (.bool (right t)) ∧ Below w.heap.size w w' := by
  obtain ⟨k, n, a, len, cap, rfl⟩ := hv.form
  cases hs : small t
  · have HX := Lib.hid hs
    clear hs
    go_enter Tryd.func67, Tryd.ntmps67
    go_wp2_with fail
    refine (small_any t _ _ (hv.later (below_alloc _ _))).mono ?_
    rintro e w1 ⟨rfl, hb1⟩
    rw [HX.out]
    go_wp2_with fail
    go_ret
    exact ⟨ret_bool (by rw [right, HX.out]; rfl), (below_alloc _ _).trans (hb1.mono (by simp))⟩
  · have HX := Lib.hid hs
    clear hs
    go_enter Tryd.func67, Tryd.ntmps67
    go_wp2_with fail
    refine (small_any t _ _ (hv.later (below_alloc _ _))).mono ?_
    rintro e w1 ⟨rfl, hb1⟩
    rw [HX.out]
    obtain ⟨hc, hf⟩ := bcell hb1
    have c0 := (hc w.heap.size 0 (by simp)).trans (by simp [go_sem] : _ = some (Value.int .i64 k))
    have c1 := (hc w.heap.size 1 (by simp)).trans (by simp [go_sem] : _ = some (Value.int .i64 n))
    have c2 := (hc w.heap.size 2 (by simp)).trans (by simp [go_sem] : _ = some (Value.slice a len cap))
    have hbw : Below w.heap.size w w1 := (below_alloc _ _).trans (hb1.mono (by simp))
    clear hc hf hb1
    go_wp2_with fail
    refine (shapes_any _ t _ _ (Nat.le_refl _) (hv.later hbw)).mono ?_
    rintro e w2 ⟨rfl, hb2⟩
    go_wp2_with fail
    go_ret
    exact ⟨ret_bool (by rw [right, HX.out]; rfl), hbw.trans (hb2.mono hbw.size)⟩

set_option maxHeartbeats 1000000 in
theorem Check_any (t : VT) (v : Value) (w : World) (hv : IsV (· < w.heap.size) w t v) :
    Calls Tryd.prog 39 #[v] w fun e w' => e = .returned (.int .i64 (if right t then 0 else 40)) ∧ Below w.heap.size w w' := by
  obtain ⟨k, n, a, len, cap, rfl⟩ := hv.form
  cases hs : right t
  all_goals
    have HX := Lib.hid hs
    clear hs
    go_enter Tryd.func39, Tryd.ntmps39
    go_wp2_with fail
    refine (valid_any t _ _ (hv.later (below_alloc _ _))).mono ?_
    rintro e w1 ⟨rfl, hb1⟩
    rw [HX.out]
    go_wp2_with fail
    go_ret
    exact ⟨rfl, (below_alloc _ _).trans (hb1.mono (by simp))⟩

set_option maxRecDepth 100000 in
set_option maxHeartbeats 1000000 in
theorem equal_any (m : Nat) : ∀ (t t' : VT) (v v' : Value) (w : World), SizeOf.sizeOf t ≤ m → IsV (· < w.heap.size) w t v → IsV (· < w.heap.size) w t' v' →
    Calls Tryd.prog 47 #[v, v'] w fun e w' => e = .returned (.bool (eqT t t')) ∧ Below w.heap.size w w' := by
  induction m with
  | zero => intro t; cases t; simp
  | succ m ih =>
    intro t t' v v' w hk hv hv'
    obtain ⟨kd, nn, l⟩ := t
    obtain ⟨kd', nn', l'⟩ := t'
    rw [IsV] at hv hv'
    obtain ⟨a, cap, rfl, hkr, hnr, hl, hcap, hrow⟩ := hv
    obtain ⟨a', cap', rfl, hkr', hnr', hl', hcap', hrow'⟩ := hv'
    unfold maxLen at hcap hcap'
    have HI := Lib.hid ih
    clear ih
    by_cases hk1 : kd = kd'
    · subst hk1
      by_cases hn1 : nn = nn'
      · subst hn1
        by_cases hl1 : l.length = l'.length
        · have HL1 := Lib.hid hl1
          rw [← hl1] at hl' ⊢
          clear hl1
          go_enter Tryd.func47, Tryd.ntmps47
          go_wp2_with fail
          go_loopw [30, 5] (fun i _ wr => ∃ (j : Nat), j ≤ l.length ∧ i = .int .i64 j ∧ eqL l l' = eqL (l.drop j) (l'.drop j) ∧ Below w.heap.size w wr ∧ w.heap.size + 2 ≤ wr.heap.size ∧ wr.cell? ⟨w.heap.size, 2, none⟩ = some (.slice a l.length cap) ∧ wr.cell? ⟨w.heap.size + 1, 2, none⟩ = some (.slice a' l.length cap')) (fun i _ _ => l.length - (intOf i).toNat)
          case atStart => exact ⟨0, by omega, rfl, rfl, (below_alloc _ _).trans ((below_alloc _ _).mono (by simp)), by simp, by simp [go_sem], by simp [go_sem]⟩
          case round =>
            obtain ⟨j, hj, rfl, hc, hb, hsz, e1, e2⟩ := hrel
            have HC := Lib.hid hc
            clear hc
            by_cases hlt : j < l.length
            · have hlt' : j < l'.length := by rw [← HL1.out]; exact hlt
              obtain ⟨kk, n2, ll, g, o, b', c', hlj, rfl, hg, c0, c1, c2, ht⟩ := hrow.at_ hlt
              obtain ⟨kk', n2', ll', g', o', b'', c'', hlj', rfl, hg', c0', c1', c2', ht'⟩ := hrow'.at_ hlt'
              have d0 := (hb.cell (p := ⟨g, o + j * 3, none⟩) hg).trans c0
              have d1 := (hb.cell (p := ⟨g, o + j * 3 + 1, none⟩) hg).trans c1
              have d2 := (hb.cell (p := ⟨g, o + j * 3 + 2, none⟩) hg).trans c2
              have d0' := (hb.cell (p := ⟨g', o' + j * 3, none⟩) hg').trans c0'
              have d1' := (hb.cell (p := ⟨g', o' + j * 3 + 1, none⟩) hg').trans c1'
              have d2' := (hb.cell (p := ⟨g', o' + j * 3 + 2, none⟩) hg').trans c2'
              have HL := Lib.hid hlj
              have HL' := Lib.hid hlj'
              clear hlj c0 c1 c2 hlj' c0' c1' c2'
              go_wp2_with fail
              go_still_tail 10, (by kernel_rfl)
              go_wp2_with fail
              have hbd : Below w.heap.size w wr.drew := hb.drew
              refine (HI.out (.mk kk n2 ll) (.mk kk' n2' ll') _ _ _ (sz_lt (HL.out ▸ List.getElem_mem hlt) hk) (ht.later hbd) (ht'.later hbd)).mono ?_
              rintro e w2 ⟨rfl, hb2⟩
              have hbw : Below w.heap.size w w2 := hbd.trans (hb2.mono hbd.size)
              have hsz2 : w.heap.size + 2 ≤ w2.heap.size := by have := hb2.size; simp at this; omega
              have e1' : w2.cell? ⟨w.heap.size, 2, none⟩ = some (.slice (some ⟨g, o, none⟩) l.length cap) := (hb2.cell (p := ⟨w.heap.size, 2, none⟩) (by simp; omega)).trans e1
              have e2' : w2.cell? ⟨w.heap.size + 1, 2, none⟩ = some (.slice (some ⟨g', o', none⟩) l.length cap') := (hb2.cell (p := ⟨w.heap.size + 1, 2, none⟩) (by simp; omega)).trans e2
              clear hb2 e1 e2 hbd
              have hfin : eqL l l' = (eqT (.mk kk n2 ll) (.mk kk' n2' ll') && eqL (l.drop (j + 1)) (l'.drop (j + 1))) := by
                rw [HC.out, List.drop_eq_getElem_cons hlt, List.drop_eq_getElem_cons hlt', eqL, HL.out, HL'.out]
              have HF := Lib.hid hfin
              clear hfin
              generalize eqT (.mk kk n2 ll) (.mk kk' n2' ll') = bb at *
              cases bb
              · go_wp2_with fail
                go_ret
                refine ⟨ret_bool ?_, hbw⟩
                rw [eqT, HF.out]; simp
              · go_wp2_with fail
                go_roundw
                case rel => exact ⟨j + 1, by omega, by go_num, by rw [HF.out]; rfl, hbw, hsz2, e1', e2'⟩
                case measure => simp [intOf]; omega
            · go_wp2_with fail
              go_ret
              refine ⟨ret_bool ?_, hb⟩
              rw [eqT, HC.out, List.drop_of_length_le (by omega)]; simp [HL1.out, eqL]
        · have e1 : ((l.length : Int) == (l'.length : Int)) = false := by simp; omega
          have e2 : ((l.length : Int) != (l'.length : Int)) = true := by simp; omega
          go_enter Tryd.func47, Tryd.ntmps47
          go_wp2_with fail
          go_ret
          exact ⟨ret_bool (by simp [eqT, hl1]), (below_alloc _ _).trans ((below_alloc _ _).mono (by simp))⟩
      · have e1 : (nn == nn') = false := by simpa using hn1
        have e2 : (nn != nn') = true := by simpa using hn1
        go_enter Tryd.func47, Tryd.ntmps47
        go_wp2_with fail
        go_ret
        exact ⟨ret_bool (by simp [eqT, hn1]), (below_alloc _ _).trans ((below_alloc _ _).mono (by simp))⟩
    · have e1 : (kd == kd') = false := by simpa using hk1
      have e2 : (kd != kd') = true := by simpa using hk1
      go_enter Tryd.func47, Tryd.ntmps47
      go_wp2_with fail
      go_ret
      exact ⟨ret_bool (by simp [eqT, hk1]), (below_alloc _ _).trans ((below_alloc _ _).mono (by simp))⟩

set_option maxHeartbeats 1000000 in
theorem Same_any (t t' : VT) (v v' : Value) (w : World) (hv : IsV (· < w.heap.size) w t v) (hv' : IsV (· < w.heap.size) w t' v') :
    Calls Tryd.prog 25 #[v, v'] w fun e w' => e = .returned (.bool (small t && small t' && eqT t t')) ∧ Below w.heap.size w w' := by
  obtain ⟨k, n, a, len, cap, rfl⟩ := hv.form
  obtain ⟨k', n', a', len', cap', rfl⟩ := hv'.form
  have hb0 : ∀ o1 o2, Below w.heap.size w ((w.alloc o1).alloc o2) := fun o1 o2 => (below_alloc _ _).trans ((below_alloc _ _).mono (by simp))
  have HB := Lib.hid hb0
  clear hb0
  generalize hs1 : small t = s1
  generalize hs2 : small t' = s2
  have H1 := Lib.hid hs1
  have H2 := Lib.hid hs2
  clear hs1 hs2
  go_enter Tryd.func25, Tryd.ntmps25
  go_wp2_with fail
  refine (small_any t _ _ (hv.later (HB.out _ _))).mono ?_
  rintro e w1 ⟨rfl, hb1⟩
  rw [H1.out]
  obtain ⟨hc, hf⟩ := bcell hb1
  have c0 := (hc w.heap.size 0 (by simp; omega)).trans (by simp [go_sem] : _ = some (Value.int .i64 k))
  have c1 := (hc w.heap.size 1 (by simp; omega)).trans (by simp [go_sem] : _ = some (Value.int .i64 n))
  have c2 := (hc w.heap.size 2 (by simp; omega)).trans (by simp [go_sem] : _ = some (Value.slice a len cap))
  have d0 := (hc (w.heap.size + 1) 0 (by simp)).trans (by simp [go_sem] : _ = some (Value.int .i64 k'))
  have d1 := (hc (w.heap.size + 1) 1 (by simp)).trans (by simp [go_sem] : _ = some (Value.int .i64 n'))
  have d2 := (hc (w.heap.size + 1) 2 (by simp)).trans (by simp [go_sem] : _ = some (Value.slice a' len' cap'))
  have hbw : Below w.heap.size w w1 := (HB.out _ _).trans (hb1.mono (by simp; omega))
  have hsz : w.heap.size + 2 ≤ w1.heap.size := by have := hb1.size; simpa using this
  clear hc hf hb1
  cases s1
  · go_wp2_with fail
    go_ret
    exact ⟨ret_bool (by simp), hbw⟩
  · go_wp2_with fail
    refine (small_any t' _ _ (hv'.later hbw)).mono ?_
    rintro e w2 ⟨rfl, hb2⟩
    rw [H2.out]
    obtain ⟨hc, hf⟩ := bcell hb2
    have c0 := (hc w.heap.size 0 (by omega)).trans c0
    have c1 := (hc w.heap.size 1 (by omega)).trans c1
    have c2 := (hc w.heap.size 2 (by omega)).trans c2
    have d0 := (hc (w.heap.size + 1) 0 (by omega)).trans d0
    have d1 := (hc (w.heap.size + 1) 1 (by omega)).trans d1
    have d2 := (hc (w.heap.size + 1) 2 (by omega)).trans d2
    have hbw2 : Below w.heap.size w w2 := hbw.trans (hb2.mono hbw.size)
    clear hc hf hb2
    cases s2
    · go_wp2_with fail
      go_ret
      exact ⟨ret_bool (by simp), hbw2⟩
    · go_wp2_with fail
      refine (equal_any _ t t' _ _ _ (Nat.le_refl _) (hv.later hbw2) (hv'.later hbw2)).mono ?_
      rintro e w3 ⟨rfl, hb3⟩
      go_wp2_with fail
      go_ret
      exact ⟨ret_bool (by simp), hbw2.trans (hb3.mono hbw2.size)⟩
end Go.Proofs.YtkahboomahhdoaaDoor
