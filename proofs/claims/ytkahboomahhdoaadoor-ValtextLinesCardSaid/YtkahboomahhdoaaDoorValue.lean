/-
  Walks over package valtext's reader: value, for every fuel.
-/
import Derived.Test.YtkahboomahhdoaaDoorList
namespace Go.Proofs.YtkahboomahhdoaaDoor
open Go.RowKit

theorem list_any {s : ByteArray} {f lo b vb i p : Nat} {k : Nat} {w : World} (hk : k < 14) (h1 : k ≠ 0) (h2 : k ≠ 1) (h3 : k ≠ 2) (h4 : k ≠ 8) (H : ListPre s f lo b vb k i p w) :
    Calls Tryd.prog 58 #[.pointer (some ⟨b, 0, none⟩), .pointer (some ⟨vb, 0, none⟩)] w (LstEndsN lo b vb s k w (pList s (pVal s f) k i p)) := by
  have : k = 3 ∨ k = 4 ∨ k = 5 ∨ k = 6 ∨ k = 7 ∨ k = 9 ∨ k = 10 ∨ k = 11 ∨ k = 12 ∨ k = 13 := by omega
  rcases this with rfl | rfl | rfl | rfl | rfl | rfl | rfl | rfl | rfl | rfl
  · exact list_3 H
  · exact list_4 H
  · exact list_5 H
  · exact list_6 H
  · exact list_7 H
  · exact list_9 H
  · exact list_10 H
  · exact list_11 H
  · exact list_12 H
  · exact list_13 H

theorem word_kind {s : ByteArray} {st : Nat} {m : Int → Bool} {k j : Nat} (h : word s st m = .ok (k, j)) : k < 14 ∧ k ≠ 0 ∧ k ≠ 2 := by
  have := word_goes h
  refine ⟨this.2.2.1, ?_, ?_⟩
  · rintro rfl; exact absurd this.2.2.2.2 (by decide)
  · rintro rfl; exact absurd this.2.2.2.2 (by decide)

theorem IsV_leaf {ok : Nat → Prop} {w : World} {k n : Int} (hk : Rng k) (h : Rng n) : IsV ok w (.mk k n []) (.agg #[.int .i64 k, .int .i64 n, .slice none 0 0]) := by
  rw [IsV]
  exact ⟨none, 0, rfl, hk, h, Nat.le_refl _, Nat.zero_le _, by rw [IsR]; trivial⟩

theorem fx_gr {b vb lo : Nat} {w w1 w2 : World} (h : Gr b w w1) (hf : Fx lo b vb w1 w2) (hv : w.heap.size ≤ vb) (hl : w.heap.size ≤ lo) : Gr b w w2 :=
  ⟨hf.os.trans h.os, hf.tape.trans h.tape, hf.output.trans h.output, Nat.le_trans h.size hf.size, fun k hk hr => (hf.block k (by omega) (fun e => hr (by rw [e])) (by omega)).trans (h.block k hk hr)⟩

set_option maxRecDepth 100000 in
set_option maxHeartbeats 4000000 in
theorem value_any (s : ByteArray) (hs : s.size ≤ maxLen) : ∀ f, ValC s f := by
  intro f
  have hs2 := hs
  unfold maxLen at hs2
  induction f with
  | zero =>
    intro m mf b i p w hm hr hi hp hpf hW hb0
    obtain rfl : p = 256 := by omega
    have c2 := hr.c2
    have hlt := hr.lt
    have c2' : ∀ o, (w.alloc o).cell? ⟨b, 2, none⟩ = some (.int .i64 256) := fun o => (hr.alloc o).c2
    clear c2
    go_enter Tryd.func30, Tryd.ntmps30
    go_wp2_with fail
    refine (fail_any b i _ (hr.alloc _).c1).mono ?_
    rintro e w1 ⟨rfl, rfl⟩
    refine ⟨rfl, ?_⟩
    rw [pVal]
    exact ⟨rfl, (Gr.refl b w).alloc _⟩
  | succ f ih =>
    intro m mf b i p w hm hr hi hp hpf hW hb0
    have hlt := hr.lt
    have HI := Lib.hid ih
    clear ih
    by_cases hp256 : 256 ≤ p
    · obtain rfl : p = 256 := by omega
      have c2' : ∀ o, (w.alloc o).cell? ⟨b, 2, none⟩ = some (.int .i64 256) := fun o => (hr.alloc o).c2
      go_enter Tryd.func30, Tryd.ntmps30
      go_wp2_with fail
      refine (fail_any b i _ (hr.alloc _).c1).mono ?_
      rintro e w1 ⟨rfl, rfl⟩
      refine ⟨rfl, ?_⟩
      rw [pVal, if_pos (by omega)]
      exact ⟨rfl, (Gr.refl b w).alloc _⟩
    · have HP : Hid (pVal s (f + 1) m i p = if isB s i 45 || dig s i then
          if m 2 then integer s i (p + 1) else .error i
          else match word s i m with
          | .error j => .error j
          | .ok (k, j) =>
            if k = 1 ∨ k = 8 then .ok (.mk k 0 [], j, p + 1)
            else if isB s j 40 then
              match pList s (pVal s f) k (j + 1) (p + 1) with
              | .error j' => .error j'
              | .ok (n, l, j', p') => if isB s j' 41 then .ok (.mk k n l, j' + 1, p') else .error j'
            else .error j) := by
        show _ = _
        rw [pVal, if_neg hp256]
        rfl
      have hen := hm.enters
      go_enter Tryd.func30, Tryd.ntmps30
      have c2' : ∀ o, (w.alloc o).cell? ⟨b, 2, none⟩ = some (.int .i64 p) := fun o => (hr.alloc o).c2
      have cf' : ∀ o, (w.alloc o).frozen? ⟨b, 2, none⟩ = false := fun o => (hr.alloc o).fz 2
      go_wp2_with fail
      have hr1 : Rd ((w.setCell ⟨b, 2, none⟩ (.int .i64 ((p : Int) + 1))).alloc (.cells #[.int .i64 0, .int .i64 0, .slice none 0 0] 26)) b s i (p + 1) := (hr.set2 (p + 1)).alloc _
      have hg1 := ((Gr.refl b w).set 2 (.int .i64 ((p : Int) + 1))).alloc (.cells #[.int .i64 0, .int .i64 0, .slice none 0 0] 26)
      have hx1 := Bx.new (w.setCell ⟨b, 2, none⟩ (.int .i64 ((p : Int) + 1))) 26 (.int .i64 0) (.int .i64 0) (.slice none 0 0)
      rw [show (w.setCell ⟨b, 2, none⟩ (.int .i64 ((p : Int) + 1))).heap.size = w.heap.size from by simp [World.setCell]] at hx1
      have hW1 := hW.gr hg1 hb0
      clear c2' cf'
      generalize (w.setCell ⟨b, 2, none⟩ (.int .i64 ((p : Int) + 1))).alloc (.cells #[.int .i64 0, .int .i64 0, .slice none 0 0] 26) = w1 at *
      refine (next_any b s i (p + 1) 45 _ hr1 hs (by omega) hi).mono ?_
      rintro e w2 ⟨rfl, n2, rfl⟩
      have hr2 := hr1.drewN n2
      have hg2 := hg1.drewN n2
      have hx2 := hx1.drewN n2
      have hW2 := hW1.drewN n2
      clear hr1 hg1 hx1 hW1
      generalize w1.drewN n2 = w2 at *
      cases hmi : isB s i 45
      · cases hdi : dig s i
        · -- a word
          have HB : Hid ((isB s i 45 || dig s i) = false) := by show _ = _; rw [hmi, hdi]; rfl
          have HM := Lib.hid hmi
          have HD := Lib.hid hdi
          clear hmi hdi
          go_wp2_with fail
          refine (digit_any b s i (p + 1) _ hr2 hs hi).mono ?_
          rintro e w3 ⟨rfl, n3, rfl⟩
          rw [HD.out]
          have hr3 := hr2.drewN n3
          have hg3 := hg2.drewN n3
          have hx3 := hx2.drewN n3
          have hW3 := hW2.drewN n3
          clear hr2 hg2 hx2 hW2
          generalize w2.drewN n3 = w3 at *
          rcases hwd : word s i m with j | ⟨k, j⟩
          · have HWD := Lib.hid hwd
            clear hwd
            go_wp2_with fail
            refine (word_any b s i (p + 1) mf m _ hr3 hs hi hm hW3 hb0).mono ?_
            rw [HWD.out]
            rintro e w4 ⟨rfl, hg4⟩
            refine ⟨rfl, ?_⟩
            rw [HP.out, HB.out, HWD.out]
            exact ⟨rfl, hg3.trans hg4⟩
          · have hkk := word_kind hwd
            have hgo := word_goes hwd
            have HWD := Lib.hid hwd
            clear hwd
            go_wp2_with fail
            refine (word_any b s i (p + 1) mf m _ hr3 hs hi hm hW3 hb0).mono ?_
            rw [HWD.out]
            rintro e w4 ⟨rfl, hr4, hg4⟩
            have hx4 := hx3.gr hg4 (by omega)
            have hg4' := hg3.trans hg4
            have hW4 := hW3.gr hg4 hb0
            clear hr3 hg3 hx3 hW3 hg4
            have hx4lt := hx4.lt
            have hb4 := hr4.lt
            by_cases hleaf : k = 1 ∨ k = 8
            · have q0 := hx4.c0
              have q1 := hx4.c1
              have q2 := hx4.c2
              have f0 := hx4.fz
              have a0 : ∀ o, (w4.alloc o).cell? ⟨w.heap.size, 0, none⟩ = some (.int .i64 0) := fun o => (hx4.alloc o).c0
              have a1 : ∀ o, (w4.alloc o).cell? ⟨w.heap.size, 1, none⟩ = some (.int .i64 0) := fun o => (hx4.alloc o).c1
              have a2 : ∀ o, (w4.alloc o).cell? ⟨w.heap.size, 2, none⟩ = some (.slice none 0 0) := fun o => (hx4.alloc o).c2
              have af : ∀ o j, (w4.alloc o).frozen? ⟨w.heap.size, j, none⟩ = false := fun o j => (hx4.alloc o).fz j
              have hfin : pVal s (f + 1) m i p = .ok (.mk k 0 [], j, p + 1) := by
                rw [HP.out, HB.out, HWD.out]
                simp only [Bool.false_eq_true, if_false]
                rw [if_pos hleaf]
              have HF := Lib.hid hfin
              clear hfin
              rcases hleaf with rfl | rfl
              · go_wp2_with fail
                have hz := fun o => (((hx4.set0 (.int .i64 1)).set1 (.int .i64 0)).set2 (.slice none 0 0)).alloc o
                refine bodyPost_ret (v := .agg #[.int .i64 1, .int .i64 0, .slice none 0 0]) (by simp [results, Tryd.results30, go_sem, (hz _).c0, (hz _).c1, (hz _).c2]) rfl ?_
                rw [HF.out]
                refine ⟨_, rfl, IsV_leaf (by unfold Rng; omega) (by unfold Rng; omega), ?_, ?_⟩
                · exact (((hr4.far (q := ⟨w.heap.size, 0, none⟩) (by simp; omega) _).far (q := ⟨w.heap.size, 1, none⟩) (by simp; omega) _).far (q := ⟨w.heap.size, 2, none⟩) (by simp; omega) _).alloc _
                · exact (((hg4'.setNew (q := ⟨w.heap.size, 0, none⟩) (Nat.le_refl _) _).setNew (q := ⟨w.heap.size, 1, none⟩) (Nat.le_refl _) _).setNew (q := ⟨w.heap.size, 2, none⟩) (Nat.le_refl _) _).alloc _
              · go_wp2_with fail
                have hz := fun o => (((hx4.set0 (.int .i64 8)).set1 (.int .i64 0)).set2 (.slice none 0 0)).alloc o
                refine bodyPost_ret (v := .agg #[.int .i64 8, .int .i64 0, .slice none 0 0]) (by simp [results, Tryd.results30, go_sem, (hz _).c0, (hz _).c1, (hz _).c2]) rfl ?_
                rw [HF.out]
                refine ⟨_, rfl, IsV_leaf (by unfold Rng; omega) (by unfold Rng; omega), ?_, ?_⟩
                · exact (((hr4.far (q := ⟨w.heap.size, 0, none⟩) (by simp; omega) _).far (q := ⟨w.heap.size, 1, none⟩) (by simp; omega) _).far (q := ⟨w.heap.size, 2, none⟩) (by simp; omega) _).alloc _
                · exact (((hg4'.setNew (q := ⟨w.heap.size, 0, none⟩) (Nat.le_refl _) _).setNew (q := ⟨w.heap.size, 1, none⟩) (Nat.le_refl _) _).setNew (q := ⟨w.heap.size, 2, none⟩) (Nat.le_refl _) _).alloc _
            · have e1 : ((k : Int) == 1) = false := by rw [beq_eq_false_iff_ne]; omega
              have e8 : ((k : Int) == 8) = false := by rw [beq_eq_false_iff_ne]; omega
              have HPW : Hid (pVal s (f + 1) m i p = if isB s j 40 then
                  match pList s (pVal s f) k (j + 1) (p + 1) with
                  | .error j' => .error j'
                  | .ok (n, l, j', p') => if isB s j' 41 then .ok (.mk k n l, j' + 1, p') else .error j'
                  else .error j) := by
                show _ = _
                rw [HP.out, HB.out, HWD.out]
                simp only [Bool.false_eq_true, if_false]
                rw [if_neg hleaf]
              have hvbx := Bx.new w4 26 (.int .i64 (k : Int)) (.int .i64 0) (.slice none 0 0)
              have hr5 := hr4.alloc (.cells #[.int .i64 (k : Int), .int .i64 0, .slice none 0 0] 26)
              have hg5 := hg4'.alloc (.cells #[.int .i64 (k : Int), .int .i64 0, .slice none 0 0] 26)
              have hx5 := hx4.alloc (.cells #[.int .i64 (k : Int), .int .i64 0, .slice none 0 0] 26)
              have hW5 := hW4.alloc (.cells #[.int .i64 (k : Int), .int .i64 0, .slice none 0 0] 26)
              have hacc5 : Acc (w4.heap.size + 1) (w4.alloc (.cells #[.int .i64 (k : Int), .int .i64 0, .slice none 0 0] 26)) w4.heap.size k 0 [] (.slice none 0 0) [] := ⟨hvbx, World.ownsRow_nil _ _ _ _, rfl, by omega, by simp⟩
              have h0lt := hW4.lt
              cases hop : isB s j 40
              · have HO := Lib.hid hop
                clear hop
                go_wp2_with fail
                refine (skip_no b s j (p + 1) 40 _ hr5 hs (by omega) (by omega) HO.out).mono ?_
                rintro e w6 ⟨rfl, hg6⟩
                refine ⟨rfl, ?_⟩
                rw [HPW.out, HO.out]
                exact ⟨rfl, hg5.trans hg6⟩
              · have hjlt := isB_lt (by omega) hop
                have HO := Lib.hid hop
                clear hop
                go_wp2_with fail
                refine (skip_yes b s j (p + 1) 40 _ hr5 hs (by omega) (by omega) HO.out).mono ?_
                rintro e w6 ⟨rfl, hr6, hg6⟩
                have hacc6 := hacc5.gr hg6 (by omega) (by omega)
                have hx6 := hx5.gr hg6 (by omega)
                have hW6 := hW5.gr hg6 hb0
                have hg6' := hg5.trans hg6
                clear hr5 hg5 hx5 hW5 hacc5 hvbx hr4 hg4' hx4 hW4 hg6
                generalize hvbn : w4.heap.size = vb at *
                have HVB := Lib.hid hvbn
                clear hvbn
                have hL : ListPre s f (vb + 1) b vb k (j + 1) (p + 1) w6 := ⟨HI.out, hs, hb0, by omega, by omega, by omega, by omega, hr6, by omega, by omega, by omega, hacc6, hW6⟩
                rcases hpl : pList s (pVal s f) k (j + 1) (p + 1) with j' | ⟨n, l, j', p'⟩
                · have HL := Lib.hid hpl
                  clear hpl
                  go_wp2_with fail
                  refine (list_any hkk.1 hkk.2.1 (by omega) hkk.2.2 (by omega) hL).mono ?_
                  rw [HL.out]
                  rintro e w7 ⟨rfl, hf7⟩
                  refine ⟨rfl, ?_⟩
                  rw [HPW.out, HO.out, HL.out]
                  exact ⟨rfl, fx_gr hg6' hf7 (by omega) (by omega)⟩
                · have hgl := pList_goes (pVal_goes s f) (by omega) (by omega) hpl
                  have HL := Lib.hid hpl
                  clear hpl
                  go_wp2_with fail
                  refine (list_any hkk.1 hkk.2.1 (by omega) hkk.2.2 (by omega) hL).mono ?_
                  rw [HL.out]
                  rintro e w7 ⟨rfl, hr7, ⟨v7, xs7, hacc7⟩, hf7⟩
                  have hg7 := fx_gr hg6' hf7 (by omega) (by omega)
                  have hx7 : Bx w7 w.heap.size 26 (.int .i64 0) (.int .i64 0) (.slice none 0 0) := (hf7.block _ (by omega) (by omega) (by omega)).trans hx6
                  clear hr6 hg6' hx6 hW6 hacc6 hL hf7
                  cases hcl : isB s j' 41
                  · have HC := Lib.hid hcl
                    clear hcl
                    go_wp2_with fail
                    refine (skip_no b s j' p' 41 _ hr7 hs (by omega) (by omega) HC.out).mono ?_
                    rintro e w8 ⟨rfl, hg8⟩
                    refine ⟨rfl, ?_⟩
                    rw [HPW.out, HO.out, HL.out]
                    simp only [if_true, HC.out, Bool.false_eq_true, if_false]
                    exact ⟨rfl, hg7.trans hg8⟩
                  · have HC := Lib.hid hcl
                    clear hcl
                    go_wp2_with fail
                    refine (skip_yes b s j' p' 41 _ hr7 hs (by omega) (by omega) HC.out).mono ?_
                    rintro e w8 ⟨rfl, hr8, hg8⟩
                    have hacc8 := hacc7.gr hg8 (by omega) (by omega)
                    have hx8 := hx7.gr hg8 (by omega)
                    obtain ⟨va, vcap, rfl⟩ := hacc8.form
                    have q0 := hx8.c0
                    have q1 := hx8.c1
                    have q2 := hx8.c2
                    have f0 := hx8.fz
                    have z0 := hacc8.box.c0
                    have z1 := hacc8.box.c1
                    have z2 := hacc8.box.c2
                    have hle8 := hacc8.le
                    go_wp2_with fail
                    have hz := ((hx8.set0 (.int .i64 k)).set1 (.int .i64 n)).set2 (.slice va l.length vcap)
                    refine bodyPost_ret (v := .agg #[.int .i64 k, .int .i64 n, .slice va l.length vcap]) (by simp [results, Tryd.results30, go_sem, hz.c0, hz.c1, hz.c2]) rfl ?_
                    rw [HPW.out, HO.out, HL.out]
                    simp only [if_true, HC.out]
                    refine ⟨_, rfl, ?_, ?_, ?_⟩
                    · have hv8 := hacc8.isV (by unfold Rng; omega) (by unfold Rng; omega) (fun g => vb + 1 ≤ g ∧ g < w8.heap.size) (fun g h1 h2 => ⟨h1, h2⟩)
                      refine (hv8.keep ?_).more ?_
                      · intro g hg o
                        exact World.cell?_of_block (w := w8) (by rw [Below.heap_setCell _ _ _ _ (by simp; omega), Below.heap_setCell _ _ _ _ (by simp; omega), Below.heap_setCell _ _ _ _ (by simp; omega)])
                      · intro g hg
                        exact ⟨by omega, by simpa [World.setCell] using hg.2⟩
                    · exact ((hr8.far (q := ⟨w.heap.size, 0, none⟩) (by simp; omega) _).far (q := ⟨w.heap.size, 1, none⟩) (by simp; omega) _).far (q := ⟨w.heap.size, 2, none⟩) (by simp; omega) _
                    · exact (((hg7.trans hg8).setNew (q := ⟨w.heap.size, 0, none⟩) (Nat.le_refl _) _).setNew (q := ⟨w.heap.size, 1, none⟩) (Nat.le_refl _) _).setNew (q := ⟨w.heap.size, 2, none⟩) (Nat.le_refl _) _
        · -- a digit
          have HB : Hid ((isB s i 45 || dig s i) = true) := by show _ = _; rw [hmi, hdi]; rfl
          have HD := Lib.hid hdi
          clear hmi hdi
          go_wp2_with fail
          refine (digit_any b s i (p + 1) _ hr2 hs hi).mono ?_
          rintro e w3 ⟨rfl, n3, rfl⟩
          rw [HD.out]
          have hr3 := hr2.drewN n3
          have hg3 := hg2.drewN n3
          have hx3 := hx2.drewN n3
          clear hr2 hg2 hx2 hW2
          generalize w2.drewN n3 = w3 at *
          cases hm2 : m 2
          · have H2 := Lib.hid hm2
            go_wp2_with fail
            refine (hm.calls 2 _).mono ?_
            rintro e w4 ⟨rfl, rfl⟩
            rw [H2.out]
            go_wp2_with fail
            refine (fail_any b i _ hr3.c1).mono ?_
            rintro e w4 ⟨rfl, rfl⟩
            refine ⟨rfl, ?_⟩
            rw [HP.out, HB.out, H2.out]
            exact ⟨rfl, hg3⟩
          · have H2 := Lib.hid hm2
            have HPI : Hid (pVal s (f + 1) m i p = integer s i (p + 1)) := by
              show _ = _
              rw [HP.out, HB.out, H2.out]
              rfl
            rcases hin : integer s i (p + 1) with j | ⟨t, j, p2⟩
            · have HN := Lib.hid hin
              clear hin
              go_wp2_with fail
              refine (hm.calls 2 _).mono ?_
              rintro e w4 ⟨rfl, rfl⟩
              rw [H2.out]
              go_wp2_with fail
              refine (integer_any b s i (p + 1) _ hr3 hs hi).mono ?_
              rw [HN.out]
              rintro e w4 ⟨rfl, hg4⟩
              refine ⟨rfl, ?_⟩
              rw [HPI.out, HN.out]
              exact ⟨rfl, hg3.trans hg4⟩
            · have HN := Lib.hid hin
              clear hin
              go_wp2_with fail
              refine (hm.calls 2 _).mono ?_
              rintro e w4 ⟨rfl, rfl⟩
              rw [H2.out]
              go_wp2_with fail
              refine (integer_any b s i (p + 1) _ hr3 hs hi).mono ?_
              rw [HN.out]
              rintro e w4 ⟨v4, rfl, hv4, hr4, hg4⟩
              obtain ⟨k4, n4, a4, l4, c4, rfl⟩ := hv4.form
              have hx4 := hx3.gr hg4 (by omega)
              have q0 := hx4.c0
              have q1 := hx4.c1
              have q2 := hx4.c2
              have f0 := hx4.fz
              have hlow := hx3.lt
              go_wp2_with fail
              have hz := ((hx4.set0 (.int .i64 k4)).set1 (.int .i64 n4)).set2 (.slice a4 l4 c4)
              refine bodyPost_ret (v := .agg #[.int .i64 k4, .int .i64 n4, .slice a4 l4 c4]) (by simp [results, Tryd.results30, go_sem, hz.c0, hz.c1, hz.c2]) rfl ?_
              rw [HPI.out, HN.out]
              refine ⟨_, rfl, ?_, ?_, ?_⟩
              · refine (hv4.keep ?_).more ?_
                · intro g hg o
                  exact World.cell?_of_block (w := w4) (by rw [Below.heap_setCell _ _ _ _ (by simp; omega), Below.heap_setCell _ _ _ _ (by simp; omega), Below.heap_setCell _ _ _ _ (by simp; omega)])
                · intro g hg
                  exact ⟨by omega, by simpa [World.setCell] using hg.2⟩
              · exact ((hr4.far (q := ⟨w.heap.size, 0, none⟩) (by simp; omega) _).far (q := ⟨w.heap.size, 1, none⟩) (by simp; omega) _).far (q := ⟨w.heap.size, 2, none⟩) (by simp; omega) _
              · exact (((hg3.trans hg4).setNew (q := ⟨w.heap.size, 0, none⟩) (Nat.le_refl _) _).setNew (q := ⟨w.heap.size, 1, none⟩) (Nat.le_refl _) _).setNew (q := ⟨w.heap.size, 2, none⟩) (Nat.le_refl _) _
      · -- a sign
        have HB : Hid ((isB s i 45 || dig s i) = true) := by show _ = _; rw [hmi]; rfl
        clear hmi
        cases hm2 : m 2
        · have H2 := Lib.hid hm2
          go_wp2_with fail
          refine (hm.calls 2 _).mono ?_
          rintro e w4 ⟨rfl, rfl⟩
          rw [H2.out]
          go_wp2_with fail
          refine (fail_any b i _ hr2.c1).mono ?_
          rintro e w4 ⟨rfl, rfl⟩
          refine ⟨rfl, ?_⟩
          rw [HP.out, HB.out, H2.out]
          exact ⟨rfl, hg2⟩
        · have H2 := Lib.hid hm2
          have HPI : Hid (pVal s (f + 1) m i p = integer s i (p + 1)) := by
            show _ = _
            rw [HP.out, HB.out, H2.out]
            rfl
          rcases hin : integer s i (p + 1) with j | ⟨t, j, p2⟩
          · have HN := Lib.hid hin
            clear hin
            go_wp2_with fail
            refine (hm.calls 2 _).mono ?_
            rintro e w4 ⟨rfl, rfl⟩
            rw [H2.out]
            go_wp2_with fail
            refine (integer_any b s i (p + 1) _ hr2 hs hi).mono ?_
            rw [HN.out]
            rintro e w4 ⟨rfl, hg4⟩
            refine ⟨rfl, ?_⟩
            rw [HPI.out, HN.out]
            exact ⟨rfl, hg2.trans hg4⟩
          · have HN := Lib.hid hin
            clear hin
            go_wp2_with fail
            refine (hm.calls 2 _).mono ?_
            rintro e w4 ⟨rfl, rfl⟩
            rw [H2.out]
            go_wp2_with fail
            refine (integer_any b s i (p + 1) _ hr2 hs hi).mono ?_
            rw [HN.out]
            rintro e w4 ⟨v4, rfl, hv4, hr4, hg4⟩
            obtain ⟨k4, n4, a4, l4, c4, rfl⟩ := hv4.form
            have hx4 := hx2.gr hg4 (by omega)
            have q0 := hx4.c0
            have q1 := hx4.c1
            have q2 := hx4.c2
            have f0 := hx4.fz
            have hlow := hx2.lt
            go_wp2_with fail
            have hz := ((hx4.set0 (.int .i64 k4)).set1 (.int .i64 n4)).set2 (.slice a4 l4 c4)
            refine bodyPost_ret (v := .agg #[.int .i64 k4, .int .i64 n4, .slice a4 l4 c4]) (by simp [results, Tryd.results30, go_sem, hz.c0, hz.c1, hz.c2]) rfl ?_
            rw [HPI.out, HN.out]
            refine ⟨_, rfl, ?_, ?_, ?_⟩
            · refine (hv4.keep ?_).more ?_
              · intro g hg o
                exact World.cell?_of_block (w := w4) (by rw [Below.heap_setCell _ _ _ _ (by simp; omega), Below.heap_setCell _ _ _ _ (by simp; omega), Below.heap_setCell _ _ _ _ (by simp; omega)])
              · intro g hg
                exact ⟨by omega, by simpa [World.setCell] using hg.2⟩
            · exact ((hr4.far (q := ⟨w.heap.size, 0, none⟩) (by simp; omega) _).far (q := ⟨w.heap.size, 1, none⟩) (by simp; omega) _).far (q := ⟨w.heap.size, 2, none⟩) (by simp; omega) _
            · exact (((hg2.trans hg4).setNew (q := ⟨w.heap.size, 0, none⟩) (Nat.le_refl _) _).setNew (q := ⟨w.heap.size, 1, none⟩) (Nat.le_refl _) _).setNew (q := ⟨w.heap.size, 2, none⟩) (Nat.le_refl _) _
end Go.Proofs.YtkahboomahhdoaaDoor
