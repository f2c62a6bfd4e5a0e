/-
  Walks over package val: shaped (choices), shapes, valid, Check, equal, Same.
-/
import Derived.Test.YtkahboomahhdoaaDoorVal3
namespace Go.Proofs.YtkahboomahhdoaaDoor
open Go.RowKit

set_option maxHeartbeats 1000000 in
theorem shaped_choose (n : Int) (l : List VT) (a : Option Addr) (cap : Nat) (w : World) (hl : l.length ≤ cap) (hcap : cap ≤ maxLen)
    (hrow : IsR (· < w.heap.size) w l a 0) :
    Calls Tryd.prog 93 #[.agg #[.int .i64 9, .int .i64 n, .slice a l.length cap]] w fun e w' => e = .returned (.bool (shp 9 n l)) ∧ Below w.heap.size w w' := by
  unfold maxLen at hcap
  go_enter Tryd.func93, Tryd.ntmps93
  go_wp2_with fail
  go_loopw [92] (fun i wr => ∃ (j : Nat), j ≤ l.length ∧ i = .int .i64 j ∧ (l.all fun t => isEv t.kd) = ((l.drop j).all fun t => isEv t.kd) ∧ Below w.heap.size w wr ∧ w.heap.size + 1 ≤ wr.heap.size ∧ wr.cell? ⟨w.heap.size, 1, none⟩ = some (.int .i64 n)) (fun i _ => l.length - (intOf i).toNat)
  case atStart => exact ⟨0, by omega, rfl, rfl, (Below.refl _ _).alloc (Nat.le_refl _) _, by simp, by simp [go_sem]⟩
  case round =>
    obtain ⟨j, hj, rfl, hc, hb, hsz, hcell⟩ := hrel
    have HC := Lib.hid hc
    clear hc
    by_cases hlt : j < l.length
    · obtain ⟨kk, n2, ll, g, o, a', cap', hlj, rfl, hg, c0, c1, c2, ht⟩ := hrow.at_ hlt
      have d0 := (hb.cell (p := ⟨g, o + j * 3, none⟩) hg).trans c0
      have d1 := (hb.cell (p := ⟨g, o + j * 3 + 1, none⟩) hg).trans c1
      have d2 := (hb.cell (p := ⟨g, o + j * 3 + 2, none⟩) hg).trans c2
      have HL := Lib.hid hlj
      clear hlj c0 c1 c2 ht
      cases hev : isEv kk
      · go_wp2_with (go_at_call 101; refine (vevent_any _ _ _ (.inl rfl)).mono ?_; rintro e w' ⟨rfl, rfl⟩)
        go_ret
        refine ⟨ret_bool ?_, hb.alloc (by omega) _⟩
        have : (l.all fun t => isEv t.kd) = false := by rw [HC.out, all_drop hlt, HL.out, VT.kd, hev, Bool.false_and]
        simp [shp, shpN, this]
      · go_wp2_with (go_at_call 101; refine (vevent_any _ _ _ (.inl rfl)).mono ?_; rintro e w' ⟨rfl, rfl⟩)
        go_roundw
        case rel =>
          refine ⟨j + 1, by omega, by go_num, ?_, hb.alloc (by omega) _, by simp; omega, ?_⟩
          · rw [HC.out, all_drop hlt, HL.out, VT.kd, hev, Bool.true_and]
          · rw [World.cell?_alloc_lt _ _ _ (by simp; omega)]; exact hcell
        case measure => simp [intOf]; omega
    · have hev : (l.all fun t => isEv t.kd) = true := by rw [HC.out, List.drop_of_length_le (by omega)]; rfl
      have HV := Lib.hid hev
      clear hev
      go_wp2_with fail
      all_goals go_ret
      all_goals refine ⟨ret_bool ?_, hb⟩
      all_goals (rw [Bool.eq_iff_iff]; simp only [shp, HV.out]; simp [shpN]; try omega)

theorem shaped_any (k n : Int) (l : List VT) (a : Option Addr) (cap : Nat) (w : World) (hl : l.length ≤ cap) (hcap : cap ≤ maxLen)
    (hrow : IsR (· < w.heap.size) w l a 0) :
    Calls Tryd.prog 93 #[.agg #[.int .i64 k, .int .i64 n, .slice a l.length cap]] w fun e w' => e = .returned (.bool (shp k n l)) ∧ Below w.heap.size w w' := by
  by_cases h1 : 1 ≤ k ∧ k ≤ 13
  · have : (k = 1 ∨ k = 8 ∨ k = 2 ∨ k = 3 ∨ k = 4 ∨ k = 13 ∨ k = 7 ∨ k = 11 ∨ k = 12) ∨ (k = 5 ∨ k = 6 ∨ k = 10) ∨ k = 9 := by omega
    rcases this with h | h | rfl
    · exact shaped_plain k n l a cap w hl hcap h
    · exact shaped_first k n l a cap w hl hcap hrow h
    · exact shaped_choose n l a cap w hl hcap hrow
  · exact shaped_no k n l a cap w hl hcap (fun i h2 h3 h4 => h1 (by omega))

set_option maxHeartbeats 1000000 in
theorem shapes_any (m : Nat) : ∀ (t : VT) (v : Value) (w : World), SizeOf.sizeOf t ≤ m → IsV (· < w.heap.size) w t v →
    Calls Tryd.prog 84 #[v] w fun e w' => e = .returned (.bool (shps t)) ∧ Below w.heap.size w w' := by
  induction m with
  | zero => intro t; cases t; simp
  | succ m ih =>
    intro t v w hk hv
    obtain ⟨kd, nn, l⟩ := t
    rw [IsV] at hv
    obtain ⟨a, cap, rfl, hkr, hnr, hl, hcap, hrow⟩ := hv
    have hcap' := hcap
    unfold maxLen at hcap
    have hsh := fun (W : World) (hb : Below w.heap.size w W) => shaped_any kd nn l a cap W hl hcap' ((hrow.below hb).more fun _ hg => Nat.lt_of_lt_of_le hg hb.size)
    have HS := Lib.hid hsh
    clear hsh
    have HI := Lib.hid ih
    clear ih
    cases hs : shp kd nn l
    · have HX := Lib.hid hs
      clear hs
      go_enter Tryd.func84, Tryd.ntmps84
      go_wp2_with fail
      refine (HS.out _ ((Below.refl _ _).alloc (Nat.le_refl _) _)).mono ?_
      rintro e w1 ⟨rfl, hb1⟩
      rw [HX.out]
      go_wp2_with fail
      go_ret
      refine ⟨ret_bool (by rw [shps, HX.out]; rfl), ((Below.refl _ _).alloc (Nat.le_refl _) _).trans (hb1.mono (by simp))⟩
    · have HX := Lib.hid hs
      clear hs
      go_enter Tryd.func84, Tryd.ntmps84
      go_wp2_with fail
      refine (HS.out _ ((Below.refl _ _).alloc (Nat.le_refl _) _)).mono ?_
      rintro e w1 ⟨rfl, hb1⟩
      rw [HX.out]
      obtain ⟨hc, hf⟩ := bcell hb1
      have hc2 := (hc w.heap.size 2 (by simp)).trans (by simp [go_sem] : _ = some (Value.slice a l.length cap))
      have hbw : Below w.heap.size w w1 := ((Below.refl _ _).alloc (Nat.le_refl _) _).trans (hb1.mono (by simp))
      have hsz1 : w.heap.size + 1 ≤ w1.heap.size := by have := hb1.size; simpa using this
      clear hc hf hb1
      go_wp2_with fail
      go_loopw [11] (fun i wr => ∃ (j : Nat), j ≤ l.length ∧ i = .int .i64 j ∧ shpsL l = shpsL (l.drop j) ∧ Below w.heap.size w wr ∧ w.heap.size + 1 ≤ wr.heap.size) (fun i _ => l.length - (intOf i).toNat)
      case atStart => exact ⟨0, by omega, rfl, rfl, hbw, hsz1⟩
      case round =>
        obtain ⟨j, hj, rfl, hc, hb, hsz⟩ := hrel
        have HC := Lib.hid hc
        clear hc
        by_cases hlt : j < l.length
        · obtain ⟨kk, n2, ll, g, o, a', cap', hlj, rfl, hg, c0, c1, c2, ht⟩ := hrow.at_ hlt
          have d0 := (hb.cell (p := ⟨g, o + j * 3, none⟩) hg).trans c0
          have d1 := (hb.cell (p := ⟨g, o + j * 3 + 1, none⟩) hg).trans c1
          have d2 := (hb.cell (p := ⟨g, o + j * 3 + 2, none⟩) hg).trans c2
          have HL := Lib.hid hlj
          clear hlj c0 c1 c2
          cases hev : shps (.mk kk n2 ll)
          · have HV := Lib.hid hev
            clear hev
            go_wp2_with fail
            refine (HI.out (.mk kk n2 ll) _ _ (sz_lt (HL.out ▸ List.getElem_mem hlt) hk) ?_).mono ?_
            · exact (ht.below (hb.alloc (by omega) _)).lift (by simp; omega)
            rintro e w2 ⟨rfl, hb2⟩
            rw [HV.out]
            go_wp2_with fail
            go_ret
            refine ⟨ret_bool ?_, (hb.alloc (by omega) _).trans (hb2.mono (by simp; omega))⟩
            rw [shps, HX.out, HC.out, List.drop_eq_getElem_cons hlt, shpsL, HL.out, HV.out]; rfl
          · have HV := Lib.hid hev
            clear hev
            go_wp2_with fail
            refine (HI.out (.mk kk n2 ll) _ _ (sz_lt (HL.out ▸ List.getElem_mem hlt) hk) ?_).mono ?_
            · exact (ht.below (hb.alloc (by omega) _)).lift (by simp; omega)
            rintro e w2 ⟨rfl, hb2⟩
            rw [HV.out]
            go_wp2_with fail
            go_roundw
            case rel =>
              refine ⟨j + 1, by omega, by go_num, ?_, (hb.alloc (by omega) _).trans (hb2.mono (by simp; omega)), ?_⟩
              · rw [HC.out, List.drop_eq_getElem_cons hlt, shpsL, HL.out, HV.out]; rfl
              · have := hb2.size; simp at this; omega
            case measure => simp [intOf]; omega
        · go_wp2_with fail
          go_ret
          refine ⟨ret_bool ?_, hb⟩
          rw [shps, HX.out, HC.out, List.drop_of_length_le (by omega)]; rfl
end Go.Proofs.YtkahboomahhdoaaDoor
