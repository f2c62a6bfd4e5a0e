/-
  Walks over the reference of layer 5: the reader's number.
-/
import Derived.Test.YtkahboomahhdoaaDoorRr1
namespace Go.Proofs.YtkahboomahhdoaaDoor
open Go.RowKit

theorem num_first {s : ByteArray} {most i : Nat} (hd : dig s i = true) : num s most i = if (bt s i - 48).toNat = 0 then .ok (0, i + 1) else numGo s most (s.size - (i + 1)) (i + 1) (bt s i - 48).toNat := by
  have hlt := dig_lt hd
  unfold num
  rw [hd, if_pos rfl, show s.size - i = (s.size - (i + 1)) + 1 from by omega, numGo, hd, if_pos rfl]
  dsimp only
  rw [if_neg (by omega), Nat.zero_mul, Nat.zero_add]
theorem numGo_step {s : ByteArray} {most j m : Nat} (hd : dig s j = true) (hm : 0 < m) : numGo s most (s.size - j) j m = if (most - (bt s j - 48).toNat) / 10 < m then .error j else numGo s most (s.size - (j + 1)) (j + 1) (m * 10 + (bt s j - 48).toNat) := by
  have hlt := dig_lt hd
  rw [show s.size - j = (s.size - (j + 1)) + 1 from by omega, numGo, hd, if_pos rfl]
  dsimp only
  split
  · rfl
  · rw [if_neg (by omega)]
theorem numGo_stop {s : ByteArray} {most j m : Nat} (hd : dig s j = false) : numGo s most (s.size - j) j m = .ok (m, j) := by
  cases s.size - j with
  | zero => rfl
  | succ f => rw [numGo, hd]; rfl

/-- number: an error where the reader is bad, or the first digit is too small. -/
def rnum (s : ByteArray) (most first i : Nat) (b : Bool) : Except Nat (Nat × Nat) :=
  if b then .error i else if dig s i && decide ((bt s i - 48).toNat < first) then .error i else num s most i
/-- How a reader's call ends. -/
def RnEnds (s : ByteArray) (p : Int) (w : World) (r : Except Nat (Nat × Nat)) (e : Ending) (w' : World) : Prop :=
  match r with
  | .error j => e = .returned (.tuple #[rdV s j p true, .int .u64 0]) ∧ Below w.heap.size w w'
  | .ok (n, j) => e = .returned (.tuple #[rdV s j p false, .int .u64 n]) ∧ Below w.heap.size w w'

def cellI (w : World) (g o : Nat) : Nat := match w.cell? ⟨g, o, none⟩ with | some (.int _ i) => i.toNat | _ => 0

set_option maxRecDepth 100000 in
set_option maxHeartbeats 2000000 in
theorem rnumber_any (s : ByteArray) (i most first : Nat) (p : Int) (b : Bool) (w : World) (hs : s.size ≤ maxLen) (hi : i ≤ s.size) (hm0 : 9 ≤ most) (hm : most ≤ 9223372036854775808) (hf : first ≤ 1) :
    Calls Tryd.prog 61 #[rdV s i p b, .int .u64 most, .int .u64 first] w (RnEnds s p w (rnum s most first i b)) := by
  have hs2 := hs
  unfold maxLen at hs2
  obtain ⟨W, hW⟩ : ∃ W, W = (w.alloc (.cells #[.string s, .int .i64 i, .int .i64 p, .bool b] 68)).alloc (.cells #[.string ⟨#[]⟩, .int .i64 0, .int .i64 0, .bool false] 68) := ⟨_, rfl⟩
  obtain ⟨hx, hr, hb⟩ := rr_start w s i p b W hW
  have HW := Lib.hid hW
  clear hW
  -- the bad endings
  have hbad : b = true ∨ (b = false ∧ dig s i = false) ∨ (b = false ∧ dig s i = true ∧ (bt s i - 48).toNat < first) ∨ (b = false ∧ dig s i = true ∧ first ≤ (bt s i - 48).toNat) := by
    cases b <;> cases hdd : dig s i <;> simp <;> omega
  rcases hbad with rfl | ⟨rfl, hd⟩ | ⟨rfl, hd, hlt⟩ | ⟨rfl, hd, hge⟩
  · have HG : Hid (rnum s most first i true = .error i) := rfl
    rw [rdV_eq]
    go_enter Tryd.func61, Tryd.ntmps61
    go_wp2_with fail
    rw [← HW.out]
    refine (rdigit_any s i p true _ hs hi).mono ?_
    rintro e w1 ⟨rfl, hb1⟩
    have hx1 := hx.belowAll hb1
    have hr1 := hr.belowAll hb1
    have hb2 : Below w.heap.size w w1 := hb.trans (hb1.mono hb.size)
    have q0 := hx1.c0
    have q1 := hx1.c1
    have q2 := hx1.c2
    have q3 := hx1.c3
    have qf := hx1.fz
    have z0 := hr1.c0
    have z1 := hr1.c1
    have z2 := hr1.c2
    have z3 := hr1.c3
    have zf := hr1.fz
    rw [digV]
    generalize (if dig s i then bt s i - 48 else 0) = dv
    generalize dig s i = db
    go_wp2_with fail
    have h9 := ((hr1.far (q := ⟨w.heap.size, 3, none⟩) (by simp) (.bool true)).put (.string s) (.int .i64 i) (.int .i64 p) (.bool true))
    refine bodyPost_ret (v := .tuple #[rdV s i p true, .int .u64 0]) (by simp [results, Tryd.results61, go_sem, h9.c0, h9.c1, h9.c2, h9.c3, rdV]) rfl ?_
    rw [HG.out]
    exact ⟨rfl, below_put4 (hb2.setCell (p := ⟨w.heap.size, 3, none⟩) (Nat.le_refl _) _) (by omega) _ _ _ _⟩
  · have HG : Hid (rnum s most first i false = .error i) := by show _ = _; unfold rnum num; rw [hd]; rfl
    have HD := Lib.hid (digV_no hd)
    clear hd
    rw [rdV_eq]
    go_enter Tryd.func61, Tryd.ntmps61
    go_wp2_with fail
    rw [← HW.out]
    refine (rdigit_any s i p false _ hs hi).mono ?_
    rw [HD.out]
    rintro e w1 ⟨rfl, hb1⟩
    have hx1 := hx.belowAll hb1
    have hr1 := hr.belowAll hb1
    have hb2 : Below w.heap.size w w1 := hb.trans (hb1.mono hb.size)
    have q0 := hx1.c0
    have q1 := hx1.c1
    have q2 := hx1.c2
    have q3 := hx1.c3
    have qf := hx1.fz
    have z0 := hr1.c0
    have z1 := hr1.c1
    have z2 := hr1.c2
    have z3 := hr1.c3
    have zf := hr1.fz
    go_wp2_with fail
    have h9 := ((hr1.far (q := ⟨w.heap.size, 3, none⟩) (by simp) (.bool true)).put (.string s) (.int .i64 i) (.int .i64 p) (.bool true))
    refine bodyPost_ret (v := .tuple #[rdV s i p true, .int .u64 0]) (by simp [results, Tryd.results61, go_sem, h9.c0, h9.c1, h9.c2, h9.c3, rdV]) rfl ?_
    rw [HG.out]
    exact ⟨rfl, below_put4 (hb2.setCell (p := ⟨w.heap.size, 3, none⟩) (Nat.le_refl _) _) (by omega) _ _ _ _⟩
  · have HG : Hid (rnum s most first i false = .error i) := by show _ = _; unfold rnum; rw [hd]; simp [hlt]
    have hbt := dig_bt hd
    have HD := Lib.hid (digV_yes hd)
    clear hd
    obtain ⟨d, hdd⟩ : ∃ d : Nat, bt s i - 48 = (d : Int) := ⟨(bt s i - 48).toNat, by omega⟩
    rw [hdd] at HD hlt
    have hd1 : decide ((d : Int) < (first : Int)) = true := by simp; omega
    rw [rdV_eq]
    go_enter Tryd.func61, Tryd.ntmps61
    go_wp2_with fail
    rw [← HW.out]
    refine (rdigit_any s i p false _ hs hi).mono ?_
    rw [HD.out]
    rintro e w1 ⟨rfl, hb1⟩
    have hx1 := hx.belowAll hb1
    have hr1 := hr.belowAll hb1
    have hb2 : Below w.heap.size w w1 := hb.trans (hb1.mono hb.size)
    have q0 := hx1.c0
    have q1 := hx1.c1
    have q2 := hx1.c2
    have q3 := hx1.c3
    have qf := hx1.fz
    have z0 := hr1.c0
    have z1 := hr1.c1
    have z2 := hr1.c2
    have z3 := hr1.c3
    have zf := hr1.fz
    go_wp2_with fail
    have h9 := ((hr1.far (q := ⟨w.heap.size, 3, none⟩) (by simp) (.bool true)).put (.string s) (.int .i64 i) (.int .i64 p) (.bool true))
    refine bodyPost_ret (v := .tuple #[rdV s i p true, .int .u64 0]) (by simp [results, Tryd.results61, go_sem, h9.c0, h9.c1, h9.c2, h9.c3, rdV]) rfl ?_
    rw [HG.out]
    exact ⟨rfl, below_put4 (hb2.setCell (p := ⟨w.heap.size, 3, none⟩) (Nat.le_refl _) _) (by omega) _ _ _ _⟩
  · have hG : rnum s most first i false = num s most i := by unfold rnum; rw [hd]; simp; omega
    rw [num_first hd] at hG
    have HG := Lib.hid hG
    have hbt := dig_bt hd
    have hlt := dig_lt hd
    have HD := Lib.hid (digV_yes hd)
    clear hd hG
    obtain ⟨d, hdd⟩ : ∃ d : Nat, bt s i - 48 = (d : Int) := ⟨(bt s i - 48).toNat, by omega⟩
    rw [hdd] at HD hge HG
    rw [Int.toNat_natCast] at HG hge
    have hd9 : d ≤ 9 := by omega
    have hd1 : decide (d < first) = false := by simp; omega
    have hd2 : decide (most < d) = false := by simp; omega
    rw [rdV_eq]
    go_enter Tryd.func61, Tryd.ntmps61
    go_wp2_with fail
    rw [← HW.out]
    refine (rdigit_any s i p false _ hs hi).mono ?_
    rw [HD.out]
    rintro e w1 ⟨rfl, hb1⟩
    have hx1 := hx.belowAll hb1
    have hr1 := hr.belowAll hb1
    have hb2 : Below w.heap.size w w1 := hb.trans (hb1.mono hb.size)
    have q0 := hx1.c0
    have q1 := hx1.c1
    have q2 := hx1.c2
    have q3 := hx1.c3
    have qf := hx1.fz
    go_wp2_with fail
    go_loopw [8, 9, 10] (fun _ _ nv wr => ∃ (j m : Nat), nv = .int .u64 m ∧ m ≤ most ∧ j ≤ s.size ∧ rnum s most first i false = (if m = 0 then .ok (0, j) else numGo s most (s.size - j) j m) ∧ B4 wr w.heap.size 68 (.string s) (.int .i64 j) (.int .i64 p) (.bool false) ∧ B4 wr (w.heap.size + 1) 68 (.string ⟨#[]⟩) (.int .i64 0) (.int .i64 0) (.bool false) ∧ Below w.heap.size w wr) (fun _ _ _ wr => s.size - cellI wr w.heap.size 1)
    case atStart => exact ⟨i + 1, d, rfl, by omega, by omega, HG.out, hx1.set1 _, hr1.far (q := ⟨w.heap.size, 1, none⟩) (by simp) _, hb2.setCell (p := ⟨w.heap.size, 1, none⟩) (Nat.le_refl _) _⟩
    case round =>
      clear q0 q1 q2 q3 qf hx1 hr1 hx hr hb hb1 hb2
      obtain ⟨j, m, rfl, hmm, hj, hc, hx1, hr1, hb2⟩ := hrel
      have HC := Lib.hid hc
      clear hc
      have hsz := hb2.size
      have q0 := hx1.c0
      have q1 := hx1.c1
      have q2 := hx1.c2
      have q3 := hx1.c3
      have qf := hx1.fz
      have z0 := hr1.c0
      have z1 := hr1.c1
      have z2 := hr1.c2
      have z3 := hr1.c3
      have zf := hr1.fz
      rcases Nat.eq_zero_or_pos m with rfl | hm1
      · go_wp2_with fail
        have h9 := hr1.put (.string s) (.int .i64 j) (.int .i64 p) (.bool false)
        refine bodyPost_ret (v := .tuple #[rdV s j p false, .int .u64 0]) (by simp [results, Tryd.results61, go_sem, h9.c0, h9.c1, h9.c2, h9.c3, rdV]) rfl ?_
        rw [HC.out, if_pos trivial]
        exact ⟨rfl, below_put4 hb2 (by omega) _ _ _ _⟩
      · cases hdj : dig s j
        · have HS := Lib.hid (numGo_stop (most := most) (m := m) hdj)
          have HDJ := Lib.hid (digV_no hdj)
          clear hdj
          go_wp2_with fail
          refine (rdigit_any s j p false _ hs hj).mono ?_
          rw [HDJ.out]
          rintro e w3 ⟨rfl, hb3⟩
          have hx3 := hx1.belowAll hb3
          have hr3 := hr1.belowAll hb3
          have hb4 := hb2.trans (hb3.mono hsz)
          clear q0 q1 q2 q3 qf z0 z1 z2 z3 zf
          have q0 := hx3.c0
          have q1 := hx3.c1
          have q2 := hx3.c2
          have q3 := hx3.c3
          have z0 := hr3.c0
          have z1 := hr3.c1
          have z2 := hr3.c2
          have z3 := hr3.c3
          have zf := hr3.fz
          go_wp2_with fail
          have h9 := hr3.put (.string s) (.int .i64 j) (.int .i64 p) (.bool false)
          refine bodyPost_ret (v := .tuple #[rdV s j p false, .int .u64 m]) (by simp [results, Tryd.results61, go_sem, h9.c0, h9.c1, h9.c2, h9.c3, rdV]) rfl ?_
          rw [HC.out, if_neg (by omega), HS.out]
          exact ⟨rfl, below_put4 hb4 (by omega) _ _ _ _⟩
        · have hltj := dig_lt hdj
          have hbtj := dig_bt hdj
          have hstep := numGo_step (most := most) hdj hm1
          have HDJ := Lib.hid (digV_yes hdj)
          clear hdj
          obtain ⟨dj, hdj⟩ : ∃ d : Nat, bt s j - 48 = (d : Int) := ⟨(bt s j - 48).toNat, by omega⟩
          rw [hdj] at HDJ hstep
          rw [Int.toNat_natCast] at hstep
          have hdj9 : dj ≤ 9 := by omega
          have HST := Lib.hid hstep
          clear hstep hdj hbtj
          have hat : cellI wr w.heap.size 1 = j := by unfold cellI; rw [q1]; rfl
          have HAT := Lib.hid hat
          clear hat
          go_wp2_with fail
          refine (rdigit_any s j p false _ hs hj).mono ?_
          rw [HDJ.out]
          rintro e w3 ⟨rfl, hb3⟩
          have hx3 := hx1.belowAll hb3
          have hr3 := hr1.belowAll hb3
          have hb4 := hb2.trans (hb3.mono hsz)
          clear q0 q1 q2 q3 qf z0 z1 z2 z3 zf
          have q0 := hx3.c0
          have q1 := hx3.c1
          have q2 := hx3.c2
          have q3 := hx3.c3
          have qf := hx3.fz
          have z0 := hr3.c0
          have z1 := hr3.c1
          have z2 := hr3.c2
          have z3 := hr3.c3
          have zf := hr3.fz
          rcases Nat.lt_or_ge ((most - dj) / 10) m with hov | hov
          · go_wp2_with fail
            have h9 := ((hr3.far (q := ⟨w.heap.size, 3, none⟩) (by simp) (.bool true)).put (.string s) (.int .i64 j) (.int .i64 p) (.bool true))
            refine bodyPost_ret (v := .tuple #[rdV s j p true, .int .u64 0]) (by simp [results, Tryd.results61, go_sem, h9.c0, h9.c1, h9.c2, h9.c3, rdV]) rfl ?_
            rw [HC.out, if_neg (by omega), HST.out, if_pos hov]
            exact ⟨rfl, below_put4 (hb4.setCell (p := ⟨w.heap.size, 3, none⟩) (Nat.le_refl _) _) (by omega) _ _ _ _⟩
          · go_wp2_with fail
            go_roundw
            case rel =>
              refine ⟨j + 1, m * 10 + dj, ?_, by omega, by omega, ?_, hx3.set1 _, hr3.far (q := ⟨w.heap.size, 1, none⟩) (by simp) _, hb4.setCell (p := ⟨w.heap.size, 1, none⟩) (Nat.le_refl _) _⟩
              · congr 1; omega
              · rw [HC.out, if_neg (by omega), HST.out, if_neg (by omega), if_neg (by omega)]
            case measure =>
              have h1 := (hx3.set1 (.int .i64 ((j : Int) + 1))).c1
              have : cellI (w3.setCell ⟨w.heap.size, 1, none⟩ (.int .i64 ((j : Int) + 1))) w.heap.size 1 = j + 1 := by unfold cellI; rw [h1]; simp
              rw [this, HAT.out]
              omega
end Go.Proofs.YtkahboomahhdoaaDoor
