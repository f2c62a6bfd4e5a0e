/-
 Walks over the reference of layer 5: the reader's is, sign, digit, may, needs, number.
-/
import Derived.Test.YtjldbbcdhdfliaaGreatDoorRRef
namespace Go.Proofs.YtjldbbcdhdfliaaGreatDoor
open Go.RowKit

/-- The reference's reader. -/
def rdV (s : ByteArray) (i p : Int) (b : Bool) : Value := .agg #[.string s, .int .i64 i, .int .i64 p, .bool b]
theorem rdV_eq (s : ByteArray) (i p : Int) (b : Bool) : rdV s i p b = .agg #[.string s, .int .i64 i, .int .i64 p, .bool b] := rfl
/-- A block of four cells that is known whole. -/
def B4 (w : World) (g : Nat) (t : TypeId) (v0 v1 v2 v3 : Value) : Prop := w.heap[g]? = some (.cells #[v0, v1, v2, v3] t (0, 0))
section
variable {w w' : World} {g : Nat} {t : TypeId} {v0 v1 v2 v3 : Value}
theorem B4.lt (h : B4 w g t v0 v1 v2 v3) : g < w.heap.size := lt_of_heap h
theorem B4.new (w : World) (t : TypeId) (v0 v1 v2 v3 : Value) : B4 (w.alloc (.cells #[v0, v1, v2, v3] t)) w.heap.size t v0 v1 v2 v3 := heap_alloc_new w _
theorem B4.c0 (h : B4 w g t v0 v1 v2 v3) : w.cell? ⟨g, 0, none⟩ = some v0 := by unfold B4 at h; simp [World.cell?, h]
theorem B4.c1 (h : B4 w g t v0 v1 v2 v3) : w.cell? ⟨g, 1, none⟩ = some v1 := by unfold B4 at h; simp [World.cell?, h]
theorem B4.c2 (h : B4 w g t v0 v1 v2 v3) : w.cell? ⟨g, 2, none⟩ = some v2 := by unfold B4 at h; simp [World.cell?, h]
theorem B4.c3 (h : B4 w g t v0 v1 v2 v3) : w.cell? ⟨g, 3, none⟩ = some v3 := by unfold B4 at h; simp [World.cell?, h]
theorem B4.fz (h : B4 w g t v0 v1 v2 v3) (o : Nat) : w.frozen? ⟨g, o, none⟩ = false := by unfold B4 at h; simp [World.frozen?, h]
theorem B4.drewN (h : B4 w g t v0 v1 v2 v3) (n : Nat) : B4 (w.drewN n) g t v0 v1 v2 v3 := h
theorem B4.alloc (h : B4 w g t v0 v1 v2 v3) (o : Obj) : B4 (w.alloc o) g t v0 v1 v2 v3 := (Below.heap_alloc w o g h.lt).trans h
theorem B4.set0 (h : B4 w g t v0 v1 v2 v3) (u : Value) : B4 (w.setCell ⟨g, 0, none⟩ u) g t u v1 v2 v3 := by
 unfold B4 at h ⊢
 simp [World.setCell, Array.getElem?_modify, h]
theorem B4.set1 (h : B4 w g t v0 v1 v2 v3) (u : Value) : B4 (w.setCell ⟨g, 1, none⟩ u) g t v0 u v2 v3 := by
 unfold B4 at h ⊢
 simp [World.setCell, Array.getElem?_modify, h]
theorem B4.set2 (h : B4 w g t v0 v1 v2 v3) (u : Value) : B4 (w.setCell ⟨g, 2, none⟩ u) g t v0 v1 u v3 := by
 unfold B4 at h ⊢
 simp [World.setCell, Array.getElem?_modify, h]
theorem B4.set3 (h : B4 w g t v0 v1 v2 v3) (u : Value) : B4 (w.setCell ⟨g, 3, none⟩ u) g t v0 v1 v2 u := by
 unfold B4 at h ⊢
 simp [World.setCell, Array.getElem?_modify, h]
theorem B4.far (h : B4 w g t v0 v1 v2 v3) {q : Addr} (hq : g ≠ q.block) (u : Value) : B4 (w.setCell q u) g t v0 v1 v2 v3 := (Below.heap_setCell w q u g hq).trans h
theorem B4.belowAll (h : B4 w g t v0 v1 v2 v3) (hb : Below w.heap.size w w') : B4 w' g t v0 v1 v2 v3 := (hb.block g h.lt).trans h
end

set_option maxHeartbeats 400000 in
theorem ris_any (s : ByteArray) (i : Nat) (p : Int) (b : Bool) (c : Int) (w : World) (_hs : s.size ≤ maxLen) (_hi : i ≤ s.size) (hc : 0 ≤ c) :
  Calls Tryz.prog 106 #[rdV s i p b, .int .u8 c] w fun e w' => e = .returned (.bool (isB s i c)) ∧ Below w.heap.size w w' := by
 unfold maxLen at _hs
 rw [rdV_eq]
 by_cases _hi : i < s.size
 ·have hd : decide ((i : Int) < (s.size : Int)) = true := by simpa using _hi
  go_enter Tryz.func106, Tryz.ntmps106
  go_wp2_with fail
  go_ret
  refine ⟨ret_bool ?_, below_alloc _ _⟩
  unfold isB
  rw [bt_in _hi]
  exact (Bool.beq_eq_decide_eq _ _)
 ·have hd : decide ((i : Int) < (s.size : Int)) = false := by simpa using _hi
  go_enter Tryz.func106, Tryz.ntmps106
  go_wp2_with fail
  go_ret
  refine ⟨ret_bool ?_, below_alloc _ _⟩
  unfold isB
  rw [bt_out _hi]
  symm
  rw [decide_eq_false_iff_not]
  omega

def digV (s : ByteArray) (i : Nat) : Value := .tuple #[.int .u64 (if dig s i then bt s i - 48 else 0), .bool (dig s i)]
theorem digV_yes {s : ByteArray} {i : Nat} (h : dig s i = true) : digV s i = .tuple #[.int .u64 (bt s i - 48), .bool true] := by rw [digV, h]; rfl
theorem digV_no {s : ByteArray} {i : Nat} (h : dig s i = false) : digV s i = .tuple #[.int .u64 0, .bool false] := by rw [digV, h]; rfl
set_option maxHeartbeats 400000 in
theorem rdigit_any (s : ByteArray) (i : Nat) (p : Int) (b : Bool) (w : World) (_hs : s.size ≤ maxLen) (_hi : i ≤ s.size) :
  Calls Tryz.prog 105 #[rdV s i p b] w fun e w' => e = .returned (digV s i) ∧ Below w.heap.size w w' := by
 unfold maxLen at _hs
 rw [rdV_eq]
 by_cases _hi : i < s.size
 ·have hd : decide ((i : Int) < (s.size : Int)) = true := by simpa using _hi
  by_cases h48 : 48 ≤ (s[i].toNat : Int)
  ·have hd2 : decide (48 ≤ (s[i].toNat : Int)) = true := by simpa using h48
   by_cases h57 : (s[i].toNat : Int) ≤ 57
   ·have HD : Hid (dig s i = true) := by show _ = _; unfold dig; rw [bt_in _hi]; simp [h48, h57]
    have hd3 : decide ((s[i].toNat : Int) ≤ 57) = true := by simpa using h57
    go_enter Tryz.func105, Tryz.ntmps105
    go_wp2_with fail
    go_ret2
    exact ⟨by rw [digV_yes HD.out, bt_in _hi]; rfl, below_alloc _ _⟩
   ·have HD : Hid (dig s i = false) := by show _ = _; unfold dig; rw [bt_in _hi]; simp; omega
    have hd3 : decide ((s[i].toNat : Int) ≤ 57) = false := by simpa using h57
    go_enter Tryz.func105, Tryz.ntmps105
    go_wp2_with fail
    go_ret2
    exact ⟨by rw [digV_no HD.out]; rfl, below_alloc _ _⟩
  ·have HD : Hid (dig s i = false) := by show _ = _; unfold dig; rw [bt_in _hi]; simp; omega
   have hd2 : decide (48 ≤ (s[i].toNat : Int)) = false := by simpa using h48
   go_enter Tryz.func105, Tryz.ntmps105
   go_wp2_with fail
   go_ret2
   exact ⟨by rw [digV_no HD.out]; rfl, below_alloc _ _⟩
 ·have HD : Hid (dig s i = false) := by show _ = _; unfold dig; rw [bt_out _hi]; rfl
  have hd : decide ((i : Int) < (s.size : Int)) = false := by simpa using _hi
  go_enter Tryz.func105, Tryz.ntmps105
  go_wp2_with fail
  go_ret2
  exact ⟨by rw [digV_no HD.out]; rfl, below_alloc _ _⟩

/-- sign: where it stands afterwards. -/
def sgn (s : ByteArray) (c : Int) (i : Nat) (b : Bool) : Nat × Bool := if b || !isB s i c then (i, true) else (i + 1, false)
theorem two_alloc (w : World) (o o' : Obj) : Below w.heap.size w ((w.alloc o).alloc o') := (below_alloc _ _).trans ((below_alloc _ _).mono (by simp))
abbrev put4 (w : World) (g : Nat) (v0 v1 v2 v3 : Value) : World := (((w.setCell ⟨g, 0, none⟩ v0).setCell ⟨g, 1, none⟩ v1).setCell ⟨g, 2, none⟩ v2).setCell ⟨g, 3, none⟩ v3
abbrev put3 (w : World) (g : Nat) (v0 v1 v2 : Value) : World := ((w.setCell ⟨g, 0, none⟩ v0).setCell ⟨g, 1, none⟩ v1).setCell ⟨g, 2, none⟩ v2
theorem B4.put {w : World} {g : Nat} {t : TypeId} {v0 v1 v2 v3 : Value} (h : B4 w g t v0 v1 v2 v3) (u0 u1 u2 u3 : Value) : B4 (put4 w g u0 u1 u2 u3) g t u0 u1 u2 u3 := (((h.set0 u0).set1 u1).set2 u2).set3 u3
theorem B4.far4 {w : World} {g g' : Nat} {t : TypeId} {v0 v1 v2 v3 : Value} (h : B4 w g t v0 v1 v2 v3) (hg : g ≠ g') (u0 u1 u2 u3 : Value) : B4 (put4 w g' u0 u1 u2 u3) g t v0 v1 v2 v3 :=
 (((h.far (q := ⟨g', 0, none⟩) hg u0).far (q := ⟨g', 1, none⟩) hg u1).far (q := ⟨g', 2, none⟩) hg u2).far (q := ⟨g', 3, none⟩) hg u3
theorem B4.far3 {w : World} {g g' : Nat} {t : TypeId} {v0 v1 v2 v3 : Value} (h : B4 w g t v0 v1 v2 v3) (hg : g ≠ g') (u0 u1 u2 : Value) : B4 (put3 w g' u0 u1 u2) g t v0 v1 v2 v3 :=
 ((h.far (q := ⟨g', 0, none⟩) hg u0).far (q := ⟨g', 1, none⟩) hg u1).far (q := ⟨g', 2, none⟩) hg u2
theorem Bx.put {w : World} {g : Nat} {t : TypeId} {v0 v1 v2 : Value} (h : Bx w g t v0 v1 v2) (u0 u1 u2 : Value) : Bx (put3 w g u0 u1 u2) g t u0 u1 u2 := ((h.set0 u0).set1 u1).set2 u2
theorem Bx.far3 {w : World} {g g' : Nat} {t : TypeId} {v0 v1 v2 : Value} (h : Bx w g t v0 v1 v2) (hg : g ≠ g') (u0 u1 u2 : Value) : Bx (put3 w g' u0 u1 u2) g t v0 v1 v2 :=
 ((h.far (q := ⟨g', 0, none⟩) hg u0).far (q := ⟨g', 1, none⟩) hg u1).far (q := ⟨g', 2, none⟩) hg u2
theorem Bx.far4 {w : World} {g g' : Nat} {t : TypeId} {v0 v1 v2 : Value} (h : Bx w g t v0 v1 v2) (hg : g ≠ g') (u0 u1 u2 u3 : Value) : Bx (put4 w g' u0 u1 u2 u3) g t v0 v1 v2 :=
 (((h.far (q := ⟨g', 0, none⟩) hg u0).far (q := ⟨g', 1, none⟩) hg u1).far (q := ⟨g', 2, none⟩) hg u2).far (q := ⟨g', 3, none⟩) hg u3
theorem below_put4 {B : Nat} {a w : World} (h : Below B a w) {g : Nat} (hg : B ≤ g) (u0 u1 u2 u3 : Value) : Below B a (put4 w g u0 u1 u2 u3) :=
 (((h.setCell (p := ⟨g, 0, none⟩) hg u0).setCell (p := ⟨g, 1, none⟩) hg u1).setCell (p := ⟨g, 2, none⟩) hg u2).setCell (p := ⟨g, 3, none⟩) hg u3
theorem below_put3 {B : Nat} {a w : World} (h : Below B a w) {g : Nat} (hg : B ≤ g) (u0 u1 u2 : Value) : Below B a (put3 w g u0 u1 u2) :=
 ((h.setCell (p := ⟨g, 0, none⟩) hg u0).setCell (p := ⟨g, 1, none⟩) hg u1).setCell (p := ⟨g, 2, none⟩) hg u2
/-- The two blocks with which a reader's method begins: itself, and the result. -/
theorem rr_start (w : World) (s : ByteArray) (i p : Int) (b : Bool) (W : World) (hW : W = (w.alloc (.cells #[.string s, .int .i64 i, .int .i64 p, .bool b] 138)).alloc (.cells #[.string ⟨#[]⟩, .int .i64 0, .int .i64 0, .bool false] 138)) :
  B4 W w.heap.size 138 (.string s) (.int .i64 i) (.int .i64 p) (.bool b) ∧ B4 W (w.heap.size + 1) 138 (.string ⟨#[]⟩) (.int .i64 0) (.int .i64 0) (.bool false) ∧ Below w.heap.size w W := by
 subst hW
 have h2 := B4.new (w.alloc (.cells #[.string s, .int .i64 i, .int .i64 p, .bool b] 138)) 138 (.string ⟨#[]⟩) (.int .i64 0) (.int .i64 0) (.bool false)
 have hs : (w.alloc (.cells #[.string s, .int .i64 i, .int .i64 p, .bool b] 138)).heap.size = w.heap.size + 1 := by simp
 rw [hs] at h2
 exact ⟨(B4.new w 138 _ _ _ _).alloc _, h2, two_alloc _ _ _⟩

set_option maxHeartbeats 1000000 in
theorem rsign_any (s : ByteArray) (i : Nat) (p : Int) (b : Bool) (c : Int) (w : World) (hs : s.size ≤ maxLen) (hi : i ≤ s.size) (hc : 0 ≤ c) :
  Calls Tryz.prog 108 #[rdV s i p b, .int .u8 c] w fun e w' => e = .returned (rdV s (sgn s c i b).1 p (sgn s c i b).2) ∧ Below w.heap.size w w' := by
 have hs2 := hs
 unfold maxLen at hs2
 obtain ⟨W, hW⟩ : ∃ W, W = (w.alloc (.cells #[.string s, .int .i64 i, .int .i64 p, .bool b] 138)).alloc (.cells #[.string ⟨#[]⟩, .int .i64 0, .int .i64 0, .bool false] 138) := ⟨_, rfl⟩
 obtain ⟨hx, hr, hb⟩ := rr_start w s i p b W hW
 have HW := Lib.hid hW
 clear hW
 cases b
 ·cases hy : isB s i c
  ·have HY := Lib.hid hy
   have HG : Hid (sgn s c i false = (i, true)) := by show _ = _; rw [sgn, hy]; rfl
   clear hy
   rw [rdV_eq]
   go_enter Tryz.func108, Tryz.ntmps108
   go_wp2_with fail
   rw [← HW.out]
   refine (ris_any s i p false c _ hs hi hc).mono ?_
   rintro e w1 ⟨rfl, hb1⟩
   rw [HY.out]
   have hx1 := hx.belowAll hb1
   have hr1 := hr.belowAll hb1
   have hb2 : Below w.heap.size w w1 := hb.trans (hb1.mono hb.size)
   have q0 := hx1.c0
   have q1 := hx1.c1
   have q2 := hx1.c2
   have q3 := hx1.c3
   have qf := hx1.fz
   have z0 := hr1.c0
   have z1 := hr1.c1
   have z2 := hr1.c2
   have z3 := hr1.c3
   have zf := hr1.fz
   go_wp2_with fail
   have h9 := ((hr1.far (q := ⟨w.heap.size, 3, none⟩) (by simp) (.bool true)).put (.string s) (.int .i64 i) (.int .i64 p) (.bool true))
   refine bodyPost_ret (v := rdV s i p true) (by simp [results, Tryz.results108, go_sem, h9.c0, h9.c1, h9.c2, h9.c3, rdV]) rfl ?_
   rw [HG.out]
   exact ⟨rfl, below_put4 (hb2.setCell (p := ⟨w.heap.size, 3, none⟩) (Nat.le_refl _) _) (by omega) _ _ _ _⟩
  ·have hlt := isB_lt hc hy
   have HY := Lib.hid hy
   have HG : Hid (sgn s c i false = (i + 1, false)) := by show _ = _; rw [sgn, hy]; rfl
   clear hy
   rw [rdV_eq]
   go_enter Tryz.func108, Tryz.ntmps108
   go_wp2_with fail
   rw [← HW.out]
   refine (ris_any s i p false c _ hs hi hc).mono ?_
   rintro e w1 ⟨rfl, hb1⟩
   rw [HY.out]
   have hx1 := hx.belowAll hb1
   have hr1 := hr.belowAll hb1
   have hb2 : Below w.heap.size w w1 := hb.trans (hb1.mono hb.size)
   have q0 := hx1.c0
   have q1 := hx1.c1
   have q2 := hx1.c2
   have q3 := hx1.c3
   have qf := hx1.fz
   have z0 := hr1.c0
   have z1 := hr1.c1
   have z2 := hr1.c2
   have z3 := hr1.c3
   have zf := hr1.fz
   go_wp2_with fail
   have h9 := ((hr1.far (q := ⟨w.heap.size, 1, none⟩) (by simp) (.int .i64 ((i : Int) + 1))).put (.string s) (.int .i64 ((i : Int) + 1)) (.int .i64 p) (.bool false))
   refine bodyPost_ret (v := rdV s (i + 1 : Nat) p false) (by simp [results, Tryz.results108, go_sem, h9.c0, h9.c1, h9.c2, h9.c3, rdV]) rfl ?_
   rw [HG.out]
   exact ⟨rfl, below_put4 (hb2.setCell (p := ⟨w.heap.size, 1, none⟩) (Nat.le_refl _) _) (by omega) _ _ _ _⟩
 ·have HG : Hid (sgn s c i true = (i, true)) := by show _ = _; rfl
  rw [rdV_eq]
  go_enter Tryz.func108, Tryz.ntmps108
  go_wp2_with fail
  refine bodyPost_ret (v := rdV s i p true) (by simp [results, Tryz.results108, go_sem, rdV]) rfl ?_
  rw [HG.out]
  exact ⟨rfl, two_alloc _ _ _⟩

def asM : Int → Int → Bool := fun sa => if sa = 0 then mAny else if sa = 1 then mChan else mEv
set_option maxHeartbeats 1000000 in
theorem rmay_any (k sa : Int) (hk : k ≤ 13) (ha : sa = 0 ∨ sa = 1 ∨ sa = 2) (w : World) : Calls Tryz.prog 135 #[.int .i64 k, .int .i64 sa] w fun e w' => e = .returned (.bool (asM sa k)) ∧ w = w' := by
 rcases ha with rfl | rfl | rfl
 all_goals
  go_enter Tryz.func135, Tryz.ntmps135
  go_wp2_with fail
  all_goals go_ret
  all_goals refine ⟨ret_bool ?_, rfl⟩
  all_goals (rw [Bool.eq_iff_iff]; simp_all [asM, mAny, mChan, mEv, isEv])
  try omega

/-- What a Kind needs: at least, at most, as what the first one, and the others, stand. -/
def needs (k : Nat) : Nat × Nat × Int × Int := match k with
 | 3 => (2, 2, 0, 0)
 | 5 => (2, 2, 1, 0)
 | 6 => (1, 1, 1, 0)
 | 7 => (1, 1, 0, 0)
 | 9 => (0, 16, 2, 2)
 | 10 => (1, 9, 2, 0)
 | 11 => (0, 8, 0, 0)
 | 12 => (0, 8, 0, 0)
 | _ => (0, 0, 0, 0)
set_option maxHeartbeats 1000000 in
theorem rneeds_any (k : Nat) (hk : k < 14) (w : World) : Calls Tryz.prog 111 #[.int .i64 (k : Int)] w fun e w' => e = .returned (.tuple #[.int .i64 ((needs k).1 : Nat), .int .i64 ((needs k).2.1 : Nat), .int .i64 (needs k).2.2.1, .int .i64 (needs k).2.2.2]) ∧ w = w' := by
 have h : k = 0 ∨ k = 1 ∨ k = 2 ∨ k = 3 ∨ k = 4 ∨ k = 5 ∨ k = 6 ∨ k = 7 ∨ k = 8 ∨ k = 9 ∨ k = 10 ∨ k = 11 ∨ k = 12 ∨ k = 13 := by omega
 rcases h with rfl | rfl | rfl | rfl | rfl | rfl | rfl | rfl | rfl | rfl | rfl | rfl | rfl | rfl
 all_goals
  go_enter Tryz.func111, Tryz.ntmps111
  go_wp2_with fail
  exact bodyPost_ret (v := _) (by simp [results, Tryz.results111, go_sem, needs]) rfl ⟨rfl, rfl⟩
end Go.Proofs.YtjldbbcdhdfliaaGreatDoor
/-
 Walks over the reference of layer 5: the reader's number.
-/
namespace Go.Proofs.YtjldbbcdhdfliaaGreatDoor
open Go.RowKit

theorem num_first {s : ByteArray} {most i : Nat} (hd : dig s i = true) : num s most i = if (bt s i - 48).toNat = 0 then .ok (0, i + 1) else numGo s most (s.size - (i + 1)) (i + 1) (bt s i - 48).toNat := by
 have hlt := dig_lt hd
 unfold num
 rw [hd, if_pos rfl, show s.size - i = (s.size - (i + 1)) + 1 from by omega, numGo, hd, if_pos rfl]
 dsimp only
 rw [if_neg (by omega), Nat.zero_mul, Nat.zero_add]
theorem numGo_step {s : ByteArray} {most j m : Nat} (hd : dig s j = true) (hm : 0 < m) : numGo s most (s.size - j) j m = if (most - (bt s j - 48).toNat) / 10 < m then .error j else numGo s most (s.size - (j + 1)) (j + 1) (m * 10 + (bt s j - 48).toNat) := by
 have hlt := dig_lt hd
 rw [show s.size - j = (s.size - (j + 1)) + 1 from by omega, numGo, hd, if_pos rfl]
 dsimp only
 split
 ·rfl
 ·rw [if_neg (by omega)]
theorem numGo_stop {s : ByteArray} {most j m : Nat} (hd : dig s j = false) : numGo s most (s.size - j) j m = .ok (m, j) := by
 cases s.size - j with
 | zero => rfl
 | succ f => rw [numGo, hd]; rfl

/-- number: an error where the reader is bad, or the first digit is too small. -/
def rnum (s : ByteArray) (most first i : Nat) (b : Bool) : Except Nat (Nat × Nat) :=
 if b then .error i else if dig s i && decide ((bt s i - 48).toNat < first) then .error i else num s most i
/-- How a reader's call ends. -/
def RnEnds (s : ByteArray) (p : Int) (w : World) (r : Except Nat (Nat × Nat)) (e : Ending) (w' : World) : Prop :=
 match r with
 | .error j => e = .returned (.tuple #[rdV s j p true, .int .u64 0]) ∧ Below w.heap.size w w'
 | .ok (n, j) => e = .returned (.tuple #[rdV s j p false, .int .u64 n]) ∧ Below w.heap.size w w'

def cellI (w : World) (g o : Nat) : Nat := match w.cell? ⟨g, o, none⟩ with | some (.int _ i) => i.toNat | _ => 0

set_option maxRecDepth 100000 in
set_option maxHeartbeats 2000000 in
theorem rnumber_any (s : ByteArray) (i most first : Nat) (p : Int) (b : Bool) (w : World) (hs : s.size ≤ maxLen) (hi : i ≤ s.size) (hm0 : 9 ≤ most) (hm : most ≤ 9223372036854775808) (hf : first ≤ 1) :
  Calls Tryz.prog 107 #[rdV s i p b, .int .u64 most, .int .u64 first] w (RnEnds s p w (rnum s most first i b)) := by
 have hs2 := hs
 unfold maxLen at hs2
 obtain ⟨W, hW⟩ : ∃ W, W = (w.alloc (.cells #[.string s, .int .i64 i, .int .i64 p, .bool b] 138)).alloc (.cells #[.string ⟨#[]⟩, .int .i64 0, .int .i64 0, .bool false] 138) := ⟨_, rfl⟩
 obtain ⟨hx, hr, hb⟩ := rr_start w s i p b W hW
 have HW := Lib.hid hW
 clear hW
 have hbad : b = true ∨ (b = false ∧ dig s i = false) ∨ (b = false ∧ dig s i = true ∧ (bt s i - 48).toNat < first) ∨ (b = false ∧ dig s i = true ∧ first ≤ (bt s i - 48).toNat) := by
  cases b <;> cases hdd : dig s i <;> simp <;> omega
 rcases hbad with rfl | ⟨rfl, hd⟩ | ⟨rfl, hd, hlt⟩ | ⟨rfl, hd, hge⟩
 ·have HG : Hid (rnum s most first i true = .error i) := rfl
  rw [rdV_eq]
  go_enter Tryz.func107, Tryz.ntmps107
  go_wp2_with fail
  rw [← HW.out]
  refine (rdigit_any s i p true _ hs hi).mono ?_
  rintro e w1 ⟨rfl, hb1⟩
  have hx1 := hx.belowAll hb1
  have hr1 := hr.belowAll hb1
  have hb2 : Below w.heap.size w w1 := hb.trans (hb1.mono hb.size)
  have q0 := hx1.c0
  have q1 := hx1.c1
  have q2 := hx1.c2
  have q3 := hx1.c3
  have qf := hx1.fz
  have z0 := hr1.c0
  have z1 := hr1.c1
  have z2 := hr1.c2
  have z3 := hr1.c3
  have zf := hr1.fz
  rw [digV]
  generalize (if dig s i then bt s i - 48 else 0) = dv
  generalize dig s i = db
  go_wp2_with fail
  have h9 := ((hr1.far (q := ⟨w.heap.size, 3, none⟩) (by simp) (.bool true)).put (.string s) (.int .i64 i) (.int .i64 p) (.bool true))
  refine bodyPost_ret (v := .tuple #[rdV s i p true, .int .u64 0]) (by simp [results, Tryz.results107, go_sem, h9.c0, h9.c1, h9.c2, h9.c3, rdV]) rfl ?_
  rw [HG.out]
  exact ⟨rfl, below_put4 (hb2.setCell (p := ⟨w.heap.size, 3, none⟩) (Nat.le_refl _) _) (by omega) _ _ _ _⟩
 ·have HG : Hid (rnum s most first i false = .error i) := by show _ = _; unfold rnum num; rw [hd]; rfl
  have HD := Lib.hid (digV_no hd)
  clear hd
  rw [rdV_eq]
  go_enter Tryz.func107, Tryz.ntmps107
  go_wp2_with fail
  rw [← HW.out]
  refine (rdigit_any s i p false _ hs hi).mono ?_
  rw [HD.out]
  rintro e w1 ⟨rfl, hb1⟩
  have hx1 := hx.belowAll hb1
  have hr1 := hr.belowAll hb1
  have hb2 : Below w.heap.size w w1 := hb.trans (hb1.mono hb.size)
  have q0 := hx1.c0
  have q1 := hx1.c1
  have q2 := hx1.c2
  have q3 := hx1.c3
  have qf := hx1.fz
  have z0 := hr1.c0
  have z1 := hr1.c1
  have z2 := hr1.c2
  have z3 := hr1.c3
  have zf := hr1.fz
  go_wp2_with fail
  have h9 := ((hr1.far (q := ⟨w.heap.size, 3, none⟩) (by simp) (.bool true)).put (.string s) (.int .i64 i) (.int .i64 p) (.bool true))
  refine bodyPost_ret (v := .tuple #[rdV s i p true, .int .u64 0]) (by simp [results, Tryz.results107, go_sem, h9.c0, h9.c1, h9.c2, h9.c3, rdV]) rfl ?_
  rw [HG.out]
  exact ⟨rfl, below_put4 (hb2.setCell (p := ⟨w.heap.size, 3, none⟩) (Nat.le_refl _) _) (by omega) _ _ _ _⟩
 ·have HG : Hid (rnum s most first i false = .error i) := by show _ = _; unfold rnum; rw [hd]; simp [hlt]
  have hbt := dig_bt hd
  have HD := Lib.hid (digV_yes hd)
  clear hd
  obtain ⟨d, hdd⟩ : ∃ d : Nat, bt s i - 48 = (d : Int) := ⟨(bt s i - 48).toNat, by omega⟩
  rw [hdd] at HD hlt
  have hd1 : decide ((d : Int) < (first : Int)) = true := by simp; omega
  rw [rdV_eq]
  go_enter Tryz.func107, Tryz.ntmps107
  go_wp2_with fail
  rw [← HW.out]
  refine (rdigit_any s i p false _ hs hi).mono ?_
  rw [HD.out]
  rintro e w1 ⟨rfl, hb1⟩
  have hx1 := hx.belowAll hb1
  have hr1 := hr.belowAll hb1
  have hb2 : Below w.heap.size w w1 := hb.trans (hb1.mono hb.size)
  have q0 := hx1.c0
  have q1 := hx1.c1
  have q2 := hx1.c2
  have q3 := hx1.c3
  have qf := hx1.fz
  have z0 := hr1.c0
  have z1 := hr1.c1
  have z2 := hr1.c2
  have z3 := hr1.c3
  have zf := hr1.fz
  go_wp2_with fail
  have h9 := ((hr1.far (q := ⟨w.heap.size, 3, none⟩) (by simp) (.bool true)).put (.string s) (.int .i64 i) (.int .i64 p) (.bool true))
  refine bodyPost_ret (v := .tuple #[rdV s i p true, .int .u64 0]) (by simp [results, Tryz.results107, go_sem, h9.c0, h9.c1, h9.c2, h9.c3, rdV]) rfl ?_
  rw [HG.out]
  exact ⟨rfl, below_put4 (hb2.setCell (p := ⟨w.heap.size, 3, none⟩) (Nat.le_refl _) _) (by omega) _ _ _ _⟩
 ·have hG : rnum s most first i false = num s most i := by unfold rnum; rw [hd]; simp; omega
  rw [num_first hd] at hG
  have HG := Lib.hid hG
  have hbt := dig_bt hd
  have hlt := dig_lt hd
  have HD := Lib.hid (digV_yes hd)
  clear hd hG
  obtain ⟨d, hdd⟩ : ∃ d : Nat, bt s i - 48 = (d : Int) := ⟨(bt s i - 48).toNat, by omega⟩
  rw [hdd] at HD hge HG
  rw [Int.toNat_natCast] at HG hge
  have hd9 : d ≤ 9 := by omega
  have hd1 : decide (d < first) = false := by simp; omega
  have hd2 : decide (most < d) = false := by simp; omega
  rw [rdV_eq]
  go_enter Tryz.func107, Tryz.ntmps107
  go_wp2_with fail
  rw [← HW.out]
  refine (rdigit_any s i p false _ hs hi).mono ?_
  rw [HD.out]
  rintro e w1 ⟨rfl, hb1⟩
  have hx1 := hx.belowAll hb1
  have hr1 := hr.belowAll hb1
  have hb2 : Below w.heap.size w w1 := hb.trans (hb1.mono hb.size)
  have q0 := hx1.c0
  have q1 := hx1.c1
  have q2 := hx1.c2
  have q3 := hx1.c3
  have qf := hx1.fz
  go_wp2_with fail
  go_loopw [8, 9, 10] (fun _ _ nv wr => ∃ (j m : Nat), nv = .int .u64 m ∧ m ≤ most ∧ j ≤ s.size ∧ rnum s most first i false = (if m = 0 then .ok (0, j) else numGo s most (s.size - j) j m) ∧ B4 wr w.heap.size 138 (.string s) (.int .i64 j) (.int .i64 p) (.bool false) ∧ B4 wr (w.heap.size + 1) 138 (.string ⟨#[]⟩) (.int .i64 0) (.int .i64 0) (.bool false) ∧ Below w.heap.size w wr) (fun _ _ _ wr => s.size - cellI wr w.heap.size 1)
  case atStart => exact ⟨i + 1, d, rfl, by omega, by omega, HG.out, hx1.set1 _, hr1.far (q := ⟨w.heap.size, 1, none⟩) (by simp) _, hb2.setCell (p := ⟨w.heap.size, 1, none⟩) (Nat.le_refl _) _⟩
  case round =>
   clear q0 q1 q2 q3 qf hx1 hr1 hx hr hb hb1 hb2
   obtain ⟨j, m, rfl, hmm, hj, hc, hx1, hr1, hb2⟩ := hrel
   have HC := Lib.hid hc
   clear hc
   have hsz := hb2.size
   have q0 := hx1.c0
   have q1 := hx1.c1
   have q2 := hx1.c2
   have q3 := hx1.c3
   have qf := hx1.fz
   have z0 := hr1.c0
   have z1 := hr1.c1
   have z2 := hr1.c2
   have z3 := hr1.c3
   have zf := hr1.fz
   rcases Nat.eq_zero_or_pos m with rfl | hm1
   ·go_wp2_with fail
    have h9 := hr1.put (.string s) (.int .i64 j) (.int .i64 p) (.bool false)
    refine bodyPost_ret (v := .tuple #[rdV s j p false, .int .u64 0]) (by simp [results, Tryz.results107, go_sem, h9.c0, h9.c1, h9.c2, h9.c3, rdV]) rfl ?_
    rw [HC.out, if_pos trivial]
    exact ⟨rfl, below_put4 hb2 (by omega) _ _ _ _⟩
   ·cases hdj : dig s j
    ·have HS := Lib.hid (numGo_stop (most := most) (m := m) hdj)
     have HDJ := Lib.hid (digV_no hdj)
     clear hdj
     go_wp2_with fail
     refine (rdigit_any s j p false _ hs hj).mono ?_
     rw [HDJ.out]
     rintro e w3 ⟨rfl, hb3⟩
     have hx3 := hx1.belowAll hb3
     have hr3 := hr1.belowAll hb3
     have hb4 := hb2.trans (hb3.mono hsz)
     clear q0 q1 q2 q3 qf z0 z1 z2 z3 zf
     have q0 := hx3.c0
     have q1 := hx3.c1
     have q2 := hx3.c2
     have q3 := hx3.c3
     have z0 := hr3.c0
     have z1 := hr3.c1
     have z2 := hr3.c2
     have z3 := hr3.c3
     have zf := hr3.fz
     go_wp2_with fail
     have h9 := hr3.put (.string s) (.int .i64 j) (.int .i64 p) (.bool false)
     refine bodyPost_ret (v := .tuple #[rdV s j p false, .int .u64 m]) (by simp [results, Tryz.results107, go_sem, h9.c0, h9.c1, h9.c2, h9.c3, rdV]) rfl ?_
     rw [HC.out, if_neg (by omega), HS.out]
     exact ⟨rfl, below_put4 hb4 (by omega) _ _ _ _⟩
    ·have hltj := dig_lt hdj
     have hbtj := dig_bt hdj
     have hstep := numGo_step (most := most) hdj hm1
     have HDJ := Lib.hid (digV_yes hdj)
     clear hdj
     obtain ⟨dj, hdj⟩ : ∃ d : Nat, bt s j - 48 = (d : Int) := ⟨(bt s j - 48).toNat, by omega⟩
     rw [hdj] at HDJ hstep
     rw [Int.toNat_natCast] at hstep
     have hdj9 : dj ≤ 9 := by omega
     have HST := Lib.hid hstep
     clear hstep hdj hbtj
     have hat : cellI wr w.heap.size 1 = j := by unfold cellI; rw [q1]; rfl
     have HAT := Lib.hid hat
     clear hat
     go_wp2_with fail
     refine (rdigit_any s j p false _ hs hj).mono ?_
     rw [HDJ.out]
     rintro e w3 ⟨rfl, hb3⟩
     have hx3 := hx1.belowAll hb3
     have hr3 := hr1.belowAll hb3
     have hb4 := hb2.trans (hb3.mono hsz)
     clear q0 q1 q2 q3 qf z0 z1 z2 z3 zf
     have q0 := hx3.c0
     have q1 := hx3.c1
     have q2 := hx3.c2
     have q3 := hx3.c3
     have qf := hx3.fz
     have z0 := hr3.c0
     have z1 := hr3.c1
     have z2 := hr3.c2
     have z3 := hr3.c3
     have zf := hr3.fz
     rcases Nat.lt_or_ge ((most - dj) / 10) m with hov | hov
     ·go_wp2_with fail
      have h9 := ((hr3.far (q := ⟨w.heap.size, 3, none⟩) (by simp) (.bool true)).put (.string s) (.int .i64 j) (.int .i64 p) (.bool true))
      refine bodyPost_ret (v := .tuple #[rdV s j p true, .int .u64 0]) (by simp [results, Tryz.results107, go_sem, h9.c0, h9.c1, h9.c2, h9.c3, rdV]) rfl ?_
      rw [HC.out, if_neg (by omega), HST.out, if_pos hov]
      exact ⟨rfl, below_put4 (hb4.setCell (p := ⟨w.heap.size, 3, none⟩) (Nat.le_refl _) _) (by omega) _ _ _ _⟩
     ·go_wp2_with fail
      go_roundw
      case rel =>
       refine ⟨j + 1, m * 10 + dj, ?_, by omega, by omega, ?_, hx3.set1 _, hr3.far (q := ⟨w.heap.size, 1, none⟩) (by simp) _, hb4.setCell (p := ⟨w.heap.size, 1, none⟩) (Nat.le_refl _) _⟩
       ·congr 1; omega
       ·rw [HC.out, if_neg (by omega), HST.out, if_neg (by omega), if_neg (by omega)]
      case measure =>
       have h1 := (hx3.set1 (.int .i64 ((j : Int) + 1))).c1
       have : cellI (w3.setCell ⟨w.heap.size, 1, none⟩ (.int .i64 ((j : Int) + 1))) w.heap.size 1 = j + 1 := by unfold cellI; rw [h1]; simp
       rw [this, HAT.out]
       omega
end Go.Proofs.YtjldbbcdhdfliaaGreatDoor
/-
 The reference's word finds what the program's word finds: plain.
-/
namespace Go.Proofs.YtjldbbcdhdfliaaGreatDoor
open Go.RowKit

/-- n bytes from a place on. -/
def sub (s : ByteArray) (st n : Nat) : List UInt8 := (s.extract st (st + n)).toList
theorem toList_extract (s : ByteArray) (a b : Nat) : (s.extract a b).toList = (s.data.toList.drop a).take (b - a) := by
 rw [ByteArray.toList_eq, ByteArray.data_extract, Array.toList_extract, List.extract_eq_take_drop]
theorem sub_eq (s : ByteArray) (st n : Nat) : sub s st n = (s.data.toList.drop st).take n := by
 rw [sub, toList_extract, show st + n - st = n from by omega]
theorem head_eq (k n : Nat) : ((wdB k).extract 0 n).toList = (wdl k).take n := by
 rw [toList_extract]; simp [wdB]
theorem wd_list (k : Nat) : (wdB k).toList = wdl k := by rw [ByteArray.toList_eq]; simp [wdB]
theorem bt_list (s : ByteArray) (i : Nat) (h : i < s.size) : ∃ c, s.data.toList[i]? = some c ∧ bt s i = (c.toNat : Int) := by
 refine ⟨s[i], ?_, bt_in h⟩
 rw [List.getElem?_eq_getElem (by simpa using h)]
 rfl
/-- The word of a Kind is what n bytes say. -/
def full (s : ByteArray) (st n : Nat) (m : Int → Bool) (k : Nat) : Bool := hasW k && m k && ((wdB k).toList == (s.extract st (st + n)).toList)
theorem hasW_size (k : Nat) (hk : k < 14) : hasW k = decide (0 < (wdl k).length) := by
 have h : k = 0 ∨ k = 1 ∨ k = 2 ∨ k = 3 ∨ k = 4 ∨ k = 5 ∨ k = 6 ∨ k = 7 ∨ k = 8 ∨ k = 9 ∨ k = 10 ∨ k = 11 ∨ k = 12 ∨ k = 13 := by omega
 rcases h with rfl | rfl | rfl | rfl | rfl | rfl | rfl | rfl | rfl | rfl | rfl | rfl | rfl | rfl <;> rfl
theorem prefix_free : ∀ k k' : Fin 14, 0 < (wdl k').length → (wdl k).take (wdl k').length = wdl k' → k = k' := by decide
theorem cand_sub {s : ByteArray} {st n k : Nat} {m : Int → Bool} (h : cand s st n m k = true) : sub s st (n + 1) = (wdl k).take (n + 1) ∧ n < (wdl k).length ∧ m k = true ∧ st + n < s.size := by
 have h1 := cand_lt h
 unfold cand at h
 simp only [Bool.and_eq_true, beq_iff_eq, decide_eq_true_eq] at h
 obtain ⟨⟨⟨h2, h3⟩, h4⟩, h5⟩ := h
 have h6 : n < (wdl k).length := h2
 refine ⟨?_, h6, h3, h1.1⟩
 rw [head_eq] at h4
 change _ = sub s st n at h4
 rw [sub_eq] at h4 ⊢
 unfold isB at h5
 rw [decide_eq_true_eq] at h5
 obtain ⟨c, hc1, hc2⟩ := bt_list s (st + n) h1.1
 obtain ⟨d, hd1, hd2⟩ := bt_list (wdB k) n h2
 have hcd : c = d := by
  apply UInt8.toNat_inj.1
  have : (c.toNat : Int) = d.toNat := by rw [← hc2, ← hd2]; exact h5
  exact Int.ofNat_inj.1 this
 subst hcd
 have e1 : (s.data.toList.drop st)[n]? = some c := by rw [List.getElem?_drop]; exact hc1
 have e2 : (wdl k)[n]? = some c := by simpa [wdB] using hd1
 rw [List.take_add_one, List.take_add_one, e1, e2, ← h4]
theorem full_sub {s : ByteArray} {st n k : Nat} {m : Int → Bool} : full s st n m k = true ↔ hasW k = true ∧ m k = true ∧ wdl k = sub s st n := by
 unfold full
 simp only [Bool.and_eq_true, beq_iff_eq, wd_list]
 exact ⟨fun h => ⟨h.1.1, h.1.2, h.2⟩, fun h => ⟨⟨h.1, h.2.1⟩, h.2.2⟩⟩

def findF (s : ByteArray) (st n : Nat) (m : Int → Bool) : Nat → Nat → Option Nat
 | 0, _ => none
 | f + 1, j => if full s st n m j then some j else findF s st n m f (j + 1)
def anyC (s : ByteArray) (st n : Nat) (m : Int → Bool) : Nat → Nat → Bool
 | 0, _ => false
 | f + 1, j => cand s st n m j || anyC s st n m f (j + 1)
def rwGo (s : ByteArray) (st : Nat) (m : Int → Bool) : Nat → Nat → Except Nat (Nat × Nat)
 | 0, n => .error (st + n)
 | f + 1, n => match findF s st n m 13 1 with
  | some k => .ok (k, st + n)
  | none => if anyC s st n m 13 1 then rwGo s st m f (n + 1) else .error (st + n)
def rword (s : ByteArray) (st : Nat) (m : Int → Bool) : Except Nat (Nat × Nat) := rwGo s st m 8 0

theorem findF_none {s : ByteArray} {st n : Nat} {m : Int → Bool} : ∀ {f j : Nat}, (∀ k, j ≤ k → k < j + f → full s st n m k = false) → findF s st n m f j = none
 | 0, j, h => rfl
 | f + 1, j, h => by
  rw [findF, h j (by omega) (by omega)]
  exact findF_none fun k h1 h2 => h k (by omega) (by omega)
theorem findF_some {s : ByteArray} {st n : Nat} {m : Int → Bool} : ∀ {f j k : Nat}, full s st n m k = true → j ≤ k → k < j + f → (∀ k', k' < 14 → full s st n m k' = true → k' = k) → j + f ≤ 14 → findF s st n m f j = some k
 | 0, j, k, h, h1, h2, hu, hf => by omega
 | f + 1, j, k, h, h1, h2, hu, hf => by
  rw [findF]
  cases hj : full s st n m j with
  | true => rw [hu j (by omega) hj]; rfl
  | false =>
   have : j ≠ k := fun e => by rw [e, h] at hj; cases hj
   exact findF_some h (by omega) (by omega) hu (by omega)
theorem findC_none {s : ByteArray} {st n : Nat} {m : Int → Bool} : ∀ {f j : Nat}, findC s st n m f j = none → ∀ k, j ≤ k → k < j + f → cand s st n m k = false
 | 0, j, h, k, h1, h2 => by omega
 | f + 1, j, h, k, h1, h2 => by
  rw [findC] at h
  cases hj : cand s st n m j with
  | true => rw [hj, if_pos rfl] at h; cases h
  | false =>
   rw [hj, if_neg (by simp)] at h
   rcases Nat.eq_or_lt_of_le h1 with rfl | h3
   ·exact hj
   ·exact findC_none h k (by omega) (by omega)
theorem anyC_false {s : ByteArray} {st n : Nat} {m : Int → Bool} : ∀ {f j : Nat}, (∀ k, j ≤ k → k < j + f → cand s st n m k = false) → anyC s st n m f j = false
 | 0, j, h => rfl
 | f + 1, j, h => by
  rw [anyC, h j (by omega) (by omega), anyC_false fun k h1 h2 => h k (by omega) (by omega)]
  rfl
theorem anyC_true {s : ByteArray} {st n : Nat} {m : Int → Bool} : ∀ {f j k : Nat}, cand s st n m k = true → j ≤ k → k < j + f → anyC s st n m f j = true
 | 0, j, k, h, h1, h2 => by omega
 | f + 1, j, k, h, h1, h2 => by
  rw [anyC]
  rcases Nat.eq_or_lt_of_le h1 with rfl | h3
  ·rw [h]; rfl
  ·rw [anyC_true h (by omega) (by omega), Bool.or_true]

theorem rwGo_eq {s : ByteArray} {st : Nat} {m : Int → Bool} : ∀ {f n : Nat}, 7 ≤ f + n → (∀ k, k < 14 → full s st n m k = false) → rwGo s st m (f + 1) n = wordGo s st m f n
 | 0, n, hf, hn => by
  rw [rwGo, wordGo, findF_none fun k _ h => hn k (by omega)]
  dsimp only
  rw [anyC_false]
  ·rfl
  ·intro k _ _
   cases hc : cand s st n m k with
   | false => rfl
   | true =>
    have := (cand_sub hc).2.1
    have := wdl_len k
    omega
 | f + 1, n, hf, hn => by
  rw [rwGo, findF_none fun k _ h => hn k (by omega)]
  dsimp only
  rw [wordGo]
  cases hc : findC s st n m 14 0 with
  | none =>
   dsimp only
   have hno := findC_none hc
   rw [anyC_false fun k _ _ => hno k (by omega) (by omega)]
   rfl
  | some k =>
   dsimp only
   have h1 := findC_some hc
   obtain ⟨c1, c2, c3, c4⟩ := cand_sub h1.1
   have hk0 : 1 ≤ k := by
    rcases Nat.eq_zero_or_pos k with rfl | h
    ·simp [wdl] at c2
    ·exact h
   rw [anyC_true h1.1 hk0 (by omega), if_pos rfl]
   by_cases he : n + 1 = (wdB k).size
   ·rw [if_pos he]
    have he' : n + 1 = (wdl k).length := he
    have hfull : full s st (n + 1) m k = true := full_sub.2 ⟨by rw [hasW_size k (by omega)]; simpa using (by omega), c3, by rw [c1, he', List.take_length]⟩
    rw [rwGo, findF_some hfull hk0 (by omega) ?_ (by omega)]
    ·rfl
    ·intro k' hk' hf'
     have h2 := full_sub.1 hf'
     have h3 := full_sub.1 hfull
     have hlen : 0 < (wdl k').length := by have := h2.1; rw [hasW_size k' hk'] at this; simpa using this
     have := prefix_free ⟨k, by omega⟩ ⟨k', hk'⟩ hlen (by
      show (wdl k).take (wdl k').length = wdl k'
      rw [h2.2.2, ← h3.2.2, List.take_length])
     exact (Fin.mk.inj this).symm
   ·rw [if_neg he]
    refine rwGo_eq (by omega) fun k' hk' => ?_
    cases hf' : full s st (n + 1) m k' with
    | false => rfl
    | true =>
     exfalso
     have h2 := full_sub.1 hf'
     have hlen : 0 < (wdl k').length := by have := h2.1; rw [hasW_size k' hk'] at this; simpa using this
     have hl' : (wdl k').length = n + 1 := by rw [h2.2.2, c1, List.length_take]; omega
     have := prefix_free ⟨k, by omega⟩ ⟨k', hk'⟩ hlen (by
      show (wdl k).take (wdl k').length = wdl k'
      rw [hl', ← c1, h2.2.2])
     have := Fin.mk.inj this
     subst this
     exact he hl'.symm
theorem rword_eq (s : ByteArray) (st : Nat) (m : Int → Bool) : rword s st m = word s st m := by
 refine rwGo_eq (by omega) fun k hk => ?_
 cases hf : full s st 0 m k with
 | false => rfl
 | true =>
  have h2 := full_sub.1 hf
  have := h2.1
  rw [hasW_size k hk, h2.2.2, sub_eq] at this
  simp at this
end Go.Proofs.YtjldbbcdhdfliaaGreatDoor
