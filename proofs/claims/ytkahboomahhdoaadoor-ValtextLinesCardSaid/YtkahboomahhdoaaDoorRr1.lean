/-
  Walks over the reference of layer 5: the reader's is, sign, digit, may, needs, number.
-/
import Derived.Test.YtkahboomahhdoaaDoorRefY
namespace Go.Proofs.YtkahboomahhdoaaDoor
open Go.RowKit

/-- The reference's reader. -/
def rdV (s : ByteArray) (i p : Int) (b : Bool) : Value := .agg #[.string s, .int .i64 i, .int .i64 p, .bool b]
theorem rdV_eq (s : ByteArray) (i p : Int) (b : Bool) : rdV s i p b = .agg #[.string s, .int .i64 i, .int .i64 p, .bool b] := rfl
/-- A block of four cells that is known whole. -/
def B4 (w : World) (g : Nat) (t : TypeId) (v0 v1 v2 v3 : Value) : Prop := w.heap[g]? = some (.cells #[v0, v1, v2, v3] t (0, 0))
section
variable {w w' : World} {g : Nat} {t : TypeId} {v0 v1 v2 v3 : Value}
theorem B4.lt (h : B4 w g t v0 v1 v2 v3) : g < w.heap.size := lt_of_heap h
theorem B4.new (w : World) (t : TypeId) (v0 v1 v2 v3 : Value) : B4 (w.alloc (.cells #[v0, v1, v2, v3] t)) w.heap.size t v0 v1 v2 v3 := heap_alloc_new w _
theorem B4.c0 (h : B4 w g t v0 v1 v2 v3) : w.cell? ⟨g, 0, none⟩ = some v0 := by unfold B4 at h; simp [World.cell?, h]
theorem B4.c1 (h : B4 w g t v0 v1 v2 v3) : w.cell? ⟨g, 1, none⟩ = some v1 := by unfold B4 at h; simp [World.cell?, h]
theorem B4.c2 (h : B4 w g t v0 v1 v2 v3) : w.cell? ⟨g, 2, none⟩ = some v2 := by unfold B4 at h; simp [World.cell?, h]
theorem B4.c3 (h : B4 w g t v0 v1 v2 v3) : w.cell? ⟨g, 3, none⟩ = some v3 := by unfold B4 at h; simp [World.cell?, h]
theorem B4.fz (h : B4 w g t v0 v1 v2 v3) (o : Nat) : w.frozen? ⟨g, o, none⟩ = false := by unfold B4 at h; simp [World.frozen?, h]
theorem B4.drewN (h : B4 w g t v0 v1 v2 v3) (n : Nat) : B4 (w.drewN n) g t v0 v1 v2 v3 := h
theorem B4.alloc (h : B4 w g t v0 v1 v2 v3) (o : Obj) : B4 (w.alloc o) g t v0 v1 v2 v3 := (Below.heap_alloc w o g h.lt).trans h
theorem B4.set0 (h : B4 w g t v0 v1 v2 v3) (u : Value) : B4 (w.setCell ⟨g, 0, none⟩ u) g t u v1 v2 v3 := by
  unfold B4 at h ⊢
  simp [World.setCell, Array.getElem?_modify, h]
theorem B4.set1 (h : B4 w g t v0 v1 v2 v3) (u : Value) : B4 (w.setCell ⟨g, 1, none⟩ u) g t v0 u v2 v3 := by
  unfold B4 at h ⊢
  simp [World.setCell, Array.getElem?_modify, h]
theorem B4.set2 (h : B4 w g t v0 v1 v2 v3) (u : Value) : B4 (w.setCell ⟨g, 2, none⟩ u) g t v0 v1 u v3 := by
  unfold B4 at h ⊢
  simp [World.setCell, Array.getElem?_modify, h]
theorem B4.set3 (h : B4 w g t v0 v1 v2 v3) (u : Value) : B4 (w.setCell ⟨g, 3, none⟩ u) g t v0 v1 v2 u := by
  unfold B4 at h ⊢
  simp [World.setCell, Array.getElem?_modify, h]
theorem B4.far (h : B4 w g t v0 v1 v2 v3) {q : Addr} (hq : g ≠ q.block) (u : Value) : B4 (w.setCell q u) g t v0 v1 v2 v3 := (Below.heap_setCell w q u g hq).trans h
theorem B4.belowAll (h : B4 w g t v0 v1 v2 v3) (hb : Below w.heap.size w w') : B4 w' g t v0 v1 v2 v3 := (hb.block g h.lt).trans h
end

set_option maxHeartbeats 400000 in
theorem ris_any (s : ByteArray) (i : Nat) (p : Int) (b : Bool) (c : Int) (w : World) (_hs : s.size ≤ maxLen) (_hi : i ≤ s.size) (hc : 0 ≤ c) :
    Calls Tryd.prog 60 #[rdV s i p b, .int .u8 c] w fun e w' => e = .returned (.bool (isB s i c)) ∧ Below w.heap.size w w' := by
  unfold maxLen at _hs
  rw [rdV_eq]
  by_cases _hi : i < s.size
  · have hd : decide ((i : Int) < (s.size : Int)) = true := by simpa using _hi
    go_enter Tryd.func60, Tryd.ntmps60
    go_wp2_with fail
    go_ret
    refine ⟨ret_bool ?_, below_alloc _ _⟩
    unfold isB
    rw [bt_in _hi]
    exact (Bool.beq_eq_decide_eq _ _)
  · have hd : decide ((i : Int) < (s.size : Int)) = false := by simpa using _hi
    go_enter Tryd.func60, Tryd.ntmps60
    go_wp2_with fail
    go_ret
    refine ⟨ret_bool ?_, below_alloc _ _⟩
    unfold isB
    rw [bt_out _hi]
    symm
    rw [decide_eq_false_iff_not]
    omega

def digV (s : ByteArray) (i : Nat) : Value := .tuple #[.int .u64 (if dig s i then bt s i - 48 else 0), .bool (dig s i)]
theorem digV_yes {s : ByteArray} {i : Nat} (h : dig s i = true) : digV s i = .tuple #[.int .u64 (bt s i - 48), .bool true] := by rw [digV, h]; rfl
theorem digV_no {s : ByteArray} {i : Nat} (h : dig s i = false) : digV s i = .tuple #[.int .u64 0, .bool false] := by rw [digV, h]; rfl
set_option maxHeartbeats 400000 in
theorem rdigit_any (s : ByteArray) (i : Nat) (p : Int) (b : Bool) (w : World) (_hs : s.size ≤ maxLen) (_hi : i ≤ s.size) :
    Calls Tryd.prog 59 #[rdV s i p b] w fun e w' => e = .returned (digV s i) ∧ Below w.heap.size w w' := by
  unfold maxLen at _hs
  rw [rdV_eq]
  by_cases _hi : i < s.size
  · have hd : decide ((i : Int) < (s.size : Int)) = true := by simpa using _hi
    by_cases h48 : 48 ≤ (s[i].toNat : Int)
    · have hd2 : decide (48 ≤ (s[i].toNat : Int)) = true := by simpa using h48
      by_cases h57 : (s[i].toNat : Int) ≤ 57
      · have HD : Hid (dig s i = true) := by show _ = _; unfold dig; rw [bt_in _hi]; simp [h48, h57]
        have hd3 : decide ((s[i].toNat : Int) ≤ 57) = true := by simpa using h57
        go_enter Tryd.func59, Tryd.ntmps59
        go_wp2_with fail
        go_ret2
        exact ⟨by rw [digV_yes HD.out, bt_in _hi]; rfl, below_alloc _ _⟩
      · have HD : Hid (dig s i = false) := by show _ = _; unfold dig; rw [bt_in _hi]; simp; omega
        have hd3 : decide ((s[i].toNat : Int) ≤ 57) = false := by simpa using h57
        go_enter Tryd.func59, Tryd.ntmps59
        go_wp2_with fail
        go_ret2
        exact ⟨by rw [digV_no HD.out]; rfl, below_alloc _ _⟩
    · have HD : Hid (dig s i = false) := by show _ = _; unfold dig; rw [bt_in _hi]; simp; omega
      have hd2 : decide (48 ≤ (s[i].toNat : Int)) = false := by simpa using h48
      go_enter Tryd.func59, Tryd.ntmps59
      go_wp2_with fail
      go_ret2
      exact ⟨by rw [digV_no HD.out]; rfl, below_alloc _ _⟩
  · have HD : Hid (dig s i = false) := by show _ = _; unfold dig; rw [bt_out _hi]; rfl
    have hd : decide ((i : Int) < (s.size : Int)) = false := by simpa using _hi
    go_enter Tryd.func59, Tryd.ntmps59
    go_wp2_with fail
    go_ret2
    exact ⟨by rw [digV_no HD.out]; rfl, below_alloc _ _⟩

/-- sign: where it stands afterwards. -/
def sgn (s : ByteArray) (c : Int) (i : Nat) (b : Bool) : Nat × Bool := if b || !isB s i c then (i, true) else (i + 1, false)
theorem two_alloc (w : World) (o o' : Obj) : Below w.heap.size w ((w.alloc o).alloc o') := (below_alloc _ _).trans ((below_alloc _ _).mono (by simp))
abbrev put4 (w : World) (g : Nat) (v0 v1 v2 v3 : Value) : World := (((w.setCell ⟨g, 0, none⟩ v0).setCell ⟨g, 1, none⟩ v1).setCell ⟨g, 2, none⟩ v2).setCell ⟨g, 3, none⟩ v3
abbrev put3 (w : World) (g : Nat) (v0 v1 v2 : Value) : World := ((w.setCell ⟨g, 0, none⟩ v0).setCell ⟨g, 1, none⟩ v1).setCell ⟨g, 2, none⟩ v2
theorem B4.put {w : World} {g : Nat} {t : TypeId} {v0 v1 v2 v3 : Value} (h : B4 w g t v0 v1 v2 v3) (u0 u1 u2 u3 : Value) : B4 (put4 w g u0 u1 u2 u3) g t u0 u1 u2 u3 := (((h.set0 u0).set1 u1).set2 u2).set3 u3
theorem B4.far4 {w : World} {g g' : Nat} {t : TypeId} {v0 v1 v2 v3 : Value} (h : B4 w g t v0 v1 v2 v3) (hg : g ≠ g') (u0 u1 u2 u3 : Value) : B4 (put4 w g' u0 u1 u2 u3) g t v0 v1 v2 v3 :=
  (((h.far (q := ⟨g', 0, none⟩) hg u0).far (q := ⟨g', 1, none⟩) hg u1).far (q := ⟨g', 2, none⟩) hg u2).far (q := ⟨g', 3, none⟩) hg u3
theorem B4.far3 {w : World} {g g' : Nat} {t : TypeId} {v0 v1 v2 v3 : Value} (h : B4 w g t v0 v1 v2 v3) (hg : g ≠ g') (u0 u1 u2 : Value) : B4 (put3 w g' u0 u1 u2) g t v0 v1 v2 v3 :=
  ((h.far (q := ⟨g', 0, none⟩) hg u0).far (q := ⟨g', 1, none⟩) hg u1).far (q := ⟨g', 2, none⟩) hg u2
theorem Bx.put {w : World} {g : Nat} {t : TypeId} {v0 v1 v2 : Value} (h : Bx w g t v0 v1 v2) (u0 u1 u2 : Value) : Bx (put3 w g u0 u1 u2) g t u0 u1 u2 := ((h.set0 u0).set1 u1).set2 u2
theorem Bx.far3 {w : World} {g g' : Nat} {t : TypeId} {v0 v1 v2 : Value} (h : Bx w g t v0 v1 v2) (hg : g ≠ g') (u0 u1 u2 : Value) : Bx (put3 w g' u0 u1 u2) g t v0 v1 v2 :=
  ((h.far (q := ⟨g', 0, none⟩) hg u0).far (q := ⟨g', 1, none⟩) hg u1).far (q := ⟨g', 2, none⟩) hg u2
theorem Bx.far4 {w : World} {g g' : Nat} {t : TypeId} {v0 v1 v2 : Value} (h : Bx w g t v0 v1 v2) (hg : g ≠ g') (u0 u1 u2 u3 : Value) : Bx (put4 w g' u0 u1 u2 u3) g t v0 v1 v2 :=
  (((h.far (q := ⟨g', 0, none⟩) hg u0).far (q := ⟨g', 1, none⟩) hg u1).far (q := ⟨g', 2, none⟩) hg u2).far (q := ⟨g', 3, none⟩) hg u3
theorem below_put4 {B : Nat} {a w : World} (h : Below B a w) {g : Nat} (hg : B ≤ g) (u0 u1 u2 u3 : Value) : Below B a (put4 w g u0 u1 u2 u3) :=
  (((h.setCell (p := ⟨g, 0, none⟩) hg u0).setCell (p := ⟨g, 1, none⟩) hg u1).setCell (p := ⟨g, 2, none⟩) hg u2).setCell (p := ⟨g, 3, none⟩) hg u3
theorem below_put3 {B : Nat} {a w : World} (h : Below B a w) {g : Nat} (hg : B ≤ g) (u0 u1 u2 : Value) : Below B a (put3 w g u0 u1 u2) :=
  ((h.setCell (p := ⟨g, 0, none⟩) hg u0).setCell (p := ⟨g, 1, none⟩) hg u1).setCell (p := ⟨g, 2, none⟩) hg u2
/-- The two blocks with which a reader's method begins: itself, and the result. -/
theorem rr_start (w : World) (s : ByteArray) (i p : Int) (b : Bool) (W : World) (hW : W = (w.alloc (.cells #[.string s, .int .i64 i, .int .i64 p, .bool b] 68)).alloc (.cells #[.string ⟨#[]⟩, .int .i64 0, .int .i64 0, .bool false] 68)) :
    B4 W w.heap.size 68 (.string s) (.int .i64 i) (.int .i64 p) (.bool b) ∧ B4 W (w.heap.size + 1) 68 (.string ⟨#[]⟩) (.int .i64 0) (.int .i64 0) (.bool false) ∧ Below w.heap.size w W := by
  subst hW
  have h2 := B4.new (w.alloc (.cells #[.string s, .int .i64 i, .int .i64 p, .bool b] 68)) 68 (.string ⟨#[]⟩) (.int .i64 0) (.int .i64 0) (.bool false)
  have hs : (w.alloc (.cells #[.string s, .int .i64 i, .int .i64 p, .bool b] 68)).heap.size = w.heap.size + 1 := by simp
  rw [hs] at h2
  exact ⟨(B4.new w 68 _ _ _ _).alloc _, h2, two_alloc _ _ _⟩

set_option maxHeartbeats 1000000 in
theorem rsign_any (s : ByteArray) (i : Nat) (p : Int) (b : Bool) (c : Int) (w : World) (hs : s.size ≤ maxLen) (hi : i ≤ s.size) (hc : 0 ≤ c) :
    Calls Tryd.prog 62 #[rdV s i p b, .int .u8 c] w fun e w' => e = .returned (rdV s (sgn s c i b).1 p (sgn s c i b).2) ∧ Below w.heap.size w w' := by
  have hs2 := hs
  unfold maxLen at hs2
  obtain ⟨W, hW⟩ : ∃ W, W = (w.alloc (.cells #[.string s, .int .i64 i, .int .i64 p, .bool b] 68)).alloc (.cells #[.string ⟨#[]⟩, .int .i64 0, .int .i64 0, .bool false] 68) := ⟨_, rfl⟩
  obtain ⟨hx, hr, hb⟩ := rr_start w s i p b W hW
  have HW := Lib.hid hW
  clear hW
  cases b
  · cases hy : isB s i c
    · have HY := Lib.hid hy
      have HG : Hid (sgn s c i false = (i, true)) := by show _ = _; rw [sgn, hy]; rfl
      clear hy
      rw [rdV_eq]
      go_enter Tryd.func62, Tryd.ntmps62
      go_wp2_with fail
      rw [← HW.out]
      refine (ris_any s i p false c _ hs hi hc).mono ?_
      rintro e w1 ⟨rfl, hb1⟩
      rw [HY.out]
      have hx1 := hx.belowAll hb1
      have hr1 := hr.belowAll hb1
      have hb2 : Below w.heap.size w w1 := hb.trans (hb1.mono hb.size)
      have q0 := hx1.c0
      have q1 := hx1.c1
      have q2 := hx1.c2
      have q3 := hx1.c3
      have qf := hx1.fz
      have z0 := hr1.c0
      have z1 := hr1.c1
      have z2 := hr1.c2
      have z3 := hr1.c3
      have zf := hr1.fz
      go_wp2_with fail
      have h9 := ((hr1.far (q := ⟨w.heap.size, 3, none⟩) (by simp) (.bool true)).put (.string s) (.int .i64 i) (.int .i64 p) (.bool true))
      refine bodyPost_ret (v := rdV s i p true) (by simp [results, Tryd.results62, go_sem, h9.c0, h9.c1, h9.c2, h9.c3, rdV]) rfl ?_
      rw [HG.out]
      exact ⟨rfl, below_put4 (hb2.setCell (p := ⟨w.heap.size, 3, none⟩) (Nat.le_refl _) _) (by omega) _ _ _ _⟩
    · have hlt := isB_lt hc hy
      have HY := Lib.hid hy
      have HG : Hid (sgn s c i false = (i + 1, false)) := by show _ = _; rw [sgn, hy]; rfl
      clear hy
      rw [rdV_eq]
      go_enter Tryd.func62, Tryd.ntmps62
      go_wp2_with fail
      rw [← HW.out]
      refine (ris_any s i p false c _ hs hi hc).mono ?_
      rintro e w1 ⟨rfl, hb1⟩
      rw [HY.out]
      have hx1 := hx.belowAll hb1
      have hr1 := hr.belowAll hb1
      have hb2 : Below w.heap.size w w1 := hb.trans (hb1.mono hb.size)
      have q0 := hx1.c0
      have q1 := hx1.c1
      have q2 := hx1.c2
      have q3 := hx1.c3
      have qf := hx1.fz
      have z0 := hr1.c0
      have z1 := hr1.c1
      have z2 := hr1.c2
      have z3 := hr1.c3
      have zf := hr1.fz
      go_wp2_with fail
      have h9 := ((hr1.far (q := ⟨w.heap.size, 1, none⟩) (by simp) (.int .i64 ((i : Int) + 1))).put (.string s) (.int .i64 ((i : Int) + 1)) (.int .i64 p) (.bool false))
      refine bodyPost_ret (v := rdV s (i + 1 : Nat) p false) (by simp [results, Tryd.results62, go_sem, h9.c0, h9.c1, h9.c2, h9.c3, rdV]) rfl ?_
      rw [HG.out]
      exact ⟨rfl, below_put4 (hb2.setCell (p := ⟨w.heap.size, 1, none⟩) (Nat.le_refl _) _) (by omega) _ _ _ _⟩
  · have HG : Hid (sgn s c i true = (i, true)) := by show _ = _; rfl
    rw [rdV_eq]
    go_enter Tryd.func62, Tryd.ntmps62
    go_wp2_with fail
    refine bodyPost_ret (v := rdV s i p true) (by simp [results, Tryd.results62, go_sem, rdV]) rfl ?_
    rw [HG.out]
    exact ⟨rfl, two_alloc _ _ _⟩

def asM : Int → Int → Bool := fun sa => if sa = 0 then mAny else if sa = 1 then mChan else mEv
set_option maxHeartbeats 1000000 in
theorem rmay_any (k sa : Int) (hk : k ≤ 13) (ha : sa = 0 ∨ sa = 1 ∨ sa = 2) (w : World) : Calls Tryd.prog 82 #[.int .i64 k, .int .i64 sa] w fun e w' => e = .returned (.bool (asM sa k)) ∧ w = w' := by
  rcases ha with rfl | rfl | rfl
  all_goals
    go_enter Tryd.func82, Tryd.ntmps82
    go_wp2_with fail
    all_goals go_ret
    all_goals refine ⟨ret_bool ?_, rfl⟩
    all_goals (rw [Bool.eq_iff_iff]; simp_all [asM, mAny, mChan, mEv, isEv])
    try omega

/-- What a Kind needs: at least, at most, as what the first one, and the others, stand. -/
def needs (k : Nat) : Nat × Nat × Int × Int := match k with
  | 3 => (2, 2, 0, 0)
  | 5 => (2, 2, 1, 0)
  | 6 => (1, 1, 1, 0)
  | 7 => (1, 1, 0, 0)
  | 9 => (0, 16, 2, 2)
  | 10 => (1, 9, 2, 0)
  | 11 => (0, 8, 0, 0)
  | 12 => (0, 8, 0, 0)
  | _ => (0, 0, 0, 0)
set_option maxHeartbeats 1000000 in
theorem rneeds_any (k : Nat) (hk : k < 14) (w : World) : Calls Tryd.prog 65 #[.int .i64 (k : Int)] w fun e w' => e = .returned (.tuple #[.int .i64 ((needs k).1 : Nat), .int .i64 ((needs k).2.1 : Nat), .int .i64 (needs k).2.2.1, .int .i64 (needs k).2.2.2]) ∧ w = w' := by
  have h : k = 0 ∨ k = 1 ∨ k = 2 ∨ k = 3 ∨ k = 4 ∨ k = 5 ∨ k = 6 ∨ k = 7 ∨ k = 8 ∨ k = 9 ∨ k = 10 ∨ k = 11 ∨ k = 12 ∨ k = 13 := by omega
  rcases h with rfl | rfl | rfl | rfl | rfl | rfl | rfl | rfl | rfl | rfl | rfl | rfl | rfl | rfl
  all_goals
    go_enter Tryd.func65, Tryd.ntmps65
    go_wp2_with fail
    exact bodyPost_ret (v := _) (by simp [results, Tryd.results65, go_sem, needs]) rfl ⟨rfl, rfl⟩
end Go.Proofs.YtkahboomahhdoaaDoor
