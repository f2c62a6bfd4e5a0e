/-
  Walks over the reference of layer 5: the reader's value.
-/
import Derived.Test.YtkahboomahhdoaaDoorRr5
import Derived.Deep.RegionWith
import Derived.IntWalk
namespace Go.Proofs.YtkahboomahhdoaaDoor
open Go.RowKit

/-- How the reader's value ends. -/
def RVEnds (s : ByteArray) (w : World) (r : Except Nat (VT × Nat × Nat)) (e : Ending) (w' : World) : Prop :=
  match r with
  | .error j => ∃ (p' : Int) (k n : Int) (a : Option Addr) (len cap : Nat), e = .returned (.tuple #[rdV s j p' true, .agg #[.int .i64 k, .int .i64 n, .slice a len cap]]) ∧ Below w.heap.size w w'
  | .ok (t, i, p) => ∃ v, e = .returned (.tuple #[rdV s i p false, v]) ∧ IsV (fun g => w.heap.size ≤ g ∧ g < w'.heap.size) w' t v ∧ Below w.heap.size w w'
def RValC (s : ByteArray) (f : Nat) : Prop := ∀ (sa : Int) (i p : Nat) (w : World), (sa = 0 ∨ sa = 1 ∨ sa = 2) → i ≤ s.size → p ≤ 256 → 256 ≤ p + f →
  Calls Tryd.prog 33 #[rdV s i p false, .int .i64 sa] w (RVEnds s w (pVal s f (asM sa) i p))

theorem three_alloc (w : World) (o o' o'' : Obj) : Below w.heap.size w (((w.alloc o).alloc o').alloc o'') := (two_alloc w o o').trans ((below_alloc _ _).mono (by simp; omega))
/-- The three blocks with which value begins. -/
theorem rv_start (w : World) (s : ByteArray) (i p : Int) (b : Bool) (W : World) (hW : W = ((w.alloc (.cells #[.string s, .int .i64 i, .int .i64 p, .bool b] 68)).alloc (.cells #[.string ⟨#[]⟩, .int .i64 0, .int .i64 0, .bool false] 68)).alloc (.cells #[.int .i64 0, .int .i64 0, .slice none 0 0] 26)) :
    B4 W w.heap.size 68 (.string s) (.int .i64 i) (.int .i64 p) (.bool b) ∧ B4 W (w.heap.size + 1) 68 (.string ⟨#[]⟩) (.int .i64 0) (.int .i64 0) (.bool false) ∧ Bx W (w.heap.size + 1 + 1) 26 (.int .i64 0) (.int .i64 0) (.slice none 0 0) ∧ Below w.heap.size w W := by
  subst hW
  obtain ⟨h1, h2, h3⟩ := rr_start w s i p b _ rfl
  have h4 := Bx.new ((w.alloc (.cells #[.string s, .int .i64 i, .int .i64 p, .bool b] 68)).alloc (.cells #[.string ⟨#[]⟩, .int .i64 0, .int .i64 0, .bool false] 68)) 26 (.int .i64 0) (.int .i64 0) (.slice none 0 0)
  have hs : ((w.alloc (.cells #[.string s, .int .i64 i, .int .i64 p, .bool b] 68)).alloc (.cells #[.string ⟨#[]⟩, .int .i64 0, .int .i64 0, .bool false] 68)).heap.size = w.heap.size + 1 + 1 := by simp
  rw [hs] at h4
  exact ⟨h1.alloc _, h2.alloc _, h4, three_alloc _ _ _ _⟩
set_option maxHeartbeats 1000000 in
theorem rsign_bad (s : ByteArray) (i p c : Int) (w : World) :
    Calls Tryd.prog 62 #[rdV s i p true, .int .u8 c] w fun e w' => e = .returned (rdV s i p true) ∧ Below w.heap.size w w' := by
  rw [rdV_eq]
  go_enter Tryd.func62, Tryd.ntmps62
  go_wp2_with fail
  exact bodyPost_ret (v := rdV s i p true) (by simp [results, Tryd.results62, go_sem, rdV]) rfl ⟨rfl, two_alloc _ _ _⟩
set_option maxRecDepth 100000 in
set_option maxHeartbeats 2000000 in
theorem rvalue_bad (s : ByteArray) (i p sa : Int) (w : World) :
    Calls Tryd.prog 33 #[rdV s i p true, .int .i64 sa] w fun e w' => e = .returned (.tuple #[rdV s i p true, .agg #[.int .i64 0, .int .i64 0, .slice none 0 0]]) ∧ Below w.heap.size w w' := by
  rw [rdV_eq]
  go_enter Tryd.func33, Tryd.ntmps33
  go_wp2_with fail
  exact bodyPost_ret (v := .tuple #[rdV s i p true, .agg #[.int .i64 0, .int .i64 0, .slice none 0 0]]) (by simp [results, Tryd.results33, go_sem, rdV]) rfl ⟨rfl, three_alloc _ _ _ _⟩
set_option maxRecDepth 100000 in
set_option maxHeartbeats 2000000 in
theorem rvalue_end (s : ByteArray) (i p : Nat) (sa : Int) (w : World) (_hs : s.size ≤ maxLen) (h : s.size ≤ i ∨ 256 ≤ p) (_hi : i ≤ s.size) :
    Calls Tryd.prog 33 #[rdV s i p false, .int .i64 sa] w fun e w' => e = .returned (.tuple #[rdV s i p true, .agg #[.int .i64 0, .int .i64 0, .slice none 0 0]]) ∧ Below w.heap.size w w' := by
  unfold maxLen at _hs
  rw [rdV_eq]
  by_cases h1 : s.size ≤ i
  · have hd : decide (s.size ≤ i) = true := by simpa using h1
    go_enter Tryd.func33, Tryd.ntmps33
    go_wp2_with fail
    exact bodyPost_ret (v := .tuple #[rdV s i p true, .agg #[.int .i64 0, .int .i64 0, .slice none 0 0]]) (by simp [results, Tryd.results33, go_sem, rdV]) rfl ⟨rfl, three_alloc _ _ _ _⟩
  · have h2 : 256 ≤ p := by omega
    have hd : decide (s.size ≤ i) = false := by simpa using h1
    have hd2 : decide (256 ≤ (p : Int)) = true := by simp; omega
    go_enter Tryd.func33, Tryd.ntmps33
    go_wp2_with fail
    exact bodyPost_ret (v := .tuple #[rdV s i p true, .agg #[.int .i64 0, .int .i64 0, .slice none 0 0]]) (by simp [results, Tryd.results33, go_sem, rdV]) rfl ⟨rfl, three_alloc _ _ _ _⟩

/-- A number read. -/
def intRes (sg : Int) (p : Nat) (r : Except Nat (Nat × Nat)) : Except Nat (VT × Nat × Nat) := match r with
  | .error j => .error j
  | .ok (n, j) => .ok (.mk 2 (sg * n) [], j, p + 1)
theorem neg_u64 (n : Nat) (h : n ≤ 9223372036854775808) : wrap64 (IntKind.u64.wrap (-(n : Int))) = -(n : Int) := by
  unfold wrap64
  simp only [IntKind.wrap, IntKind.bits, IntKind.signed]
  simp
  omega
theorem RnEnds.out {s : ByteArray} {p : Int} {w w' : World} {r : Except Nat (Nat × Nat)} {e : Ending} (h : RnEnds s p w r e w') : ∃ (j n : Nat) (bd : Bool), e = .returned (.tuple #[rdV s j p bd, .int .u64 n]) ∧ Below w.heap.size w w' ∧ ((r = .error j ∧ bd = true ∧ n = 0) ∨ (r = .ok (n, j) ∧ bd = false)) := by
  rcases r with j | ⟨n, j⟩
  · exact ⟨j, 0, true, h.1, h.2, .inl ⟨rfl, rfl, rfl⟩⟩
  · exact ⟨j, n, false, h.1, h.2, .inr ⟨rfl, rfl⟩⟩
set_option maxRecDepth 100000 in
set_option maxHeartbeats 2000000 in
theorem rvalue_num (s : ByteArray) (i p : Nat) (w : World) (hs : s.size ≤ maxLen) (hi : i < s.size) (hp : p < 256) (hd : dig s i = true) :
    Calls Tryd.prog 33 #[rdV s i p false, .int .i64 0] w (RVEnds s w (intRes 1 p (num s 9223372036854775807 i))) := by
  have hs2 := hs
  unfold maxLen at hs2
  obtain ⟨W, hW⟩ : ∃ W, W = ((w.alloc (.cells #[.string s, .int .i64 i, .int .i64 ((p : Int) + 1), .bool false] 68)).alloc (.cells #[.string ⟨#[]⟩, .int .i64 0, .int .i64 0, .bool false] 68)).alloc (.cells #[.int .i64 0, .int .i64 0, .slice none 0 0] 26) := ⟨_, rfl⟩
  obtain ⟨hx, hr, hv, hb⟩ := rv_start w s i ((p : Int) + 1) false W hW
  have HW := Lib.hid hW
  clear hW
  have hg1 : decide (s.size ≤ i) = false := by simpa using hi
  have hg2 : decide (256 ≤ (p : Int)) = false := by simp; omega
  have HD := Lib.hid (digV_yes hd)
  clear hd
  rw [rdV_eq]
  go_enter Tryd.func33, Tryd.ntmps33
  go_wp2_with fail
  rw [← HW.out]
  refine (rdigit_any s i ((p : Int) + 1) false _ hs (by omega)).mono ?_
  rw [HD.out]
  rintro e w1 ⟨rfl, hb1⟩
  have hx1 := hx.belowAll hb1
  have hr1 := hr.belowAll hb1
  have hv1 := hv.belowAll hb1
  have hb2 : Below w.heap.size w w1 := hb.trans (hb1.mono hb.size)
  clear hx hr hv hb hb1 HW
  have q0 := hx1.c0
  have q1 := hx1.c1
  have q2 := hx1.c2
  have q3 := hx1.c3
  go_wp2_with fail
  refine (rnumber_any s i 9223372036854775807 0 ((p : Int) + 1) false _ hs (by omega) (by omega) (by omega) (by omega)).mono ?_
  have hn0 : rnum s 9223372036854775807 0 i false = num s 9223372036854775807 i := by unfold rnum; simp
  rw [hn0]
  intro e w3 h3
  obtain ⟨j, n, bd, rfl, hb3, hres⟩ := h3.out
  have HRES := Lib.hid hres
  clear h3 hres
  have hx3 := hx1.belowAll hb3
  have hr3 := hr1.belowAll hb3
  have hv3 := hv1.belowAll hb3
  have hb4 := hb2.trans (hb3.mono hb2.size)
  clear hx1 hr1 hv1 hb2 hb3 q0 q1 q2 q3
  rw [rdV_eq]
  go_wp2_with fail
  have hy := B4.new w3 68 (.string s) (.int .i64 (j : Int)) (.int .i64 ((p : Int) + 1)) (.bool bd)
  have hr5 := hr3.alloc (.cells #[.string s, .int .i64 (j : Int), .int .i64 ((p : Int) + 1), .bool bd] 68)
  have hv5 := hv3.alloc (.cells #[.string s, .int .i64 (j : Int), .int .i64 ((p : Int) + 1), .bool bd] 68)
  have hb5 := hb4.trans ((below_alloc w3 (.cells #[.string s, .int .i64 (j : Int), .int .i64 ((p : Int) + 1), .bool bd] 68)).mono hb4.size)
  have hsz3 := hb4.size
  generalize w3.alloc (.cells #[.string s, .int .i64 (j : Int), .int .i64 ((p : Int) + 1), .bool bd] 68) = w5 at *
  generalize w3.heap.size = y at *
  clear hx3 hr3 hv3 hb4
  have y0 := hy.c0
  have y1 := hy.c1
  have y2 := hy.c2
  have y3 := hy.c3
  have hn : n ≤ 9223372036854775807 := by
    rcases HRES.out with ⟨_, _, rfl⟩ | ⟨h1, _⟩
    · omega
    · exact (num_ok h1 (by omega) (by omega)).1
  have hwr : IntKind.i64.wrap (n : Int) = (n : Int) := IntWalk.i64_in _ (by omega)
  go_region_with (go_at_call 27; refine (rInt_any _ _).mono ?_; rintro e w9 ⟨rfl, hb9⟩; have y0 := (B4.belowAll (w := w5.drew) hy hb9).c0; have y1 := (B4.belowAll (w := w5.drew) hy hb9).c1; have y2 := (B4.belowAll (w := w5.drew) hy hb9).c2; have y3 := (B4.belowAll (w := w5.drew) hy hb9).c3; have z0 := (B4.belowAll (w := w5.drew) hr5 hb9).c0; have z1 := (B4.belowAll (w := w5.drew) hr5 hb9).c1; have z2 := (B4.belowAll (w := w5.drew) hr5 hb9).c2; have z3 := (B4.belowAll (w := w5.drew) hr5 hb9).c3; have zf := (B4.belowAll (w := w5.drew) hr5 hb9).fz; have x0 := (Bx.belowAll (w := w5.drew) hv5 hb9).c0; have x1 := (Bx.belowAll (w := w5.drew) hv5 hb9).c1; have x2 := (Bx.belowAll (w := w5.drew) hv5 hb9).c2; have xf := (Bx.belowAll (w := w5.drew) hv5 hb9).fz)
  all_goals
    go_wp2_with fail
    have hr9 := ((B4.belowAll (w := w5.drew) hr5 hb9).put (.string s) (.int .i64 (j : Int)) (.int .i64 ((p : Int) + 1)) (.bool bd)).far3 (g' := w.heap.size + 1 + 1) (by omega) (.int .i64 2) (.int .i64 n) (.slice none 0 0)
    have hv9 := ((Bx.belowAll (w := w5.drew) hv5 hb9).far4 (g' := w.heap.size + 1) (by omega) (.string s) (.int .i64 (j : Int)) (.int .i64 ((p : Int) + 1)) (.bool bd)).put (.int .i64 2) (.int .i64 n) (.slice none 0 0)
    refine bodyPost_ret (v := .tuple #[rdV s j ((p : Int) + 1) bd, .agg #[.int .i64 2, .int .i64 n, .slice none 0 0]]) (by simp [results, Tryd.results33, go_sem, hr9.c0, hr9.c1, hr9.c2, hr9.c3, hv9.c0, hv9.c1, hv9.c2, rdV]) rfl ?_
    have hb10 : Below w.heap.size w w9 := hb5.drew.trans (hb9.mono hb5.size)
    have hbf := below_put3 (below_put4 hb10 (g := w.heap.size + 1) (by omega) (.string s) (.int .i64 (j : Int)) (.int .i64 ((p : Int) + 1)) (.bool bd)) (g := w.heap.size + 1 + 1) (by omega) (.int .i64 2) (.int .i64 n) (.slice none 0 0)
    rcases HRES.out with ⟨h1, rfl, rfl⟩ | ⟨h1, rfl⟩
    · rw [h1]; exact ⟨_, _, _, _, _, _, rfl, hbf⟩
    · rw [h1]
      have e1 : (1 : Int) * (n : Int) = n := by omega
      unfold intRes
      dsimp only
      rw [e1]
      exact ⟨_, rfl, IsV_int (by unfold Rng; omega), hbf⟩
end Go.Proofs.YtkahboomahhdoaaDoor
