/-
 Walks over package valtext's reader: integer.
-/
import Derived.Test.YtjldbbcdhdfliaaGreatDoorRdA
import Derived.Laws.Rows
import Derived.Deep.AppendLies
import Derived.OneCell
namespace Go.Proofs.YtjldbbcdhdfliaaGreatDoor
open Go.RowKit

theorem numGo_ok (s : ByteArray) (most : Nat) (h9 : 9 ≤ most) : ∀ (f j m n j' : Nat), numGo s most f j m = .ok (n, j') → m ≤ most → j ≤ s.size → n ≤ most ∧ j ≤ j' ∧ j' ≤ s.size
 | 0, j, m, n, j', h, hm, hj => by
  rw [numGo] at h
  injection h with h
  injection h with h1 h2
  omega
 | f + 1, j, m, n, j', h, hm, hj => by
  rw [numGo] at h
  split at h
  ·rename_i hd
   have hlt := dig_lt hd
   have hbt := dig_bt hd
   dsimp only at h
   split at h
   ·cases h
   ·split at h
    ·injection h with h
     injection h with h1 h2
     omega
    ·have := numGo_ok s most h9 f (j + 1) _ n j' h (by omega) (by omega)
     omega
  ·injection h with h
   injection h with h1 h2
   omega
theorem num_ok {s : ByteArray} {most i n j : Nat} (h : num s most i = .ok (n, j)) (hi : i ≤ s.size) (h9 : 9 ≤ most) : n ≤ most ∧ i ≤ j ∧ j ≤ s.size := by
 unfold num at h
 split at h
 ·exact numGo_ok s most h9 _ _ _ _ _ h (by omega) hi
 ·cases h

theorem IsV_int {ok : Nat → Prop} {w : World} {n : Int} (h : Rng n) : IsV ok w (.mk 2 n []) (.agg #[.int .i64 2, .int .i64 n, .slice none 0 0]) := by
 rw [IsV]
 exact ⟨none, 0, rfl, by unfold Rng; omega, h, Nat.le_refl _, Nat.zero_le _, by rw [IsR]; trivial⟩

theorem wrap_neg (n : Nat) (h : n ≤ 9223372036854775808) : wrap64 (-(wrap64 (n : Int))) = -(n : Int) := by
 unfold wrap64
 omega

set_option maxHeartbeats 1000000 in
theorem integer_any (b : Nat) (s : ByteArray) (i p : Nat) (w : World) (h : Rd w b s i p) (hs : s.size ≤ maxLen) (hi : i ≤ s.size) :
  Calls Tryz.prog 130 #[.pointer (some ⟨b, 0, none⟩)] w (ValEnds b s w (integer s i p)) := by
 have hs2 := hs
 unfold maxLen at hs2
 have hlt := h.lt
 cases hm : isB s i 45
 ·have HM := Lib.hid hm
  clear hm
  rcases hn : num s 9223372036854775807 i with j | ⟨n, j⟩
  ·have HN := Lib.hid hn
   clear hn
   go_enter Tryz.func130, Tryz.ntmps130
   go_wp2_with fail
   refine (next_any b s i p 45 _ (h.alloc _) hs (by omega) hi).mono ?_
   rintro e w1 ⟨rfl, n1, rfl⟩
   rw [HM.out]
   go_wp2_with fail
   refine (number_any b s i p 9223372036854775807 _ ((h.alloc _).drewN n1) hs hi (by omega) (by omega)).mono ?_
   rw [HN.out]
   rintro e w1 ⟨rfl, hg⟩
   refine ⟨rfl, ?_⟩
   unfold integer
   rw [HM.out, HN.out]
   exact ⟨rfl, (((Gr.refl b w).alloc _).drewN n1).trans hg⟩
  ·have hk := num_ok hn hi (by omega)
   have HN := Lib.hid hn
   clear hn
   go_enter Tryz.func130, Tryz.ntmps130
   go_wp2_with fail
   refine (next_any b s i p 45 _ (h.alloc _) hs (by omega) hi).mono ?_
   rintro e w1 ⟨rfl, n1, rfl⟩
   rw [HM.out]
   go_wp2_with fail
   refine (number_any b s i p 9223372036854775807 _ ((h.alloc _).drewN n1) hs hi (by omega) (by omega)).mono ?_
   rw [HN.out]
   rintro e w1 ⟨rfl, hr1, hg1⟩
   go_wp2_with fail
   refine (vInt_any _ _).mono ?_
   rintro e w2 ⟨rfl, hb2⟩
   have hx := ((((Bx.new w 27 (.int .i64 0) (.int .i64 0) (.slice none 0 0)).drewN n1).gr hg1 (by omega)).belowAll hb2)
   have q0 := hx.c0
   have q1 := hx.c1
   have q2 := hx.c2
   have f0 := hx.fz
   go_wp2_with fail
   refine bodyPost_ret (v := .agg #[.int .i64 2, .int .i64 n, .slice none 0 0]) (by simp [results, Tryz.results130, go_sem, q0, q1, q2]) rfl ?_
   unfold integer
   rw [HM.out, HN.out]
   refine ⟨_, rfl, IsV_int (by unfold Rng; omega), ?_, ?_⟩
   ·exact (((hr1.below hb2).far (q := ⟨w.heap.size, 0, none⟩) (by simp; omega) _).far (q := ⟨w.heap.size, 1, none⟩) (by simp; omega) _).far (q := ⟨w.heap.size, 2, none⟩) (by simp; omega) _
   ·exact (((((((Gr.refl b w).alloc _).drewN n1).trans hg1).below hb2).setNew (q := ⟨w.heap.size, 0, none⟩) (Nat.le_refl _) _).setNew (q := ⟨w.heap.size, 1, none⟩) (Nat.le_refl _) _).setNew (q := ⟨w.heap.size, 2, none⟩) (Nat.le_refl _) _
 ·have HM := Lib.hid hm
  have hlt1 := isB_lt (by omega) hm
  clear hm
  cases hz : isB s (i + 1) 48
  ·have HZ := Lib.hid hz
   clear hz
   rcases hn : num s 9223372036854775808 (i + 1) with j | ⟨n, j⟩
   ·have HN := Lib.hid hn
    clear hn
    go_enter Tryz.func130, Tryz.ntmps130
    go_wp2_with fail
    refine (next_any b s i p 45 _ (h.alloc _) hs (by omega) hi).mono ?_
    rintro e w1 ⟨rfl, n1, rfl⟩
    rw [HM.out]
    have hr1 := (h.alloc (.cells #[.int .i64 0, .int .i64 0, .slice none 0 0] 27)).drewN n1
    have hg1 := ((Gr.refl b w).alloc (.cells #[.int .i64 0, .int .i64 0, .slice none 0 0] 27)).drewN n1
    have hx1 := (Bx.new w 27 (.int .i64 0) (.int .i64 0) (.slice none 0 0)).drewN n1
    generalize (w.alloc (.cells #[.int .i64 0, .int .i64 0, .slice none 0 0] 27)).drewN n1 = w1 at *
    have d1 := hr1.c1
    have f1 := hr1.fz 1
    go_wp2_with fail
    have hr2 : Rd (w1.setCell ⟨b, 1, none⟩ (.int .i64 ((i : Int) + 1))) b s (i + 1) p := hr1.set1 (i + 1)
    have hg2 := hg1.set 1 (.int .i64 ((i : Int) + 1))
    have hx2 := hx1.far (q := ⟨b, 1, none⟩) (by simp; omega) (.int .i64 ((i : Int) + 1))
    clear d1 f1 hr1 hg1 hx1
    generalize w1.setCell ⟨b, 1, none⟩ (.int .i64 ((i : Int) + 1)) = w2 at *
    refine (next_any b s (i + 1) p 48 _ hr2 hs (by omega) (by omega)).mono ?_
    rintro e w3 ⟨rfl, n3, rfl⟩
    rw [HZ.out]
    go_wp2_with fail
    refine (number_any b s (i + 1) p 9223372036854775808 _ (hr2.drewN n3) hs (by omega) (by omega) (by omega)).mono ?_
    rw [HN.out]
    rintro e w4 ⟨rfl, hg4⟩
    refine ⟨rfl, ?_⟩
    unfold integer
    rw [HM.out, HN.out, HZ.out]
    exact ⟨rfl, (hg2.drewN n3).trans hg4⟩
   ·have hk := num_ok hn (by omega) (by omega)
    have HN := Lib.hid hn
    clear hn
    go_enter Tryz.func130, Tryz.ntmps130
    go_wp2_with fail
    refine (next_any b s i p 45 _ (h.alloc _) hs (by omega) hi).mono ?_
    rintro e w1 ⟨rfl, n1, rfl⟩
    rw [HM.out]
    have hr1 := (h.alloc (.cells #[.int .i64 0, .int .i64 0, .slice none 0 0] 27)).drewN n1
    have hg1 := ((Gr.refl b w).alloc (.cells #[.int .i64 0, .int .i64 0, .slice none 0 0] 27)).drewN n1
    have hx1 := (Bx.new w 27 (.int .i64 0) (.int .i64 0) (.slice none 0 0)).drewN n1
    generalize (w.alloc (.cells #[.int .i64 0, .int .i64 0, .slice none 0 0] 27)).drewN n1 = w1 at *
    have d1 := hr1.c1
    have f1 := hr1.fz 1
    go_wp2_with fail
    have hr2 : Rd (w1.setCell ⟨b, 1, none⟩ (.int .i64 ((i : Int) + 1))) b s (i + 1) p := hr1.set1 (i + 1)
    have hg2 := hg1.set 1 (.int .i64 ((i : Int) + 1))
    have hx2 := hx1.far (q := ⟨b, 1, none⟩) (by simp; omega) (.int .i64 ((i : Int) + 1))
    clear d1 f1 hr1 hg1 hx1
    generalize w1.setCell ⟨b, 1, none⟩ (.int .i64 ((i : Int) + 1)) = w2 at *
    refine (next_any b s (i + 1) p 48 _ hr2 hs (by omega) (by omega)).mono ?_
    rintro e w3 ⟨rfl, n3, rfl⟩
    rw [HZ.out]
    go_wp2_with fail
    refine (number_any b s (i + 1) p 9223372036854775808 _ (hr2.drewN n3) hs (by omega) (by omega) (by omega)).mono ?_
    rw [HN.out]
    rintro e w4 ⟨rfl, hr4, hg4⟩
    go_wp2_with fail
    rw [show wrap64 (-(wrap64 (n : Int))) = -(n : Int) from wrap_neg n hk.1]
    refine (vInt_any _ _).mono ?_
    rintro e w5 ⟨rfl, hb5⟩
    have hx := (((hx2.drewN n3).gr hg4 (by omega)).belowAll hb5)
    have q0 := hx.c0
    have q1 := hx.c1
    have q2 := hx.c2
    have f0 := hx.fz
    go_wp2_with fail
    refine bodyPost_ret (v := .agg #[.int .i64 2, .int .i64 (-(n : Int)), .slice none 0 0]) (by simp [results, Tryz.results130, go_sem, q0, q1, q2]) rfl ?_
    unfold integer
    rw [HM.out, HN.out, HZ.out]
    refine ⟨_, rfl, IsV_int (by unfold Rng; omega), ?_, ?_⟩
    ·exact (((hr4.below hb5).far (q := ⟨w.heap.size, 0, none⟩) (by simp; omega) _).far (q := ⟨w.heap.size, 1, none⟩) (by simp; omega) _).far (q := ⟨w.heap.size, 2, none⟩) (by simp; omega) _
    ·exact (((((hg2.drewN n3).trans hg4).below hb5).setNew (q := ⟨w.heap.size, 0, none⟩) (Nat.le_refl _) _).setNew (q := ⟨w.heap.size, 1, none⟩) (Nat.le_refl _) _).setNew (q := ⟨w.heap.size, 2, none⟩) (Nat.le_refl _) _
  ·have HZ := Lib.hid hz
   clear hz
   go_enter Tryz.func130, Tryz.ntmps130
   go_wp2_with fail
   refine (next_any b s i p 45 _ (h.alloc _) hs (by omega) hi).mono ?_
   rintro e w1 ⟨rfl, n1, rfl⟩
   rw [HM.out]
   have hr1 := (h.alloc (.cells #[.int .i64 0, .int .i64 0, .slice none 0 0] 27)).drewN n1
   have hg1 := ((Gr.refl b w).alloc (.cells #[.int .i64 0, .int .i64 0, .slice none 0 0] 27)).drewN n1
   have hx1 := (Bx.new w 27 (.int .i64 0) (.int .i64 0) (.slice none 0 0)).drewN n1
   generalize (w.alloc (.cells #[.int .i64 0, .int .i64 0, .slice none 0 0] 27)).drewN n1 = w1 at *
   have d1 := hr1.c1
   have f1 := hr1.fz 1
   go_wp2_with fail
   have hr2 : Rd (w1.setCell ⟨b, 1, none⟩ (.int .i64 ((i : Int) + 1))) b s (i + 1) p := hr1.set1 (i + 1)
   have hg2 := hg1.set 1 (.int .i64 ((i : Int) + 1))
   have hx2 := hx1.far (q := ⟨b, 1, none⟩) (by simp; omega) (.int .i64 ((i : Int) + 1))
   clear d1 f1 hr1 hg1 hx1
   generalize w1.setCell ⟨b, 1, none⟩ (.int .i64 ((i : Int) + 1)) = w2 at *
   refine (next_any b s (i + 1) p 48 _ hr2 hs (by omega) (by omega)).mono ?_
   rintro e w3 ⟨rfl, n3, rfl⟩
   rw [HZ.out]
   go_wp2_with fail
   refine (fail_any b ((i : Int) + 1) _ (hr2.drewN n3).c1).mono ?_
   rintro e w4 ⟨rfl, rfl⟩
   refine ⟨rfl, ?_⟩
   unfold integer
   rw [HM.out, HZ.out]
   exact ⟨rfl, hg2.drewN n3⟩
end Go.Proofs.YtjldbbcdhdfliaaGreatDoor
/-
 Walks over package valtext's reader: word.
-/
namespace Go.Proofs.YtjldbbcdhdfliaaGreatDoor
open Go.RowKit

/-- The words of the Kinds. -/
def wdl : Nat → List UInt8
 | 1 => [117, 110, 105, 116]
 | 3 => [112, 97, 105, 114]
 | 4 => [99, 104, 97, 110]
 | 5 => [115, 101, 110, 100]
 | 6 => [114, 101, 99, 118]
 | 7 => [97, 108, 119, 97, 121, 115]
 | 8 => [110, 101, 118, 101, 114]
 | 9 => [99, 104, 111, 111, 115, 101]
 | 10 => [119, 114, 97, 112]
 | 11 => [103, 117, 97, 114, 100]
 | 12 => [110, 97, 99, 107]
 | 13 => [99, 111, 110, 100]
 | _ => []
def wdB (k : Nat) : ByteArray := ⟨(wdl k).toArray⟩
def wordCells : Array Value := #[.string (wdB 0), .string (wdB 1), .string (wdB 2), .string (wdB 3), .string (wdB 4), .string (wdB 5), .string (wdB 6), .string (wdB 7), .string (wdB 8), .string (wdB 9), .string (wdB 10), .string (wdB 11), .string (wdB 12), .string (wdB 13)]
def HasWords (w : World) : Prop := ∃ t fr, w.heap[0]? = some (.cells wordCells t fr)
theorem ix0 (w : World) : (Instr.index 209 (.agg wordCells) (.int .i64 0)).run Tryz.prog w = .ok (.string (wdB 0)) w := by kernel_rfl
theorem ix1 (w : World) : (Instr.index 209 (.agg wordCells) (.int .i64 1)).run Tryz.prog w = .ok (.string (wdB 1)) w := by kernel_rfl
theorem ix2 (w : World) : (Instr.index 209 (.agg wordCells) (.int .i64 2)).run Tryz.prog w = .ok (.string (wdB 2)) w := by kernel_rfl
theorem ix3 (w : World) : (Instr.index 209 (.agg wordCells) (.int .i64 3)).run Tryz.prog w = .ok (.string (wdB 3)) w := by kernel_rfl
theorem ix4 (w : World) : (Instr.index 209 (.agg wordCells) (.int .i64 4)).run Tryz.prog w = .ok (.string (wdB 4)) w := by kernel_rfl
theorem ix5 (w : World) : (Instr.index 209 (.agg wordCells) (.int .i64 5)).run Tryz.prog w = .ok (.string (wdB 5)) w := by kernel_rfl
theorem ix6 (w : World) : (Instr.index 209 (.agg wordCells) (.int .i64 6)).run Tryz.prog w = .ok (.string (wdB 6)) w := by kernel_rfl
theorem ix7 (w : World) : (Instr.index 209 (.agg wordCells) (.int .i64 7)).run Tryz.prog w = .ok (.string (wdB 7)) w := by kernel_rfl
theorem ix8 (w : World) : (Instr.index 209 (.agg wordCells) (.int .i64 8)).run Tryz.prog w = .ok (.string (wdB 8)) w := by kernel_rfl
theorem ix9 (w : World) : (Instr.index 209 (.agg wordCells) (.int .i64 9)).run Tryz.prog w = .ok (.string (wdB 9)) w := by kernel_rfl
theorem ix10 (w : World) : (Instr.index 209 (.agg wordCells) (.int .i64 10)).run Tryz.prog w = .ok (.string (wdB 10)) w := by kernel_rfl
theorem ix11 (w : World) : (Instr.index 209 (.agg wordCells) (.int .i64 11)).run Tryz.prog w = .ok (.string (wdB 11)) w := by kernel_rfl
theorem ix12 (w : World) : (Instr.index 209 (.agg wordCells) (.int .i64 12)).run Tryz.prog w = .ok (.string (wdB 12)) w := by kernel_rfl
theorem ix13 (w : World) : (Instr.index 209 (.agg wordCells) (.int .i64 13)).run Tryz.prog w = .ok (.string (wdB 13)) w := by kernel_rfl
theorem index_words (j : Nat) (hj : j < 14) (w : World) : (Instr.index 209 (.agg wordCells) (.int .i64 (j : Int))).run Tryz.prog w = .ok (.string (wdB j)) w := by
 have h : j = 0 ∨ j = 1 ∨ j = 2 ∨ j = 3 ∨ j = 4 ∨ j = 5 ∨ j = 6 ∨ j = 7 ∨ j = 8 ∨ j = 9 ∨ j = 10 ∨ j = 11 ∨ j = 12 ∨ j = 13 := by omega
 rcases h with rfl | rfl | rfl | rfl | rfl | rfl | rfl | rfl | rfl | rfl | rfl | rfl | rfl | rfl
 ·exact ix0 w
 ·exact ix1 w
 ·exact ix2 w
 ·exact ix3 w
 ·exact ix4 w
 ·exact ix5 w
 ·exact ix6 w
 ·exact ix7 w
 ·exact ix8 w
 ·exact ix9 w
 ·exact ix10 w
 ·exact ix11 w
 ·exact ix12 w
 ·exact ix13 w
theorem wdB_size (j : Nat) : (wdB j).size ≤ 6 := by
 match j with
 | 0 | 1 | 2 | 3 | 4 | 5 | 6 | 7 | 8 | 9 | 10 | 11 | 12 | 13 => decide
 | n + 14 => show ([] : List UInt8).length ≤ 6; decide

/-- A function value that tells which Kinds may follow. -/
structure MayIs (f : Nat) (m : Int → Bool) : Prop where
 enters : ∀ (args : Array Value) (w : World), (callFunc f args).run Tryz.prog w = .ok (.enter f args) w
 calls : ∀ (k : Int) (w : World), Calls Tryz.prog f #[.int .i64 k] w fun e w' => e = .returned (.bool (m k)) ∧ w = w'

def cand (s : ByteArray) (st n : Nat) (m : Int → Bool) (k : Nat) : Bool :=
 decide (n < (wdB k).size) && m k && ((wdB k).extract 0 n).toList == (s.extract st (st + n)).toList && isB s (st + n) (bt (wdB k) n)
def findC (s : ByteArray) (st n : Nat) (m : Int → Bool) : Nat → Nat → Option Nat
 | 0, _ => none
 | f + 1, j => if cand s st n m j then some j else findC s st n m f (j + 1)
def wordGo (s : ByteArray) (st : Nat) (m : Int → Bool) : Nat → Nat → Except Nat (Nat × Nat)
 | 0, n => .error (st + n)
 | f + 1, n => match findC s st n m 14 0 with
  | none => .error (st + n)
  | some k => if n + 1 = (wdB k).size then .ok (k, st + n + 1) else wordGo s st m f (n + 1)
def word (s : ByteArray) (st : Nat) (m : Int → Bool) : Except Nat (Nat × Nat) := wordGo s st m 7 0

theorem quiet_same {P : Program} {f : FuncId} {args : Array Value} {w : World} {n : Nat} {v : Value}
  (h : Calls P f args (w.drewN n) fun e w' => e = .returned v ∧ w.drewN n = w') : Calls P f args (w.drewN n) fun e w'' => e = .returned v ∧ ∃ m, w'' = w.drewN m :=
 h.mono fun _ _ ⟨he, hm⟩ => ⟨he, n, hm.symm⟩

theorem next_words (b : Nat) (s : ByteArray) (i p j n : Nat) (w : World) (h : Rd w b s i p) (hs : s.size ≤ maxLen) (hi : i ≤ s.size) (ha : n < (wdB j).size) (x : Bool) (hx : isB s i (bt (wdB j) n) = x) (a : Nat) :
  Calls Tryz.prog 128 #[.pointer (some ⟨b, 0, none⟩), .int .u8 ((wdB j)[n].toNat : Int)] (w.drewN a) fun e w' => e = .returned (.bool x) ∧ ∃ m, w' = (w.drewN a).drewN m := by
 have := next_any b s i p ((wdB j)[n].toNat : Int) _ (h.drewN a) hs (by omega) hi
 rw [← bt_in ha, hx] at this
 rw [← bt_in ha]
 exact this
def WordEnds (b : Nat) (s : ByteArray) (p : Nat) (w : World) (r : Except Nat (Nat × Nat)) (e : Ending) (w' : World) : Prop :=
 match r with
 | .error i => e = Wrong i ∧ Gr b w w'
 | .ok (k, i) => e = .returned (.int .i64 k) ∧ Rd w' b s i p ∧ Gr b w w'

set_option maxRecDepth 100000 in
set_option maxHeartbeats 2000000 in
theorem word_any (b : Nat) (s : ByteArray) (st p f : Nat) (m : Int → Bool) (w : World) (h : Rd w b s st p) (hs : s.size ≤ maxLen) (hi : st ≤ s.size) (hm : MayIs f m) (hw : HasWords w) (hb0 : b ≠ 0) :
  Calls Tryz.prog 131 #[.pointer (some ⟨b, 0, none⟩), .func (.func f) #[] #[]] w (WordEnds b s p w (word s st m)) := by
 have hs2 := hs
 unfold maxLen at hs2
 have h1 := h.c1
 go_enter Tryz.func131, Tryz.ntmps131
 go_wp2_with fail
 go_loopw [6] (fun _ wr => ∃ (n : Nat), st + n ≤ s.size ∧ n ≤ 6 ∧ word s st m = wordGo s st m (7 - n) n ∧ Rd wr b s (st + n) p ∧ Gr b w wr) (fun _ wr => s.size - rdAt wr b)
 case atStart => exact ⟨0, hi, by omega, rfl, h, Gr.refl b w⟩
 case round =>
  obtain ⟨n, hn, hn6, hc, hr, hg⟩ := hrel
  have hc2 : word s st m = match findC s st n m 14 0 with
    | none => .error (st + n)
    | some k => if n + 1 = (wdB k).size then .ok (k, st + n + 1) else wordGo s st m (7 - (n + 1)) (n + 1) := by
   rw [hc, show 7 - n = (7 - (n + 1)) + 1 from by omega, wordGo]
  have HC := Lib.hid hc2
  clear hc hc2 h1 h
  obtain ⟨t, fr, hw0⟩ := hw
  have hlt0 : 0 < w.heap.size := by
   rcases Nat.lt_or_ge 0 w.heap.size with hl | hl
   ·exact hl
   ·rw [Array.getElem?_eq_none hl] at hw0; cases hw0
  have hw1 : wr.heap[0]? = some (.cells wordCells t fr) := (hg.block _ hlt0 (fun e => hb0 (Option.some.inj e).symm)).trans hw0
  have HW := Lib.hid hw1
  clear hw1 hw0
  go_wp2_with (refine wpList_load_row rfl 209 _ rfl 0 rfl t _ fr _ HW.out Tryz.underlying209 rfl (by kernel_rfl) ?_)
  obtain ⟨wo, hwo⟩ : ∃ wo : World, wo = wr := ⟨_, rfl⟩
  subst hwo
  have hat := Lib.hid hr.at_
  go_loopw [6, 7, 8, 9, 15] (fun fd _ _ _ i wr => ∃ (j nq : Nat), j ≤ 14 ∧ i = .int .i64 j ∧ fd = .bool false ∧ findC s st n m 14 0 = findC s st n m (14 - j) j ∧ wr = wo.drewN nq) (fun _ _ _ _ i _ => 14 - (intOf i).toNat)
  case atStart => exact ⟨0, 0, by omega, rfl, rfl, rfl, rfl⟩
  case round =>
   obtain ⟨j, n0, hj, rfl, rfl, hf, hwr⟩ := hrel
   have HF := Lib.hid hf
   clear hf
   have hrr : Rd wr b s (st + n) p := hwr ▸ hr.drewN n0
   have hgr : Gr b w wr := hwr ▸ hg.drewN n0
   have HWR := Lib.hid hwr
   clear hwr
   by_cases hj14 : j < 14
   ·have hix := fun wx => index_words j hj14 wx
    have hwd := wdB_size j
    have hsub : ((st : Int) + (n : Int) - (st : Int)) = (n : Int) := by omega
    have h1 := hrr.c1
    have h0 := hrr.c0
    have hen := hm.enters
    have hf2 : findC s st n m 14 0 = if cand s st n m j then some j else findC s st n m (14 - (j + 1)) (j + 1) := by
     rw [HF.out, show 14 - j = (14 - (j + 1)) + 1 from by omega, findC]
    have HF2 := Lib.hid hf2
    clear hf2
    by_cases ha : n < (wdB j).size
    ·have hd : decide ((wdB j).size ≤ n) = false := by simpa using ha
     cases hmk : m j
     ·have HA : Hid (cand s st n m j = false) := by show _ = _; simp [cand, hmk]
      go_wp2_with fail
      go_quiet ((exact quiet_same (hm.calls _ _)))
      go_wp2_with fail
      go_roundw
      case rel => exact ⟨j + 1, _, by omega, by go_num, rfl, by rw [HF2.out, HA.out]; rfl, by rw [HWR.out, World.drewN_drewN]⟩
      case measure => simp [intOf]; omega
     ·cases hp : ((wdB j).extract 0 n).toList == (s.extract st (st + n)).toList
      ·have HA : Hid (cand s st n m j = false) := by show _ = _; simp only [cand, hp]; simp
       go_wp2_with fail
       go_quiet ((exact quiet_same (hm.calls _ _)))
       go_wp2_with fail
       go_roundw
       case rel => exact ⟨j + 1, _, by omega, by go_num, rfl, by rw [HF2.out, HA.out]; rfl, by rw [HWR.out, World.drewN_drewN]⟩
       case measure => simp [intOf]; omega
      ·cases hq : isB s (st + n) (bt (wdB j) n)
       ·have HA : Hid (cand s st n m j = false) := by show _ = _; simp only [cand, hq]; simp
        have HQ := Lib.hid (next_words b s (st + n) p j n wr hrr hs hn ha false hq)
        clear hq
        go_wp2_with fail
        go_quiet ((first | exact quiet_same (hm.calls _ _) | exact Calls.quiet_of (HQ.out _)))
        go_wp2_with fail
        go_roundw
        case rel => exact ⟨j + 1, _, by omega, by go_num, rfl, by rw [HF2.out, HA.out]; rfl, by rw [HWR.out, World.drewN_drewN]⟩
        case measure => simp [intOf]; omega
       ·have HA : Hid (cand s st n m j = true) := by show _ = _; simp only [cand, hq, hp, hmk]; simp [ha]
        have HQ := Lib.hid (next_words b s (st + n) p j n wr hrr hs hn ha true hq)
        have hlt := isB_lt (by rw [bt_in ha]; omega) hq
        have f1 := hrr.fz 1
        clear hq
        by_cases hend : n + 1 = (wdB j).size
        ·have he : ((n : Int) + 1 == ((wdB j).size : Int)) = true := by rw [beq_iff_eq]; omega
         have HE := Lib.hid hend
         clear hend
         go_wp2_with fail
         go_quiet ((first | exact quiet_same (hm.calls _ _) | exact Calls.quiet_of (HQ.out _)))
         go_wp2_with fail
         go_ret
         rw [HC.out, HF2.out, HA.out]
         simp only [if_true]
         rw [if_pos HE.out]
         exact ⟨rfl, (hrr.drewN _).set1 (st + n + 1), (hgr.drewN _).set 1 _⟩
        ·have he : ((n : Int) + 1 == ((wdB j).size : Int)) = false := by rw [beq_eq_false_iff_ne]; omega
         go_wp2_with fail
         go_quiet ((first | exact quiet_same (hm.calls _ _) | exact Calls.quiet_of (HQ.out _)))
         go_wp2_with fail
         refine ⟨⟨n + 1, by omega, by omega, ?_, (hrr.drewN _).set1 (st + (n + 1)), (hgr.drewN _).set 1 _⟩, ?_⟩
         ·rw [HC.out, HF2.out, HA.out]
          simp only [if_true]
          rw [if_neg (by omega)]
         ·show s.size - rdAt ((wr.drewN _).setCell ⟨b, 1, none⟩ (Value.int .i64 ((st + n + 1 : Nat) : Int))) b < _
          rw [((hrr.drewN _).set1 (st + n + 1)).at_, hat.out]
          omega
    ·have hd : decide ((wdB j).size ≤ n) = true := by simpa using ha
     have HA : Hid (cand s st n m j = false) := by show _ = _; simp [cand, ha]
     go_wp2_with fail
     go_quiet (fail)
     go_wp2_with fail
     go_roundw
     case rel => exact ⟨j + 1, _, by omega, by go_num, rfl, by rw [HF2.out, HA.out]; rfl, by rw [HWR.out, World.drewN_drewN]⟩
     case measure => simp [intOf]; omega
   ·have HN : Hid (findC s st n m 14 0 = none) := by
     show _ = _
     rw [HF.out, show 14 - j = 0 from by omega, findC]
    go_wp2_with fail
    refine (fail_any b ((st : Int) + n) _ hrr.c1).mono ?_
    rintro e w4 ⟨rfl, rfl⟩
    refine ⟨rfl, ?_⟩
    rw [HC.out, HN.out]
    exact ⟨rfl, hgr⟩
end Go.Proofs.YtjldbbcdhdfliaaGreatDoor
/-
 A value that is being read: its box, the row of its values, their own blocks; what an append does to it. Plain lemmas, no walk.
-/
namespace Go.Proofs.YtjldbbcdhdfliaaGreatDoor
open Go.RowKit

def zeroV : List Value := [.int .i64 0, .int .i64 0, .slice none 0 0]
/-- xs are the cells of values that read as l. -/
def Kids (ok : Nat → Prop) (w : World) : List VT → List Value → Prop
 | [], xs => xs = []
 | t :: r, xs => ∃ v0 v1 v2 ys, xs = v0 :: v1 :: v2 :: ys ∧ IsV ok w t (.agg #[v0, v1, v2]) ∧ Kids ok w r ys
theorem Kids.keep {ok : Nat → Prop} {w w' : World} (h : ∀ g, ok g → ∀ o, w'.cell? ⟨g, o, none⟩ = w.cell? ⟨g, o, none⟩) : ∀ {l : List VT} {xs : List Value}, Kids ok w l xs → Kids ok w' l xs
 | [], _, hk => hk
 | _ :: _, _, hk => by
  obtain ⟨v0, v1, v2, ys, rfl, hv, hr⟩ := hk
  exact ⟨v0, v1, v2, ys, rfl, hv.keep h, Kids.keep h hr⟩
theorem Kids.more {ok ok' : Nat → Prop} {w : World} (h : ∀ g, ok g → ok' g) : ∀ {l : List VT} {xs : List Value}, Kids ok w l xs → Kids ok' w l xs
 | [], _, hk => hk
 | _ :: _, _, hk => by
  obtain ⟨v0, v1, v2, ys, rfl, hv, hr⟩ := hk
  exact ⟨v0, v1, v2, ys, rfl, hv.more h, Kids.more h hr⟩
theorem Kids.len {ok : Nat → Prop} {w : World} : ∀ {l : List VT} {xs : List Value}, Kids ok w l xs → xs.length = l.length * 3
 | [], _, hk => by rw [Kids] at hk; subst hk; rfl
 | _ :: _, _, hk => by
  obtain ⟨v0, v1, v2, ys, rfl, hv, hr⟩ := hk
  have := Kids.len hr
  simp [this]; omega
theorem Kids.push {ok : Nat → Prop} {w : World} {t : VT} {u0 u1 u2 : Value} (ht : IsV ok w t (.agg #[u0, u1, u2])) : ∀ {l : List VT} {xs : List Value}, Kids ok w l xs → Kids ok w (l ++ [t]) (xs ++ [u0, u1, u2])
 | [], _, hk => by rw [Kids] at hk; subst hk; exact ⟨u0, u1, u2, [], rfl, ht, rfl⟩
 | _ :: _, _, hk => by
  obtain ⟨v0, v1, v2, ys, rfl, hv, hr⟩ := hk
  exact ⟨v0, v1, v2, ys ++ [u0, u1, u2], rfl, hv, Kids.push ht hr⟩
/-- A row whose cells are those of such values reads as them. -/
theorem Kids.row {ok : Nat → Prop} {w : World} {g o : Nat} (hg : ok g) : ∀ {l : List VT} {xs : List Value} (i : Nat), Kids ok w l xs → (∀ j u, xs[j]? = some u → w.cell? ⟨g, o + i * 3 + j, none⟩ = some u) → IsR ok w l (some ⟨g, o, none⟩) i
 | [], _, _, _, _ => by rw [IsR]; trivial
 | _ :: _, _, i, hk, hc => by
  obtain ⟨v0, v1, v2, ys, rfl, hv, hr⟩ := hk
  rw [IsR]
  refine ⟨⟨g, o, v0, v1, v2, rfl, hg, hc 0 v0 rfl, hc 1 v1 rfl, hc 2 v2 rfl, hv⟩, Kids.row hg (i + 1) hr fun j u hj => ?_⟩
  have := hc (j + 3) u (by simpa using hj)
  rwa [show o + i * 3 + (j + 3) = o + (i + 1) * 3 + j from by omega] at this

/-- A value under way: its box at vb, the row v of its values l. -/
structure Acc (lo : Nat) (w : World) (vb : Nat) (k n : Int) (l : List VT) (v : Value) (xs : List Value) : Prop where
 box : Bx w vb 27 (.int .i64 k) (.int .i64 n) v
 row : w.ownsRow lo 27 3 v l.length xs
 kids : Kids (fun g => lo ≤ g ∧ g < w.heap.size ∧ some g ≠ v.ownBlock) w l xs
 vlt : vb < lo
 le : lo ≤ w.heap.size

/-- Below lo nothing but the blocks b and vb has turned. -/
structure Fx (lo b vb : Nat) (w w' : World) : Prop where
 os : w'.os = w.os
 tape : w'.tape = w.tape
 output : w'.output = w.output
 size : w.heap.size ≤ w'.heap.size
 block : ∀ k, k < lo → k ≠ b → k ≠ vb → w'.heap[k]? = w.heap[k]?
section
variable {lo b vb : Nat} {w w1 w2 : World}
theorem Fx.refl (lo b vb : Nat) (w : World) : Fx lo b vb w w := ⟨rfl, rfl, rfl, Nat.le_refl _, fun _ _ _ _ => rfl⟩
theorem Fx.trans (h : Fx lo b vb w w1) (h' : Fx lo b vb w1 w2) : Fx lo b vb w w2 :=
 ⟨h'.os.trans h.os, h'.tape.trans h.tape, h'.output.trans h.output, Nat.le_trans h.size h'.size, fun k h1 h2 h3 => (h'.block k h1 h2 h3).trans (h.block k h1 h2 h3)⟩
theorem Fx.gr (hl : lo ≤ w.heap.size) (h : Gr b w w1) : Fx lo b vb w w1 :=
 ⟨h.os, h.tape, h.output, h.size, fun k h1 h2 _ => h.block k (by omega) (fun e => h2 (by injection e))⟩
theorem Fx.grown {row : Option Nat} (hl : lo ≤ w.heap.size) (h : w.grownBy w1 row) (hr : ∀ g, row = some g → lo ≤ g) : Fx lo b vb w w1 :=
 ⟨h.os, h.tape, h.output, h.size, fun k h1 _ _ => h.block k (by omega) (fun e => by have := hr k e.symm; omega)⟩
theorem Fx.set (q : Addr) (u : Value) (hq : lo ≤ q.block ∨ q.block = b ∨ q.block = vb) : Fx lo b vb w (w.setCell q u) :=
 ⟨rfl, rfl, rfl, by simp [World.setCell], fun k h1 h2 h3 => Below.heap_setCell _ _ _ _ (by omega)⟩
theorem Fx.drew : Fx lo b vb w w.drew := ⟨rfl, rfl, rfl, Nat.le_refl _, fun _ _ _ _ => rfl⟩
theorem Fx.drewN (n : Nat) : Fx lo b vb w (w.drewN n) := ⟨rfl, rfl, rfl, Nat.le_refl _, fun _ _ _ _ => rfl⟩
theorem Fx.alloc (hl : lo ≤ w.heap.size) (o : Obj) : Fx lo b vb w (w.alloc o) := ⟨rfl, rfl, rfl, by simp, fun _ h1 _ _ => Below.heap_alloc _ _ _ (by omega)⟩
theorem Fx.words (h : Fx lo b vb w w1) (hw : HasWords w) (h0 : 0 < lo) (h1 : b ≠ 0) (h2 : vb ≠ 0) : HasWords w1 := by
 obtain ⟨t, fr, hx⟩ := hw
 exact ⟨t, fr, (h.block _ h0 (Ne.symm h1) (Ne.symm h2)).trans hx⟩
end
theorem HasWords.drew {w : World} (h : HasWords w) : HasWords w.drew := h
theorem HasWords.drewN {w : World} (h : HasWords w) (n : Nat) : HasWords (w.drewN n) := h
theorem HasWords.lt {w : World} (h : HasWords w) : 0 < w.heap.size := by
 obtain ⟨t, fr, hx⟩ := h
 rcases Nat.lt_or_ge 0 w.heap.size with hl | hl
 ·exact hl
 ·rw [Array.getElem?_eq_none hl] at hx; cases hx
theorem HasWords.gr {b : Nat} {w w1 : World} (h : HasWords w) (hg : Gr b w w1) (hb : b ≠ 0) : HasWords w1 := by
 have := h.lt
 obtain ⟨t, fr, hx⟩ := h
 exact ⟨t, fr, (hg.block _ this (fun e => hb (Option.some.inj e).symm)).trans hx⟩
theorem HasWords.alloc {w : World} (h : HasWords w) (o : Obj) : HasWords (w.alloc o) := by
 have := h.lt
 obtain ⟨t, fr, hx⟩ := h
 exact ⟨t, fr, (Below.heap_alloc _ _ _ this).trans hx⟩

section
variable {lo b vb : Nat} {w w' : World} {k n : Int} {l : List VT} {v : Value} {xs : List Value}
theorem Acc.keepAll (h : Acc lo w vb k n l v xs) (hs : w.heap.size ≤ w'.heap.size) (hk : ∀ j, j < w.heap.size → j ≠ b → w'.heap[j]? = w.heap[j]?) (hb : b < lo) (hne : b ≠ vb) : Acc lo w' vb k n l v xs := by
 have hvl := h.vlt
 have hle := h.le
 refine ⟨(hk vb (by omega) (Ne.symm hne)).trans h.box, ?_, (h.kids.keep ?_).more ?_, hvl, by omega⟩
 ·obtain ⟨h1, h2⟩ := h.row
  refine ⟨h1, ?_⟩
  rcases h2 with h2 | ⟨g, cap, cur, e1, e2, e3, e4⟩
  ·exact .inl h2
  ·have hg : g < w.heap.size := by
    rcases Nat.lt_or_ge g w.heap.size with hl | hl
    ·exact hl
    ·rw [Array.getElem?_eq_none hl] at e3; cases e3
   exact .inr ⟨g, cap, cur, e1, e2, (hk g hg (by omega)).trans e3, e4⟩
 ·intro g ⟨g1, g2, g3⟩ o
  exact World.cell?_of_block (w := w) (hk g g2 (by omega))
 ·intro g ⟨g1, g2, g3⟩
  exact ⟨g1, by omega, g3⟩
theorem Acc.gr (h : Acc lo w vb k n l v xs) (hg : Gr b w w') (hb : b < lo) (hne : b ≠ vb) : Acc lo w' vb k n l v xs :=
 h.keepAll (b := b) hg.size (fun j hj hjb => hg.block j hj (fun e => hjb (by injection e))) hb hne
theorem Acc.alloc (h : Acc lo w vb k n l v xs) (o : Obj) (hb : b < lo) (hne : b ≠ vb) : Acc lo (w.alloc o) vb k n l v xs :=
 h.keepAll (b := b) (by simp) (fun j hj _ => Below.heap_alloc _ _ _ hj) hb hne
theorem Acc.drew (h : Acc lo w vb k n l v xs) : Acc lo w.drew vb k n l v xs := ⟨h.box, h.row, (Kids.more (fun _ h => h) (Kids.keep (w := w) (w' := w.drew) (fun _ _ _ => rfl) h.kids)), h.vlt, h.le⟩
theorem Acc.drewN (h : Acc lo w vb k n l v xs) (m : Nat) : Acc lo (w.drewN m) vb k n l v xs := ⟨h.box, h.row, (Kids.more (fun _ h => h) (Kids.keep (w := w) (w' := w.drewN m) (fun _ _ _ => rfl) h.kids)), h.vlt, h.le⟩
/-- A store into the reader's block. -/
theorem Acc.setB (h : Acc lo w vb k n l v xs) (o : Nat) (u : Value) (hb : b < lo) (hne : b ≠ vb) : Acc lo (w.setCell ⟨b, o, none⟩ u) vb k n l v xs :=
 h.keepAll (b := b) (by simp [World.setCell]) (fun j _ hjb => Below.heap_setCell _ _ _ _ hjb) hb hne
/-- The number is set. -/
theorem Acc.setN (h : Acc lo w vb k n l v xs) (n' : Int) : Acc lo (w.setCell ⟨vb, 1, none⟩ (.int .i64 n')) vb k n' l v xs := by
 have hvl := h.vlt
 have hle := h.le
 refine ⟨h.box.set1 _, ownsRow_setCell_below h.row hvl _, (h.kids.keep ?_).more ?_, hvl, by simpa [World.setCell] using hle⟩
 ·intro g ⟨g1, _, _⟩ o
  exact World.cell?_of_block (w := w) (Below.heap_setCell _ _ _ _ (by simp; omega))
 ·intro g ⟨g1, g2, g3⟩
  exact ⟨g1, by simpa [World.setCell] using g2, g3⟩
theorem Acc.form (h : Acc lo w vb k n l v xs) : ∃ (a : Option Addr) (cap : Nat), v = .slice a l.length cap := by
 rcases h.row.2 with ⟨rfl, h0⟩ | ⟨g, cap, cur, rfl, _⟩
 ·exact ⟨none, 0, by rw [h0]⟩
 ·exact ⟨_, _, rfl⟩
/-- What the box reads as. -/
theorem Acc.isV (h : Acc lo w vb k n l v xs) (hk : Rng k) (hn : Rng n) (ok : Nat → Prop) (hok : ∀ g, lo ≤ g → g < w.heap.size → ok g) : IsV ok w (.mk k n l) (.agg #[.int .i64 k, .int .i64 n, v]) := by
 rw [IsV]
 have hrow := h.row
 rcases h.row.2 with ⟨rfl, h0⟩ | ⟨g, cap, cur, rfl, e2, e3, e4, e5, e6, e7⟩
 ·rw [h0]
  have : l = [] := List.eq_nil_of_length_eq_zero h0
  subst this
  exact ⟨none, 0, rfl, hk, hn, Nat.le_refl _, Nat.zero_le _, by rw [IsR]; trivial⟩
 ·refine ⟨some ⟨g, 0, none⟩, cap, rfl, hk, hn, e4, e5, ?_⟩
  have hlt := (hrow.lt g rfl).2
  refine (h.kids.more fun j hj => hok j hj.1 hj.2.1).row (hok g e2 hlt) 0 fun j u hj => ?_
  have hjl : j < l.length * 3 := by
   have := (List.getElem?_eq_some_iff.1 hj).1
   rw [hrow.1] at this
   exact this
  rw [show 0 + 0 * 3 + j = j from by omega, hrow.cellAt j hjl]
  exact hj

/-- The laying of one value more, behind an append of an empty one: in either order of the two stores. -/
theorem Acc.push {W W1 : World} {t : VT} {u0 u1 u2 : Value} {g cap : Nat} (h : Acc lo W vb k n l v xs)
  (ht : IsV (fun g => lo ≤ g ∧ g < W.heap.size ∧ some g ≠ v.ownBlock) W t (.agg #[u0, u1, u2]))
  (hown : W1.ownsRow lo 27 3 (.slice (some ⟨g, 0, none⟩) (l.length + 1) cap) (l.length + 1) (xs ++ zeroV))
  (hgr : W.grownBy W1 v.ownBlock) (hat : v.ownBlock = some g ∨ g = W.heap.size) :
  Acc lo ((((W1.setCell ⟨g, l.length * 3, none⟩ u0).setCell ⟨g, l.length * 3 + 1, none⟩ u1).setCell ⟨g, l.length * 3 + 2, none⟩ u2).setCell ⟨vb, 2, none⟩ (.slice (some ⟨g, 0, none⟩) (l.length + 1) cap)) vb k n (l ++ [t]) (.slice (some ⟨g, 0, none⟩) (l.length + 1) cap) (xs ++ [u0, u1, u2]) ∧
  Acc lo ((((W1.setCell ⟨vb, 2, none⟩ (.slice (some ⟨g, 0, none⟩) (l.length + 1) cap)).setCell ⟨g, l.length * 3, none⟩ u0).setCell ⟨g, l.length * 3 + 1, none⟩ u1).setCell ⟨g, l.length * 3 + 2, none⟩ u2) vb k n (l ++ [t]) (.slice (some ⟨g, 0, none⟩) (l.length + 1) cap) (xs ++ [u0, u1, u2]) := by
 have hvl := h.vlt
 have hle := h.le
 have hsz := hgr.size
 have hrl := hown.lt g rfl
 have hne : some vb ≠ v.ownBlock := fun e => by have := (h.row.lt vb e.symm).1; omega
 have hbox1 : Bx W1 vb 27 (.int .i64 k) (.int .i64 n) v := (hgr.block vb (by omega) hne).trans h.box
 have hgv : g ≠ vb := by omega
 have hgv' : vb ≠ g := by omega
 have hlx : xs.length = l.length * 3 := h.row.1
 have hset : (((xs ++ zeroV).set (l.length * 3) u0).set (l.length * 3 + 1) u1).set (l.length * 3 + 2) u2 = xs ++ [u0, u1, u2] := by
  rw [← hlx]
  simp [zeroV]
 have hkid : ∀ (W3 : World), (∀ j, j ≠ g → j ≠ vb → W3.heap[j]? = W1.heap[j]?) → W1.heap.size ≤ W3.heap.size → Kids (fun j => lo ≤ j ∧ j < W3.heap.size ∧ some j ≠ (Value.slice (some ⟨g, 0, none⟩) (l.length + 1) cap).ownBlock) W3 (l ++ [t]) (xs ++ [u0, u1, u2]) := by
  intro W3 hk3 hs3
  have hj : ∀ j, (lo ≤ j ∧ j < W.heap.size ∧ some j ≠ v.ownBlock) → j ≠ g ∧ W3.heap[j]? = W.heap[j]? := by
   intro j ⟨j1, j2, j3⟩
   have hjg : j ≠ g := by
    rcases hat with e | e
    ·intro e2; subst e2; exact j3 e.symm
    ·omega
   exact ⟨hjg, (hk3 j hjg (by omega)).trans (hgr.block j j2 j3)⟩
  refine ((Kids.push ht h.kids).keep fun j hjo o => World.cell?_of_block (w := W) (hj j hjo).2).more fun j hjo => ⟨hjo.1, by have := hjo.2.1; omega, ?_⟩
  intro e
  have : j = g := by simpa [Value.ownBlock] using e
  exact (hj j hjo).1 this
 have hlen : (l ++ [t]).length = l.length + 1 := by simp
 have hsc : ∀ (Wx : World) (q : Addr) (u : Value), (Wx.setCell q u).heap.size = Wx.heap.size := by intro Wx q u; simp [World.setCell]
 constructor
 ·refine ⟨?_, ?_, hkid _ ?_ ?_, hvl, ?_⟩
  ·exact ((((hbox1.far (q := ⟨g, _, none⟩) hgv' _).far (q := ⟨g, _, none⟩) hgv' _).far (q := ⟨g, _, none⟩) hgv' _).set2 _)
  ·rw [hlen, ← hset]
   exact ownsRow_setCell_below (a := ⟨vb, 2, none⟩) ((((hown.stored _ u0).1.stored _ u1).1.stored _ u2).1) hvl _
  ·intro j h1 h2
   rw [Below.heap_setCell _ _ _ _ h2, Below.heap_setCell _ _ _ _ h1, Below.heap_setCell _ _ _ _ h1, Below.heap_setCell _ _ _ _ h1]
  ·simp only [hsc]; exact Nat.le_refl _
  ·simp only [hsc]; omega
 ·refine ⟨?_, ?_, hkid _ ?_ ?_, hvl, ?_⟩
  ·exact ((((hbox1.set2 _).far (q := ⟨g, _, none⟩) hgv' _).far (q := ⟨g, _, none⟩) hgv' _).far (q := ⟨g, _, none⟩) hgv' _)
  ·rw [hlen, ← hset]
   exact ((((ownsRow_setCell_below (a := ⟨vb, 2, none⟩) hown hvl _).stored _ u0).1.stored _ u1).1.stored _ u2).1
  ·intro j h1 h2
   rw [Below.heap_setCell _ _ _ _ h1, Below.heap_setCell _ _ _ _ h1, Below.heap_setCell _ _ _ _ h1, Below.heap_setCell _ _ _ _ h2]
  ·simp only [hsc]; exact Nat.le_refl _
  ·simp only [hsc]; omega
end
end Go.Proofs.YtjldbbcdhdfliaaGreatDoor
/-
 What the reader's value, list and more compute, as plain functions; the facts on places that the walks ask for.
-/
namespace Go.Proofs.YtjldbbcdhdfliaaGreatDoor
open Go.RowKit

abbrev Rec := (Int → Bool) → Nat → Nat → Except Nat (VT × Nat × Nat)
def mAny : Int → Bool := fun _ => true
def mChan : Int → Bool := fun k => decide (k = 4)
def mEv : Int → Bool := isEv

def pOne (rec : Rec) (m : Int → Bool) (l : List VT) (i p : Nat) : Except Nat (List VT × Nat × Nat) :=
 match rec m i p with
 | .error j => .error j
 | .ok (t, i', p') => .ok (l ++ [t], i', p')
def pMore (s : ByteArray) (rec : Rec) (m : Int → Bool) : Nat → List VT → Nat → Nat → Except Nat (List VT × Nat × Nat)
 | 0, l, i, p => .ok (l, i, p)
 | c + 1, l, i, p =>
  if isB s i 44 then
   match pOne rec m l (i + 1) p with
   | .error j => .error j
   | .ok (l', i', p') => pMore s rec m c l' i' p'
  else .ok (l, i, p)
/-- Two values with a comma between them. -/
def pTwo (s : ByteArray) (rec : Rec) (m m' : Int → Bool) (i p : Nat) : Except Nat (List VT × Nat × Nat) :=
 match pOne rec m [] i p with
 | .error j => .error j
 | .ok (l, i', p') => if isB s i' 44 then pOne rec m' l (i' + 1) p' else .error i'
def withN (n : Int) : Except Nat (List VT × Nat × Nat) → Except Nat (Int × List VT × Nat × Nat)
 | .error j => .error j
 | .ok x => .ok (n, x)
def pNum (s : ByteArray) (most i : Nat) (rest : Nat → Except Nat (List VT × Nat × Nat)) : Except Nat (Int × List VT × Nat × Nat) :=
 match num s most i with
 | .error j => .error j
 | .ok (n, i') => withN n (rest i')
/-- list: the number, the values, the place, the parts. -/
def pList (s : ByteArray) (rec : Rec) (k : Nat) (i p : Nat) : Except Nat (Int × List VT × Nat × Nat) :=
 match k with
 | 3 => withN 0 (pTwo s rec mAny mAny i p)
 | 4 => pNum s 9223372036854775807 i fun i' => .ok ([], i', p)
 | 13 => pNum s 9223372036854775807 i fun i' => .ok ([], i', p)
 | 5 => withN 0 (pTwo s rec mChan mAny i p)
 | 6 => withN 0 (pOne rec mChan [] i p)
 | 7 => withN 0 (pOne rec mAny [] i p)
 | 9 => if isB s i 41 then .ok (0, [], i, p) else
  match pOne rec mEv [] i p with
  | .error j => .error j
  | .ok (l, i', p') => withN 0 (pMore s rec mEv 15 l i' p')
 | 10 => pNum s 63 i fun i' =>
  if isB s i' 44 then
   match pOne rec mEv [] (i' + 1) p with
   | .error j => .error j
   | .ok (l, i2, p') => pMore s rec mAny 8 l i2 p'
  else .error i'
 | 11 => pNum s 63 i fun i' => pMore s rec mAny 8 [] i' p
 | 12 => pNum s 63 i fun i' => pMore s rec mAny 8 [] i' p
 | _ => .ok (0, [], i, p)
def pVal (s : ByteArray) : Nat → Rec
 | 0, _, i, _ => .error i
 | f + 1, m, i, p =>
  if 256 ≤ p then .error i
  else if isB s i 45 || dig s i then
   if m 2 then integer s i (p + 1) else .error i
  else match word s i m with
   | .error j => .error j
   | .ok (k, j) =>
    if k = 1 ∨ k = 8 then .ok (.mk k 0 [], j, p + 1)
    else if isB s j 40 then
     match pList s (pVal s f) k (j + 1) (p + 1) with
     | .error j' => .error j'
     | .ok (n, l, j', p') => if isB s j' 41 then .ok (.mk k n l, j' + 1, p') else .error j'
    else .error j

/-- Where a reading begins and ends. -/
def Goes (s : ByteArray) (rec : Rec) : Prop := ∀ m i p t i' p', i ≤ s.size → p ≤ 256 → rec m i p = .ok (t, i', p') → i ≤ i' ∧ i' ≤ s.size ∧ p < p' ∧ p' ≤ 256
section
variable {s : ByteArray} {rec : Rec} (hr : Goes s rec)
include hr
theorem pOne_goes {m : Int → Bool} {l : List VT} {i p : Nat} {l' : List VT} {i' p' : Nat} (hi : i ≤ s.size) (hp : p ≤ 256) (h : pOne rec m l i p = .ok (l', i', p')) : i ≤ i' ∧ i' ≤ s.size ∧ p < p' ∧ p' ≤ 256 ∧ l'.length = l.length + 1 := by
 unfold pOne at h
 split at h
 ·cases h
 ·rename_i t i2 p2 he
  have := hr m i p t i2 p2 hi hp he
  injection h with h
  injection h with h1 h2
  injection h2 with h2 h3
  subst h1 h2 h3
  simp; omega
theorem pMore_goes {m : Int → Bool} : ∀ (c : Nat) {l : List VT} {i p : Nat} {l' : List VT} {i' p' : Nat}, i ≤ s.size → p ≤ 256 → pMore s rec m c l i p = .ok (l', i', p') → i ≤ i' ∧ i' ≤ s.size ∧ p ≤ p' ∧ p' ≤ 256 ∧ l'.length ≤ l.length + c
 | 0, l, i, p, l', i', p', hi, hp, h => by
  rw [pMore] at h
  injection h with h
  injection h with h1 h2
  injection h2 with h2 h3
  subst h1 h2 h3
  omega
 | c + 1, l, i, p, l', i', p', hi, hp, h => by
  rw [pMore] at h
  split at h
  ·rename_i hb
   have hlt := isB_lt (by omega) hb
   split at h
   ·cases h
   ·rename_i l2 i2 p2 he
    have h1 := pOne_goes hr (by omega) hp he
    have h2 := pMore_goes c (by omega) (by omega) h
    omega
  ·injection h with h
   injection h with h1 h2
   injection h2 with h2 h3
   subst h1 h2 h3
   omega
theorem pTwo_goes {m m' : Int → Bool} {i p : Nat} {l' : List VT} {i' p' : Nat} (hi : i ≤ s.size) (hp : p ≤ 256) (h : pTwo s rec m m' i p = .ok (l', i', p')) : i ≤ i' ∧ i' ≤ s.size ∧ p ≤ p' ∧ p' ≤ 256 := by
 unfold pTwo at h
 split at h
 ·cases h
 ·rename_i l2 i2 p2 he
  have h1 := pOne_goes hr hi hp he
  split at h
  ·rename_i hb
   have hlt := isB_lt (by omega) hb
   have h2 := pOne_goes hr (by omega) (by omega) h
   omega
  ·cases h
omit hr in
theorem withN_ok {n n' : Int} {r : Except Nat (List VT × Nat × Nat)} {x : List VT × Nat × Nat} (h : withN n r = .ok (n', x)) : n' = n ∧ r = .ok x := by
 unfold withN at h
 split at h
 ·cases h
 ·injection h with h
  injection h with h1 h2
  subst h1 h2
  exact ⟨rfl, rfl⟩
omit hr in
theorem pNum_ok {most i : Nat} {rest : Nat → Except Nat (List VT × Nat × Nat)} {n' : Int} {x : List VT × Nat × Nat} (h : pNum s most i rest = .ok (n', x)) : ∃ (n i2 : Nat), num s most i = .ok (n, i2) ∧ n' = n ∧ rest i2 = .ok x := by
 unfold pNum at h
 split at h
 ·cases h
 ·rename_i n i2 he
  have := withN_ok h
  exact ⟨n, i2, he, this.1, this.2⟩
theorem pList_goes {k i p : Nat} {n : Int} {l : List VT} {i' p' : Nat} (hi : i ≤ s.size) (hp : p ≤ 256) (h : pList s rec k i p = .ok (n, l, i', p')) : i ≤ i' ∧ i' ≤ s.size ∧ p ≤ p' ∧ p' ≤ 256 ∧ 0 ≤ n ∧ n ≤ 9223372036854775807 := by
 unfold pList at h
 split at h
 ·obtain ⟨rfl, h9⟩ := withN_ok h
  have := pTwo_goes hr hi hp h9; omega
 ·obtain ⟨n2, i2, he, rfl, h9⟩ := pNum_ok h
  have := num_ok he hi (by omega)
  injection h9 with h9
  injection h9 with h1 h2
  injection h2 with h2 h3
  omega
 ·obtain ⟨n2, i2, he, rfl, h9⟩ := pNum_ok h
  have := num_ok he hi (by omega)
  injection h9 with h9
  injection h9 with h1 h2
  injection h2 with h2 h3
  omega
 ·obtain ⟨rfl, h9⟩ := withN_ok h
  have := pTwo_goes hr hi hp h9; omega
 ·obtain ⟨rfl, h9⟩ := withN_ok h
  have := pOne_goes hr hi hp h9; omega
 ·obtain ⟨rfl, h9⟩ := withN_ok h
  have := pOne_goes hr hi hp h9; omega
 ·split at h
  ·injection h with h
   injection h with h0 h
   injection h with h1 h2
   injection h2 with h2 h3
   omega
  ·split at h
   ·cases h
   ·rename_i l2 i2 p2 he
    have h1 := pOne_goes hr hi hp he
    obtain ⟨rfl, h9⟩ := withN_ok h
    have h2 := pMore_goes hr 15 (by omega) (by omega) h9
    omega
 ·obtain ⟨n2, i2, he, rfl, h9⟩ := pNum_ok h
  have h0 := num_ok he hi (by omega)
  split at h9
  ·rename_i hb
   have hlt := isB_lt (by omega) hb
   split at h9
   ·cases h9
   ·rename_i l2 i3 p3 he
    have h1 := pOne_goes hr (by omega) hp he
    have h2 := pMore_goes hr 8 (by omega) (by omega) h9
    omega
  ·cases h9
 ·obtain ⟨n2, i2, he, rfl, h9⟩ := pNum_ok h
  have h0 := num_ok he hi (by omega)
  have h2 := pMore_goes hr 8 (by omega) (by omega) h9
  omega
 ·obtain ⟨n2, i2, he, rfl, h9⟩ := pNum_ok h
  have h0 := num_ok he hi (by omega)
  have h2 := pMore_goes hr 8 (by omega) (by omega) h9
  omega
 ·injection h with h
  injection h with h0 h
  injection h with h1 h2
  injection h2 with h2 h3
  omega
end
theorem findC_some {s : ByteArray} {st n : Nat} {m : Int → Bool} : ∀ {f j k : Nat}, findC s st n m f j = some k → cand s st n m k = true ∧ j ≤ k ∧ k < j + f
 | 0, j, k, h => by rw [findC] at h; cases h
 | f + 1, j, k, h => by
  rw [findC] at h
  split at h
  ·rename_i hc
   injection h with h
   subst h
   exact ⟨hc, by omega⟩
  ·have := findC_some h
   exact ⟨this.1, by omega, by omega⟩
theorem cand_lt {s : ByteArray} {st n k : Nat} {m : Int → Bool} (h : cand s st n m k = true) : st + n < s.size ∧ n < (wdB k).size ∧ m k = true := by
 unfold cand at h
 simp only [Bool.and_eq_true, decide_eq_true_eq] at h
 exact ⟨isB_lt (by rw [bt_in h.1.1.1]; omega) h.2, h.1.1.1, h.1.1.2⟩
theorem wordGo_goes {s : ByteArray} {st : Nat} {m : Int → Bool} : ∀ {f n k j : Nat}, wordGo s st m f n = .ok (k, j) → st + n < j ∧ j ≤ s.size ∧ k < 14 ∧ m k = true ∧ 0 < (wdB k).size
 | 0, n, k, j, h => by rw [wordGo] at h; cases h
 | f + 1, n, k, j, h => by
  rw [wordGo] at h
  split at h
  ·cases h
  ·rename_i k2 he
   have h1 := findC_some he
   have h2 := cand_lt h1.1
   split at h
   ·injection h with h
    injection h with h3 h4
    subst h3 h4
    exact ⟨by omega, by omega, by omega, h2.2.2, by omega⟩
   ·have := wordGo_goes h
    exact ⟨by omega, by omega, by omega, this.2.2.2⟩
theorem word_goes {s : ByteArray} {st : Nat} {m : Int → Bool} {k j : Nat} (h : word s st m = .ok (k, j)) : st < j ∧ j ≤ s.size ∧ k < 14 ∧ m k = true ∧ 0 < (wdB k).size := wordGo_goes h
theorem pVal_goes (s : ByteArray) : ∀ f, Goes s (pVal s f)
 | 0, m, i, p, t, i', p', hi, hp, h => by rw [pVal] at h; cases h
 | f + 1, m, i, p, t, i', p', hi, hp, h => by
  rw [pVal] at h
  split at h
  ·cases h
  ·split at h
   ·rename_i hb
    have hlt : i < s.size := by
     simp only [Bool.or_eq_true] at hb
     rcases hb with hb | hb
     ·exact isB_lt (by omega) hb
     ·exact dig_lt hb
    split at h
    ·unfold integer at h
     split at h
     ·split at h
      ·cases h
      ·split at h
       ·cases h
       ·rename_i n j he
        have := num_ok he (by omega) (by omega)
        injection h with h
        injection h with h1 h2
        injection h2 with h2 h3
        omega
     ·split at h
      ·cases h
      ·rename_i n j he
       have := num_ok he (by omega) (by omega)
       injection h with h
       injection h with h1 h2
       injection h2 with h2 h3
       omega
    ·cases h
   ·split at h
    ·cases h
    ·rename_i k j he
     have hw := word_goes he
     split at h
     ·injection h with h
      injection h with h1 h2
      injection h2 with h2 h3
      omega
     ·split at h
      ·rename_i hb
       have hlt := isB_lt (by omega) hb
       split at h
       ·cases h
       ·rename_i n l j' p2 hl
        have h1 := pList_goes (pVal_goes s f) (by omega) (by omega) hl
        split at h
        ·rename_i hb2
         have hlt2 := isB_lt (by omega) hb2
         injection h with h
         injection h with h1 h2
         injection h2 with h2 h3
         omega
        ·cases h
      ·cases h
end Go.Proofs.YtjldbbcdhdfliaaGreatDoor
/-
 Statements and small lemmas for the reader's value, list and more.
-/
namespace Go.Proofs.YtjldbbcdhdfliaaGreatDoor
open Go.RowKit

def ValC (s : ByteArray) (f : Nat) : Prop := ∀ (m : Int → Bool) (mf b i p : Nat) (w : World), MayIs mf m → Rd w b s i p → i ≤ s.size → p ≤ 256 → 256 ≤ p + f → HasWords w → b ≠ 0 →
 Calls Tryz.prog 102 #[.pointer (some ⟨b, 0, none⟩), .func (.func mf) #[] #[]] w (ValEnds b s w (pVal s f m i p))

def LstEnds (lo b vb : Nat) (s : ByteArray) (k n : Int) (w : World) (r : Except Nat (List VT × Nat × Nat)) (e : Ending) (w' : World) : Prop :=
 match r with
 | .error j => e = Wrong j ∧ Fx lo b vb w w'
 | .ok (l, i, p) => e = .returned (.tuple #[]) ∧ Rd w' b s i p ∧ (∃ v xs, Acc lo w' vb k n l v xs) ∧ Fx lo b vb w w'

theorem val_info : (Tryz.prog.info? 27).map (fun i => (i.zero, i.size, i.bytes)) = some (some (.agg #[.int .i64 0, .int .i64 0, .slice none 0 0]), 3, 40) := by kernel_rfl

theorem zeros_at {W : World} {z : Nat} {t : TypeId} (hx : Bx W z t (.int .i64 0) (.int .i64 0) (.slice none 0 0)) : ∀ (j : Nat) (u : Value), zeroV[j]? = some u → W.cell? ((⟨z, 0, none⟩ : Addr).add j) = some u := by
 intro j u hj
 unfold zeroV at hj
 match j, hj with
 | 0, hj => simp at hj; subst hj; exact hx.c0
 | 1, hj => simp at hj; subst hj; exact hx.c1
 | 2, hj => simp at hj; subst hj; exact hx.c2
 | n + 3, hj => simp at hj
theorem zeros_one : ∀ u ∈ zeroV, u.oneCell' = true := by intro u hu; simp [zeroV] at hu; rcases hu with rfl | rfl | rfl <;> rfl

/-- What stands behind an append of an empty value: the three cells of the new place. -/
theorem new_place {W : World} {lo g n cap : Nat} {xs : List Value} (h : W.ownsRow lo 27 3 (.slice (some ⟨g, 0, none⟩) (n + 1) cap) (n + 1) (xs ++ zeroV)) :
  W.cell? ⟨g, n * 3, none⟩ = some (.int .i64 0) ∧ W.cell? ⟨g, n * 3 + 1, none⟩ = some (.int .i64 0) ∧ W.cell? ⟨g, n * 3 + 2, none⟩ = some (.slice none 0 0) ∧ (∀ o, W.frozen? ⟨g, o, none⟩ = false) ∧ n + 1 ≤ cap := by
 have hl : xs.length = n * 3 := by have := h.1; simp [zeroV] at this; omega
 refine ⟨?_, ?_, ?_, h.frozenAt, ?_⟩
 ·rw [h.cellAt _ (by omega), ← hl, List.getElem?_append_right (by omega)]; simp [zeroV]
 ·rw [h.cellAt _ (by omega), ← hl, List.getElem?_append_right (by omega)]; simp [zeroV]
 ·rw [h.cellAt _ (by omega), ← hl, List.getElem?_append_right (by omega)]; simp [zeroV]
 ·rcases h.2 with ⟨h1, _⟩ | ⟨g', cap', cur, h1, _, _, h2, _⟩
  ·cases h1
  ·injection h1 with _ _ h3
   omega

theorem vb_after {lo vb g cap m : Nat} {W W1 : World} {k n : Int} {l : List VT} {v : Value} {xs ys : List Value} (h : Acc lo W vb k n l v xs) (hown : W1.ownsRow lo 27 3 (.slice (some ⟨g, 0, none⟩) m cap) m ys) (hgr : W.grownBy W1 v.ownBlock) :
  W1.cell? ⟨vb, 2, none⟩ = some v ∧ W1.frozen? ⟨vb, 2, none⟩ = false ∧ ¬ g = vb ∧ ¬ vb = g := by
 have hvl := h.vlt
 have hle := h.le
 have hne : some vb ≠ v.ownBlock := fun e => by have := (h.row.lt vb e.symm).1; omega
 have hb : Bx W1 vb 27 (.int .i64 k) (.int .i64 n) v := (hgr.block vb (by omega) hne).trans h.box
 have := (hown.lt g rfl).1
 exact ⟨hb.c2, hb.fz 2, by omega, by omega⟩

end Go.Proofs.YtjldbbcdhdfliaaGreatDoor
