/-
 Walks over package valtext's reader: fail, next, digit, skip, number.
-/
import Derived.Test.YtjldbbcdhdfliaaGreatDoorVal
namespace Go.Proofs.YtjldbbcdhdfliaaGreatDoor
open Go.RowKit

/-- The byte at a place; -1 behind the end. -/
def bt (s : ByteArray) (i : Nat) : Int := if h : i < s.size then (s[i].toNat : Int) else -1
theorem bt_in {s : ByteArray} {i : Nat} (h : i < s.size) : bt s i = (s[i].toNat : Int) := by unfold bt; rw [dif_pos h]
theorem bt_out {s : ByteArray} {i : Nat} (h : ¬ i < s.size) : bt s i = -1 := by unfold bt; rw [dif_neg h]
def isB (s : ByteArray) (i : Nat) (c : Int) : Bool := decide (bt s i = c)
def dig (s : ByteArray) (i : Nat) : Bool := decide (48 ≤ bt s i) && decide (bt s i ≤ 57)

/-- The reader's block. -/
def Rd (w : World) (b : Nat) (s : ByteArray) (i p : Nat) : Prop := w.heap[b]? = some (.cells #[.string s, .int .i64 i, .int .i64 p] 168 (0, 0))
section
variable {w w' : World} {b : Nat} {s : ByteArray} {i p : Nat}
theorem Rd.lt (h : Rd w b s i p) : b < w.heap.size := by
 rcases Nat.lt_or_ge b w.heap.size with hlt | hge
 ·exact hlt
 ·unfold Rd at h; rw [Array.getElem?_eq_none hge] at h; cases h
theorem Rd.c0 (h : Rd w b s i p) : w.cell? ⟨b, 0, none⟩ = some (.string s) := by unfold Rd at h; simp [World.cell?, h]
theorem Rd.c1 (h : Rd w b s i p) : w.cell? ⟨b, 1, none⟩ = some (.int .i64 i) := by unfold Rd at h; simp [World.cell?, h]
theorem Rd.c2 (h : Rd w b s i p) : w.cell? ⟨b, 2, none⟩ = some (.int .i64 p) := by unfold Rd at h; simp [World.cell?, h]
theorem Rd.fz (h : Rd w b s i p) (o : Nat) : w.frozen? ⟨b, o, none⟩ = false := by unfold Rd at h; simp [World.frozen?, h]
theorem Rd.drewN (h : Rd w b s i p) (n : Nat) : Rd (w.drewN n) b s i p := h
theorem Rd.drew (h : Rd w b s i p) : Rd w.drew b s i p := h
theorem Rd.alloc (h : Rd w b s i p) (o : Obj) : Rd (w.alloc o) b s i p := (Below.heap_alloc w o b h.lt).trans h
theorem Rd.set1 (h : Rd w b s i p) (j : Nat) : Rd (w.setCell ⟨b, 1, none⟩ (.int .i64 j)) b s j p := by
 unfold Rd at h ⊢
 simp [World.setCell, Array.getElem?_modify, h]
theorem Rd.set2 (h : Rd w b s i p) (j : Nat) : Rd (w.setCell ⟨b, 2, none⟩ (.int .i64 j)) b s i j := by
 unfold Rd at h ⊢
 simp [World.setCell, Array.getElem?_modify, h]
theorem Rd.far (h : Rd w b s i p) {q : Addr} (hq : b ≠ q.block) (u : Value) : Rd (w.setCell q u) b s i p := (Below.heap_setCell w q u b hq).trans h
theorem Rd.keep (h : Rd w b s i p) (hk : w'.heap[b]? = w.heap[b]?) : Rd w' b s i p := hk.trans h
end
def rdAt (w : World) (b : Nat) : Nat := match w.cell? ⟨b, 1, none⟩ with | some (.int _ i) => i.toNat | _ => 0
theorem Rd.at_ {w : World} {b : Nat} {s : ByteArray} {i p : Nat} (h : Rd w b s i p) : rdAt w b = i := by
 unfold rdAt; rw [h.c1]; simp

/-- Nothing but the reader's block (and new blocks) has turned. -/
def Gr (b : Nat) (w w' : World) : Prop := w.grownBy w' (some b)
theorem Gr.refl (b : Nat) (w : World) : Gr b w w := World.grownBy.refl w _
theorem Gr.trans {b : Nat} {w w1 w2 : World} (h : Gr b w w1) (h' : Gr b w1 w2) : Gr b w w2 :=
 ⟨h'.os.trans h.os, h'.tape.trans h.tape, h'.output.trans h.output, Nat.le_trans h.size h'.size, fun k hk hr => (h'.block k (Nat.lt_of_lt_of_le hk h.size) hr).trans (h.block k hk hr)⟩
theorem Gr.drewN {b : Nat} {w w1 : World} (h : Gr b w w1) (n : Nat) : Gr b w (w1.drewN n) := ⟨h.os, h.tape, h.output, h.size, h.block⟩
theorem Gr.drew {b : Nat} {w w1 : World} (h : Gr b w w1) : Gr b w w1.drew := ⟨h.os, h.tape, h.output, h.size, h.block⟩
theorem Gr.alloc {b : Nat} {w w1 : World} (h : Gr b w w1) (o : Obj) : Gr b w (w1.alloc o) :=
 h.trans ⟨rfl, rfl, rfl, by simp, fun k hk _ => Below.heap_alloc _ _ _ hk⟩
theorem Gr.set {b : Nat} {w w1 : World} (h : Gr b w w1) (o : Nat) (u : Value) : Gr b w (w1.setCell ⟨b, o, none⟩ u) :=
 h.trans ⟨rfl, rfl, rfl, by simp [World.setCell], fun k _ hr => Below.heap_setCell _ _ _ _ (fun e => hr (by rw [e]))⟩
/-- A store into a block that is younger than w. -/
theorem Gr.setNew {b : Nat} {w w1 : World} (h : Gr b w w1) {q : Addr} (hq : w.heap.size ≤ q.block) (u : Value) : Gr b w (w1.setCell q u) :=
 ⟨h.os, h.tape, h.output, by simpa [World.setCell] using h.size, fun k hk hr => (Below.heap_setCell _ _ _ _ (by omega)).trans (h.block k hk hr)⟩
theorem Gr.below {b : Nat} {w w1 w2 : World} (h : Gr b w w1) (hb : Below w1.heap.size w1 w2) : Gr b w w2 :=
 h.trans ⟨hb.os, hb.tape, hb.output, hb.size, fun k hk _ => hb.block k hk⟩
theorem Gr.cell {b : Nat} {w w' : World} (h : Gr b w w') {q : Addr} (hq : q.block < w.heap.size) (hb : q.block ≠ b) : w'.cell? q = w.cell? q :=
 World.cell?_of_block (w := w) (h.block q.block hq (fun e => hb (by injection e)))
theorem Gr.frozen {b : Nat} {w w' : World} (h : Gr b w w') {q : Addr} (hq : q.block < w.heap.size) (hb : q.block ≠ b) : w'.frozen? q = w.frozen? q :=
 World.frozen?_of_block (w := w) (h.block q.block hq (fun e => hb (by injection e)))

set_option maxHeartbeats 400000 in
theorem fail_any (b : Nat) (i : Int) (w : World) (h1 : w.cell? ⟨b, 1, none⟩ = some (.int .i64 i)) :
  Calls Tryz.prog 104 #[.pointer (some ⟨b, 0, none⟩)] w fun e w' => e = .panicked [{ v := .iface 164 (.int .i64 i), recovered := false }] ∧ w = w' := by
 go_enter Tryz.func104, Tryz.ntmps104
 go_wp2
 exact ⟨rfl, rfl, rfl⟩

set_option maxHeartbeats 400000 in
theorem next_any (b : Nat) (s : ByteArray) (i p : Nat) (c : Int) (w : World) (h : Rd w b s i p) (_hs : s.size ≤ maxLen) (hc : 0 ≤ c) (_hi : i ≤ s.size) :
  Calls Tryz.prog 128 #[.pointer (some ⟨b, 0, none⟩), .int .u8 c] w fun e w' => e = .returned (.bool (isB s i c)) ∧ ∃ n, w' = w.drewN n := by
 unfold maxLen at _hs
 have h0 := h.c0
 have h1 := h.c1
 clear h
 by_cases _hi : i < s.size
 ·go_enter Tryz.func128, Tryz.ntmps128
  go_wp2
  go_quiet (fail)
  go_wp2
  go_ret
  refine ⟨ret_bool ?_, _, rfl⟩
  unfold isB
  rw [bt_in _hi]
  exact (Bool.beq_eq_decide_eq _ _)
 ·have hd : decide (i < s.size) = false := by simpa using _hi
  go_enter Tryz.func128, Tryz.ntmps128
  go_wp2
  go_quiet (fail)
  go_wp2
  go_ret
  refine ⟨ret_bool ?_, _, rfl⟩
  unfold isB
  rw [bt_out _hi]
  symm
  rw [decide_eq_false_iff_not]
  omega

set_option maxHeartbeats 400000 in
theorem digit_any (b : Nat) (s : ByteArray) (i p : Nat) (w : World) (h : Rd w b s i p) (_hs : s.size ≤ maxLen) (_hi : i ≤ s.size) :
  Calls Tryz.prog 129 #[.pointer (some ⟨b, 0, none⟩)] w fun e w' => e = .returned (.bool (dig s i)) ∧ ∃ n, w' = w.drewN n := by
 unfold maxLen at _hs
 have h0 := h.c0
 have h1 := h.c1
 clear h
 by_cases _hi : i < s.size
 ·by_cases h48 : 48 ≤ (s[i].toNat : Int)
  ·go_enter Tryz.func129, Tryz.ntmps129
   go_wp2
   go_quiet (fail)
   go_wp2
   go_ret
   refine ⟨ret_bool ?_, _, rfl⟩
   unfold dig
   rw [bt_in _hi]
   simp [h48]
  ·have hd : decide (48 ≤ (s[i].toNat : Int)) = false := by simpa using h48
   go_enter Tryz.func129, Tryz.ntmps129
   go_wp2
   go_quiet (fail)
   go_wp2
   go_ret
   refine ⟨ret_bool ?_, _, rfl⟩
   unfold dig
   rw [bt_in _hi]
   simp
   omega
 ·have hd : decide (i < s.size) = false := by simpa using _hi
  go_enter Tryz.func129, Tryz.ntmps129
  go_wp2
  go_quiet (fail)
  go_wp2
  go_ret
  refine ⟨ret_bool ?_, _, rfl⟩
  unfold dig
  rw [bt_out _hi]
  rfl
end Go.Proofs.YtjldbbcdhdfliaaGreatDoor
/-
 Walks over package valtext's reader: skip, number, integer.
-/
namespace Go.Proofs.YtjldbbcdhdfliaaGreatDoor
open Go.RowKit

/-- A block of three cells that is known whole. -/
def Bx (w : World) (g : Nat) (t : TypeId) (v0 v1 v2 : Value) : Prop := w.heap[g]? = some (.cells #[v0, v1, v2] t (0, 0))
section
variable {w w' : World} {g : Nat} {t : TypeId} {v0 v1 v2 : Value}
theorem Bx.lt (h : Bx w g t v0 v1 v2) : g < w.heap.size := by
 rcases Nat.lt_or_ge g w.heap.size with hlt | hge
 ·exact hlt
 ·unfold Bx at h; rw [Array.getElem?_eq_none hge] at h; cases h
theorem Bx.new (w : World) (t : TypeId) (v0 v1 v2 : Value) : Bx (w.alloc (.cells #[v0, v1, v2] t)) w.heap.size t v0 v1 v2 := heap_alloc_new w _
theorem Bx.c0 (h : Bx w g t v0 v1 v2) : w.cell? ⟨g, 0, none⟩ = some v0 := by unfold Bx at h; simp [World.cell?, h]
theorem Bx.c1 (h : Bx w g t v0 v1 v2) : w.cell? ⟨g, 1, none⟩ = some v1 := by unfold Bx at h; simp [World.cell?, h]
theorem Bx.c2 (h : Bx w g t v0 v1 v2) : w.cell? ⟨g, 2, none⟩ = some v2 := by unfold Bx at h; simp [World.cell?, h]
theorem Bx.fz (h : Bx w g t v0 v1 v2) (o : Nat) : w.frozen? ⟨g, o, none⟩ = false := by unfold Bx at h; simp [World.frozen?, h]
theorem Bx.drew (h : Bx w g t v0 v1 v2) : Bx w.drew g t v0 v1 v2 := h
theorem Bx.drewN (h : Bx w g t v0 v1 v2) (n : Nat) : Bx (w.drewN n) g t v0 v1 v2 := h
theorem Bx.alloc (h : Bx w g t v0 v1 v2) (o : Obj) : Bx (w.alloc o) g t v0 v1 v2 := (Below.heap_alloc w o g h.lt).trans h
theorem Bx.set0 (h : Bx w g t v0 v1 v2) (u : Value) : Bx (w.setCell ⟨g, 0, none⟩ u) g t u v1 v2 := by
 unfold Bx at h ⊢
 simp [World.setCell, Array.getElem?_modify, h]
theorem Bx.set1 (h : Bx w g t v0 v1 v2) (u : Value) : Bx (w.setCell ⟨g, 1, none⟩ u) g t v0 u v2 := by
 unfold Bx at h ⊢
 simp [World.setCell, Array.getElem?_modify, h]
theorem Bx.set2 (h : Bx w g t v0 v1 v2) (u : Value) : Bx (w.setCell ⟨g, 2, none⟩ u) g t v0 v1 u := by
 unfold Bx at h ⊢
 simp [World.setCell, Array.getElem?_modify, h]
theorem Bx.far (h : Bx w g t v0 v1 v2) {q : Addr} (hq : g ≠ q.block) (u : Value) : Bx (w.setCell q u) g t v0 v1 v2 := (Below.heap_setCell w q u g hq).trans h
theorem Bx.below {B : Nat} (h : Bx w g t v0 v1 v2) (hb : Below B w w') (hg : g < B) : Bx w' g t v0 v1 v2 := (hb.block g hg).trans h
theorem Bx.belowAll (h : Bx w g t v0 v1 v2) (hb : Below w.heap.size w w') : Bx w' g t v0 v1 v2 := (hb.block g h.lt).trans h
theorem Bx.gr {b : Nat} (h : Bx w g t v0 v1 v2) (hb : Gr b w w') (hg : g ≠ b) : Bx w' g t v0 v1 v2 := (hb.block g h.lt (fun e => hg (by injection e))).trans h
theorem Rd.below {b : Nat} {s : ByteArray} {i p : Nat} (h : Rd w b s i p) (hb : Below w.heap.size w w') : Rd w' b s i p := (hb.block b h.lt).trans h
end
/-- The panic that says where a text is wrong. -/
def Wrong (i : Nat) : Ending := .panicked [{ v := .iface 164 (.int .i64 i), recovered := false }]

theorem isB_lt {s : ByteArray} {i : Nat} {c : Int} (hc : 0 ≤ c) (h : isB s i c = true) : i < s.size := by
 rcases Nat.lt_or_ge i s.size with h1 | h1
 ·exact h1
 ·unfold isB at h; rw [bt_out (by omega)] at h; simp at h; omega
set_option maxHeartbeats 400000 in
theorem skip_yes (b : Nat) (s : ByteArray) (i p : Nat) (c : Int) (w : World) (h : Rd w b s i p) (hs : s.size ≤ maxLen) (hc : 0 ≤ c) (hi : i ≤ s.size) (hy : isB s i c = true) :
  Calls Tryz.prog 132 #[.pointer (some ⟨b, 0, none⟩), .int .u8 c] w fun e w' => e = .returned (.tuple #[]) ∧ Rd w' b s (i + 1) p ∧ Gr b w w' := by
 have hlt := isB_lt hc hy
 have HY := Lib.hid hy
 clear hy
 have hs2 := hs
 unfold maxLen at hs2
 go_enter Tryz.func132, Tryz.ntmps132
 go_wp2_with fail
 refine (next_any b s i p c _ h hs hc hi).mono ?_
 rintro e w1 ⟨rfl, n, rfl⟩
 rw [HY.out]
 have h1 := h.c1
 have f1 := h.fz 1
 go_wp2_with fail
 go_end0
 exact ⟨rfl, (h.drewN n).set1 (i + 1), ((Gr.refl b w).drewN n).set 1 _⟩

set_option maxHeartbeats 400000 in
theorem skip_no (b : Nat) (s : ByteArray) (i p : Nat) (c : Int) (w : World) (h : Rd w b s i p) (hs : s.size ≤ maxLen) (hc : 0 ≤ c) (hi : i ≤ s.size) (hy : isB s i c = false) :
  Calls Tryz.prog 132 #[.pointer (some ⟨b, 0, none⟩), .int .u8 c] w fun e w' => e = Wrong i ∧ Gr b w w' := by
 have HY := Lib.hid hy
 clear hy
 go_enter Tryz.func132, Tryz.ntmps132
 go_wp2_with fail
 refine (next_any b s i p c _ h hs hc hi).mono ?_
 rintro e w1 ⟨rfl, n, rfl⟩
 rw [HY.out]
 go_wp2_with fail
 refine (fail_any b i _ (h.drewN n).c1).mono ?_
 rintro e w1 ⟨rfl, rfl⟩
 exact ⟨rfl, rfl, (Gr.refl b w).drewN n⟩

/-- number's loop: fuel, place, what has been read. -/
def numGo (s : ByteArray) (most : Nat) : Nat → Nat → Nat → Except Nat (Nat × Nat)
 | 0, i, n => .ok (n, i)
 | f + 1, i, n =>
  if dig s i then
   let d := (bt s i - 48).toNat
   if (most - d) / 10 < n then .error i
   else if n * 10 + d = 0 then .ok (0, i + 1)
   else numGo s most f (i + 1) (n * 10 + d)
  else .ok (n, i)
def num (s : ByteArray) (most i : Nat) : Except Nat (Nat × Nat) :=
 if dig s i then numGo s most (s.size - i) i 0 else .error i

theorem dig_lt {s : ByteArray} {i : Nat} (h : dig s i = true) : i < s.size := by
 rcases Nat.lt_or_ge i s.size with h1 | h1
 ·exact h1
 ·unfold dig at h; rw [bt_out (by omega)] at h; simp at h
theorem dig_bt {s : ByteArray} {i : Nat} (h : dig s i = true) : 48 ≤ bt s i ∧ bt s i ≤ 57 := by
 unfold dig at h; simpa using h

/-- How a call that reads ends. -/
def NumEnds (b : Nat) (s : ByteArray) (p : Nat) (w : World) (r : Except Nat (Nat × Nat)) (e : Ending) (w' : World) : Prop :=
 match r with
 | .error i => e = Wrong i ∧ Gr b w w'
 | .ok (n, i) => e = .returned (.int .u64 n) ∧ Rd w' b s i p ∧ Gr b w w'

set_option maxHeartbeats 1000000 in
theorem number_any (b : Nat) (s : ByteArray) (i p most : Nat) (w : World) (h : Rd w b s i p) (hs : s.size ≤ maxLen) (hi : i ≤ s.size) (hm0 : 9 ≤ most) (hm : most ≤ 9223372036854775808) :
  Calls Tryz.prog 156 #[.pointer (some ⟨b, 0, none⟩), .int .u64 most] w (NumEnds b s p w (num s most i)) := by
 have hs2 := hs
 unfold maxLen at hs2
 cases hd : dig s i
 ·have HD := Lib.hid hd
  clear hd
  go_enter Tryz.func156, Tryz.ntmps156
  go_wp2_with fail
  refine (digit_any b s i p _ h hs hi).mono ?_
  rintro e w1 ⟨rfl, n, rfl⟩
  rw [HD.out]
  go_wp2_with fail
  refine (fail_any b i _ (h.drewN n).c1).mono ?_
  rintro e w1 ⟨rfl, rfl⟩
  refine ⟨rfl, ?_⟩
  unfold num
  rw [HD.out]
  exact ⟨rfl, (Gr.refl b w).drewN n⟩
 ·have HD := Lib.hid hd
  clear hd
  go_enter Tryz.func156, Tryz.ntmps156
  go_wp2_with fail
  refine (digit_any b s i p _ h hs hi).mono ?_
  rintro e w1 ⟨rfl, n, rfl⟩
  rw [HD.out]
  go_wp2_with fail
  go_loopw [5] (fun x wr => ∃ (j m : Nat), x = .int .u64 m ∧ m ≤ most ∧ j ≤ s.size ∧ num s most i = numGo s most (s.size - j) j m ∧ Rd wr b s j p ∧ Gr b w wr) (fun _ wr => s.size - rdAt wr b)
  case atStart => exact ⟨i, 0, rfl, by omega, hi, by unfold num; rw [HD.out]; rfl, h.drewN n, (Gr.refl b w).drewN n⟩
  case round =>
   obtain ⟨j, m, rfl, hmm, hj, hc, hr, hg⟩ := hrel
   have HC := Lib.hid hc
   clear hc HD h
   have hat := Lib.hid hr.at_
   cases hdj : dig s j
   ·have HD := Lib.hid hdj
    clear hdj
    go_wp2_with fail
    refine (digit_any b s j p _ hr hs hj).mono ?_
    rintro e w1 ⟨rfl, n1, rfl⟩
    rw [HD.out]
    go_wp2_with fail
    go_ret
    rw [HC.out]
    have : numGo s most (s.size - j) j m = .ok (m, j) := by
     cases s.size - j with
     | zero => rfl
     | succ f => rw [numGo, HD.out]; rfl
    rw [this]
    exact ⟨rfl, hr.drewN n1, hg.drewN n1⟩
   ·have hlt := dig_lt hdj
    have hbt := dig_bt hdj
    have HN : Hid (numGo s most (s.size - j) j m = if (most - (bt s j - 48).toNat) / 10 < m then .error j else if m * 10 + (bt s j - 48).toNat = 0 then .ok (0, j + 1) else numGo s most (s.size - (j + 1)) (j + 1) (m * 10 + (bt s j - 48).toNat)) := by
     show _ = _
     rw [show s.size - j = (s.size - (j + 1)) + 1 from by omega, numGo, hdj]
     rfl
    have HD := Lib.hid hdj
    clear hdj
    have hbi := bt_in hlt
    rw [hbi] at hbt HN
    clear hbi
    have h0 := hr.c0
    have h1 := hr.c1
    have f1 := hr.fz 1
    go_wp2_with fail
    refine (digit_any b s j p _ hr hs hj).mono ?_
    rintro e w1 ⟨rfl, n1, rfl⟩
    rw [HD.out]
    go_wp2_with fail
    go_quiet (fail)
    go_wp2_with fail
    ·refine (fail_any b j _ (hr.drewN _).c1).mono ?_
     rintro e w1 ⟨rfl, rfl⟩
     refine ⟨rfl, ?_⟩
     rw [HC.out, HN.out, if_pos (by omega)]
     exact ⟨rfl, hg.drewN _⟩
    ·go_ret
     have hz : ((m : Int) * 10 + ((s[j].toNat : Int) - 48) == 0) = true := by assumption
     rw [beq_iff_eq] at hz
     rw [HC.out, HN.out, if_neg (by omega), if_pos (by omega)]
     exact ⟨ret_int (by omega), (hr.drewN _).set1 (j + 1), (hg.drewN _).set 1 _⟩
    ·have hz : ((m : Int) * 10 + ((s[j].toNat : Int) - 48) == 0) = false := by assumption
     rw [beq_eq_false_iff_ne] at hz
     go_roundw
     case rel =>
      refine ⟨j + 1, m * 10 + ((s[j].toNat : Int) - 48).toNat, ?_, by omega, by omega, ?_, (hr.drewN _).set1 (j + 1), (hg.drewN _).set 1 _⟩
      ·congr 1; omega
      ·rw [HC.out, HN.out, if_neg (by omega), if_neg (by omega)]
     case measure =>
      show s.size - rdAt ((wr.drewN _).setCell ⟨b, 1, none⟩ (Value.int .i64 ((j + 1 : Nat) : Int))) b < _
      rw [((hr.drewN _).set1 (j + 1)).at_, hat.out]
      omega

/-- How a call that reads a value ends. -/
def ValEnds (b : Nat) (s : ByteArray) (w : World) (r : Except Nat (VT × Nat × Nat)) (e : Ending) (w' : World) : Prop :=
 match r with
 | .error i => e = Wrong i ∧ Gr b w w'
 | .ok (t, i, p) => ∃ v, e = .returned v ∧ IsV (fun g => w.heap.size ≤ g ∧ g < w'.heap.size) w' t v ∧ Rd w' b s i p ∧ Gr b w w'

/-- integer -/
def integer (s : ByteArray) (i p : Nat) : Except Nat (VT × Nat × Nat) :=
 if isB s i 45 then
  if isB s (i + 1) 48 then .error (i + 1)
  else match num s 9223372036854775808 (i + 1) with
   | .error j => .error j
   | .ok (n, j) => .ok (.mk 2 (-n) [], j, p)
 else match num s 9223372036854775807 i with
  | .error j => .error j
  | .ok (n, j) => .ok (.mk 2 n [], j, p)
end Go.Proofs.YtjldbbcdhdfliaaGreatDoor
