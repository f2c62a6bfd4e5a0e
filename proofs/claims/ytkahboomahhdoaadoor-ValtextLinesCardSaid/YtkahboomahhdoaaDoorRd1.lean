/-
  Walks over package valtext's reader: fail, next, digit, skip, number.
-/
import Derived.Test.YtkahboomahhdoaaDoorVal5
namespace Go.Proofs.YtkahboomahhdoaaDoor
open Go.RowKit

/-- The byte at a place; -1 behind the end. -/
def bt (s : ByteArray) (i : Nat) : Int := if h : i < s.size then (s[i].toNat : Int) else -1
theorem bt_in {s : ByteArray} {i : Nat} (h : i < s.size) : bt s i = (s[i].toNat : Int) := by unfold bt; rw [dif_pos h]
theorem bt_out {s : ByteArray} {i : Nat} (h : ¬ i < s.size) : bt s i = -1 := by unfold bt; rw [dif_neg h]
theorem bt_lt (s : ByteArray) (i : Nat) : -1 ≤ bt s i ∧ bt s i ≤ 255 := by
  unfold bt
  split
  · have := s[i].toNat_lt; omega
  · omega
def isB (s : ByteArray) (i : Nat) (c : Int) : Bool := decide (bt s i = c)
def dig (s : ByteArray) (i : Nat) : Bool := decide (48 ≤ bt s i) && decide (bt s i ≤ 57)

/-- The reader's block. -/
def Rd (w : World) (b : Nat) (s : ByteArray) (i p : Nat) : Prop := w.heap[b]? = some (.cells #[.string s, .int .i64 i, .int .i64 p] 64 (0, 0))
section
variable {w w' : World} {b : Nat} {s : ByteArray} {i p : Nat}
theorem Rd.lt (h : Rd w b s i p) : b < w.heap.size := by
  rcases Nat.lt_or_ge b w.heap.size with hlt | hge
  · exact hlt
  · unfold Rd at h; rw [Array.getElem?_eq_none hge] at h; cases h
theorem Rd.c0 (h : Rd w b s i p) : w.cell? ⟨b, 0, none⟩ = some (.string s) := by unfold Rd at h; simp [World.cell?, h]
theorem Rd.c1 (h : Rd w b s i p) : w.cell? ⟨b, 1, none⟩ = some (.int .i64 i) := by unfold Rd at h; simp [World.cell?, h]
theorem Rd.c2 (h : Rd w b s i p) : w.cell? ⟨b, 2, none⟩ = some (.int .i64 p) := by unfold Rd at h; simp [World.cell?, h]
theorem Rd.fz (h : Rd w b s i p) (o : Nat) : w.frozen? ⟨b, o, none⟩ = false := by unfold Rd at h; simp [World.frozen?, h]
theorem Rd.drewN (h : Rd w b s i p) (n : Nat) : Rd (w.drewN n) b s i p := h
theorem Rd.drew (h : Rd w b s i p) : Rd w.drew b s i p := h
theorem Rd.alloc (h : Rd w b s i p) (o : Obj) : Rd (w.alloc o) b s i p := (Below.heap_alloc w o b h.lt).trans h
theorem Rd.set1 (h : Rd w b s i p) (j : Nat) : Rd (w.setCell ⟨b, 1, none⟩ (.int .i64 j)) b s j p := by
  unfold Rd at h ⊢
  simp [World.setCell, Array.getElem?_modify, h]
theorem Rd.set2 (h : Rd w b s i p) (j : Nat) : Rd (w.setCell ⟨b, 2, none⟩ (.int .i64 j)) b s i j := by
  unfold Rd at h ⊢
  simp [World.setCell, Array.getElem?_modify, h]
theorem Rd.far (h : Rd w b s i p) {q : Addr} (hq : b ≠ q.block) (u : Value) : Rd (w.setCell q u) b s i p := (Below.heap_setCell w q u b hq).trans h
theorem Rd.keep (h : Rd w b s i p) (hk : w'.heap[b]? = w.heap[b]?) : Rd w' b s i p := hk.trans h
end
def rdAt (w : World) (b : Nat) : Nat := match w.cell? ⟨b, 1, none⟩ with | some (.int _ i) => i.toNat | _ => 0
theorem Rd.at_ {w : World} {b : Nat} {s : ByteArray} {i p : Nat} (h : Rd w b s i p) : rdAt w b = i := by
  unfold rdAt; rw [h.c1]; simp

/-- Nothing but the reader's block (and new blocks) has turned. -/
def Gr (b : Nat) (w w' : World) : Prop := w.grownBy w' (some b)
theorem Gr.refl (b : Nat) (w : World) : Gr b w w := World.grownBy.refl w _
theorem Gr.trans {b : Nat} {w w1 w2 : World} (h : Gr b w w1) (h' : Gr b w1 w2) : Gr b w w2 :=
  ⟨h'.os.trans h.os, h'.tape.trans h.tape, h'.output.trans h.output, Nat.le_trans h.size h'.size, fun k hk hr => (h'.block k (Nat.lt_of_lt_of_le hk h.size) hr).trans (h.block k hk hr)⟩
theorem Gr.drewN {b : Nat} {w w1 : World} (h : Gr b w w1) (n : Nat) : Gr b w (w1.drewN n) := ⟨h.os, h.tape, h.output, h.size, h.block⟩
theorem Gr.drew {b : Nat} {w w1 : World} (h : Gr b w w1) : Gr b w w1.drew := ⟨h.os, h.tape, h.output, h.size, h.block⟩
theorem Gr.alloc {b : Nat} {w w1 : World} (h : Gr b w w1) (o : Obj) : Gr b w (w1.alloc o) :=
  h.trans ⟨rfl, rfl, rfl, by simp, fun k hk _ => Below.heap_alloc _ _ _ hk⟩
theorem Gr.set {b : Nat} {w w1 : World} (h : Gr b w w1) (o : Nat) (u : Value) : Gr b w (w1.setCell ⟨b, o, none⟩ u) :=
  h.trans ⟨rfl, rfl, rfl, by simp [World.setCell], fun k _ hr => Below.heap_setCell _ _ _ _ (fun e => hr (by rw [e]))⟩
/-- A store into a block that is younger than w. -/
theorem Gr.setNew {b : Nat} {w w1 : World} (h : Gr b w w1) {q : Addr} (hq : w.heap.size ≤ q.block) (u : Value) : Gr b w (w1.setCell q u) :=
  ⟨h.os, h.tape, h.output, by simpa [World.setCell] using h.size, fun k hk hr => (Below.heap_setCell _ _ _ _ (by omega)).trans (h.block k hk hr)⟩
theorem Gr.below {b : Nat} {w w1 w2 : World} (h : Gr b w w1) (hb : Below w1.heap.size w1 w2) : Gr b w w2 :=
  h.trans ⟨hb.os, hb.tape, hb.output, hb.size, fun k hk _ => hb.block k hk⟩
theorem Gr.cell {b : Nat} {w w' : World} (h : Gr b w w') {q : Addr} (hq : q.block < w.heap.size) (hb : q.block ≠ b) : w'.cell? q = w.cell? q :=
  World.cell?_of_block (w := w) (h.block q.block hq (fun e => hb (by injection e)))
theorem Gr.frozen {b : Nat} {w w' : World} (h : Gr b w w') {q : Addr} (hq : q.block < w.heap.size) (hb : q.block ≠ b) : w'.frozen? q = w.frozen? q :=
  World.frozen?_of_block (w := w) (h.block q.block hq (fun e => hb (by injection e)))

set_option maxHeartbeats 400000 in
theorem fail_any (b : Nat) (i : Int) (w : World) (h1 : w.cell? ⟨b, 1, none⟩ = some (.int .i64 i)) :
    Calls Tryd.prog 32 #[.pointer (some ⟨b, 0, none⟩)] w fun e w' => e = .panicked [{ v := .iface 60 (.int .i64 i), recovered := false }] ∧ w = w' := by
  go_enter Tryd.func32, Tryd.ntmps32
  go_wp2
  exact ⟨rfl, rfl, rfl⟩

set_option maxHeartbeats 400000 in
theorem next_any (b : Nat) (s : ByteArray) (i p : Nat) (c : Int) (w : World) (h : Rd w b s i p) (_hs : s.size ≤ maxLen) (hc : 0 ≤ c) (_hi : i ≤ s.size) :
    Calls Tryd.prog 53 #[.pointer (some ⟨b, 0, none⟩), .int .u8 c] w fun e w' => e = .returned (.bool (isB s i c)) ∧ ∃ n, w' = w.drewN n := by
  unfold maxLen at _hs
  have h0 := h.c0
  have h1 := h.c1
  clear h
  by_cases _hi : i < s.size
  · go_enter Tryd.func53, Tryd.ntmps53
    go_wp2
    go_quiet (fail)
    go_wp2
    go_ret
    refine ⟨ret_bool ?_, _, rfl⟩
    unfold isB
    rw [bt_in _hi]
    exact (Bool.beq_eq_decide_eq _ _)
  · have hd : decide (i < s.size) = false := by simpa using _hi
    go_enter Tryd.func53, Tryd.ntmps53
    go_wp2
    go_quiet (fail)
    go_wp2
    go_ret
    refine ⟨ret_bool ?_, _, rfl⟩
    unfold isB
    rw [bt_out _hi]
    symm
    rw [decide_eq_false_iff_not]
    omega

set_option maxHeartbeats 400000 in
theorem digit_any (b : Nat) (s : ByteArray) (i p : Nat) (w : World) (h : Rd w b s i p) (_hs : s.size ≤ maxLen) (_hi : i ≤ s.size) :
    Calls Tryd.prog 54 #[.pointer (some ⟨b, 0, none⟩)] w fun e w' => e = .returned (.bool (dig s i)) ∧ ∃ n, w' = w.drewN n := by
  unfold maxLen at _hs
  have h0 := h.c0
  have h1 := h.c1
  clear h
  by_cases _hi : i < s.size
  · by_cases h48 : 48 ≤ (s[i].toNat : Int)
    · go_enter Tryd.func54, Tryd.ntmps54
      go_wp2
      go_quiet (fail)
      go_wp2
      go_ret
      refine ⟨ret_bool ?_, _, rfl⟩
      unfold dig
      rw [bt_in _hi]
      simp [h48]
    · have hd : decide (48 ≤ (s[i].toNat : Int)) = false := by simpa using h48
      go_enter Tryd.func54, Tryd.ntmps54
      go_wp2
      go_quiet (fail)
      go_wp2
      go_ret
      refine ⟨ret_bool ?_, _, rfl⟩
      unfold dig
      rw [bt_in _hi]
      simp
      omega
  · have hd : decide (i < s.size) = false := by simpa using _hi
    go_enter Tryd.func54, Tryd.ntmps54
    go_wp2
    go_quiet (fail)
    go_wp2
    go_ret
    refine ⟨ret_bool ?_, _, rfl⟩
    unfold dig
    rw [bt_out _hi]
    rfl
end Go.Proofs.YtkahboomahhdoaaDoor
