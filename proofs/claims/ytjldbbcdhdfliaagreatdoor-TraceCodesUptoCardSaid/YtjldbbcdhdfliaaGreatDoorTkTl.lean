/-
 A text's words as lists (layer 23); the reference's way to an event. Plain.
-/
import Derived.Test.YtjldbbcdhdfliaaGreatDoorTgTh
import Derived.Test.YtjldbbcdhdfliaaGreatDoorUaTw
import Derived.Test.YtjldbbcdhdfliaaGreatDoorAppM
import Derived.Test.YtjldbbcdhdfliaaGreatDoorEach
namespace Go.Proofs.YtjldbbcdhdfliaaGreatDoor
open Go.RowKit

end Go.Proofs.YtjldbbcdhdfliaaGreatDoor
/-
 Rows of events: how they lie in memory; a row of events that is being made.
-/
namespace Go.Proofs.YtjldbbcdhdfliaaGreatDoor
open Go.RowKit

/-- The cells of events, one behind the other. -/
def KidsE (ok : Nat → Prop) (w : World) : List Ev → List Value → Prop
 | [], xs => xs = []
 | x :: r, xs => ∃ (kk nn : Int) (a : Option Addr) (len cap : Nat) (ys : List Value), xs = (evC x kk nn a len cap).toList ++ ys ∧ IsV ok w x.v (.agg #[.int .i64 kk, .int .i64 nn, .slice a len cap]) ∧ RngE x ∧ KidsE ok w r ys
/-- An address at which events lie. -/
def IsEs (ok : Nat → Prop) (w : World) (l : List Ev) (a : Option Addr) : Prop := ∀ (j : Nat) (x : Ev), l[j]? = some x → ∃ (g o : Nat) (kk nn : Int) (a' : Option Addr) (len cap : Nat), a = some ⟨g, o, none⟩ ∧ ok g ∧
 (∀ i u, (evC x kk nn a' len cap)[i]? = some u → w.cell? ⟨g, o + j * 10 + i, none⟩ = some u) ∧ IsV ok w x.v (.agg #[.int .i64 kk, .int .i64 nn, .slice a' len cap]) ∧ RngE x
section
variable {ok ok' : Nat → Prop} {w w' : World}
theorem KidsE.keep (h : ∀ g, ok g → ∀ o, w'.cell? ⟨g, o, none⟩ = w.cell? ⟨g, o, none⟩) : ∀ {l : List Ev} {xs : List Value}, KidsE ok w l xs → KidsE ok w' l xs
 | [], _, hk => hk
 | _ :: _, _, hk => by
  obtain ⟨kk, nn, a, len, cap, ys, rfl, hv, hr, hk⟩ := hk
  exact ⟨kk, nn, a, len, cap, ys, rfl, hv.keep h, hr, KidsE.keep h hk⟩
theorem KidsE.more (h : ∀ g, ok g → ok' g) : ∀ {l : List Ev} {xs : List Value}, KidsE ok w l xs → KidsE ok' w l xs
 | [], _, hk => hk
 | _ :: _, _, hk => by
  obtain ⟨kk, nn, a, len, cap, ys, rfl, hv, hr, hk⟩ := hk
  exact ⟨kk, nn, a, len, cap, ys, rfl, hv.more h, hr, KidsE.more h hk⟩
theorem KidsE.push {x : Ev} {kk nn : Int} {a : Option Addr} {len cap : Nat} (ht : IsV ok w x.v (.agg #[.int .i64 kk, .int .i64 nn, .slice a len cap])) (hr : RngE x) : ∀ {l : List Ev} {xs : List Value}, KidsE ok w l xs → KidsE ok w (l ++ [x]) (xs ++ (evC x kk nn a len cap).toList)
 | [], _, hk => by rw [KidsE] at hk; subst hk; exact ⟨kk, nn, a, len, cap, [], by simp, ht, hr, rfl⟩
 | _ :: _, _, hk => by
  obtain ⟨kk2, nn2, a2, len2, cap2, ys, rfl, hv, hr2, hk⟩ := hk
  exact ⟨kk2, nn2, a2, len2, cap2, ys ++ (evC x kk nn a len cap).toList, by simp, hv, hr2, KidsE.push ht hr hk⟩
theorem KidsE.at_ : ∀ {l : List Ev} {xs : List Value} {j : Nat} {x : Ev}, KidsE ok w l xs → l[j]? = some x → ∃ (kk nn : Int) (a : Option Addr) (len cap : Nat), (∀ i u, (evC x kk nn a len cap)[i]? = some u → xs[j * 10 + i]? = some u) ∧ IsV ok w x.v (.agg #[.int .i64 kk, .int .i64 nn, .slice a len cap]) ∧ RngE x
 | [], _, j, x, _, h => by simp at h
 | y :: r, _, 0, x, hk, h => by
  obtain ⟨kk, nn, a, len, cap, ys, rfl, hv, hr, hk⟩ := hk
  obtain rfl : y = x := by simpa using h
  refine ⟨kk, nn, a, len, cap, fun i u hi => ?_, hv, hr⟩
  have hlt : i < (evC y kk nn a len cap).size := (Array.getElem?_eq_some_iff.1 hi).1
  rw [show 0 * 10 + i = i by omega, List.getElem?_append_left (by simpa using hlt)]
  simpa using hi
 | y :: r, _, j + 1, x, hk, h => by
  obtain ⟨kk, nn, a, len, cap, ys, rfl, hv, hr, hk⟩ := hk
  obtain ⟨kk2, nn2, a2, len2, cap2, h1, h2, h3⟩ := KidsE.at_ hk (j := j) (x := x) (by simpa using h)
  refine ⟨kk2, nn2, a2, len2, cap2, fun i u hi => ?_, h2, h3⟩
  have h10 : (evC y kk nn a len cap).toList.length = 10 := rfl
  rw [List.getElem?_append_right (by rw [h10]; omega), h10, show (j + 1) * 10 + i - 10 = j * 10 + i by omega]
  exact h1 i u hi
theorem KidsE.row {g o : Nat} (hg : ok g) {l : List Ev} {xs : List Value} (hk : KidsE ok w l xs) (hc : ∀ j u, xs[j]? = some u → w.cell? ⟨g, o + j, none⟩ = some u) : IsEs ok w l (some ⟨g, o, none⟩) := by
 intro j x hx
 obtain ⟨kk, nn, a, len, cap, h1, h2, h3⟩ := hk.at_ hx
 refine ⟨g, o, kk, nn, a, len, cap, rfl, hg, fun i u hi => ?_, h2, h3⟩
 rw [show o + j * 10 + i = o + (j * 10 + i) by omega]
 exact hc _ _ (h1 i u hi)
theorem IsEs.keep (h : ∀ g, ok g → ∀ o, w'.cell? ⟨g, o, none⟩ = w.cell? ⟨g, o, none⟩) {l : List Ev} {a : Option Addr} (he : IsEs ok w l a) : IsEs ok w' l a := by
 intro j x hx
 obtain ⟨g, o, kk, nn, a', len, cap, h1, h2, h3, h4, h5⟩ := he j x hx
 exact ⟨g, o, kk, nn, a', len, cap, h1, h2, fun i u hi => (h g h2 _).trans (h3 i u hi), h4.keep h, h5⟩
theorem IsEs.more (h : ∀ g, ok g → ok' g) {l : List Ev} {a : Option Addr} (he : IsEs ok w l a) : IsEs ok' w l a := by
 intro j x hx
 obtain ⟨g, o, kk, nn, a', len, cap, h1, h2, h3, h4, h5⟩ := he j x hx
 exact ⟨g, o, kk, nn, a', len, cap, h1, h g h2, h3, h4.more h, h5⟩
end
theorem IsEs.below {B : Nat} {w w' : World} {l : List Ev} {a : Option Addr} (h : IsEs (· < B) w l a) (hb : Below B w w') : IsEs (· < B) w' l a := h.keep fun g hg o => hb.cell (p := ⟨g, o, none⟩) hg
theorem IsEs.later {w w' : World} {l : List Ev} {a : Option Addr} (h : IsEs (· < w.heap.size) w l a) (hb : Below w.heap.size w w') : IsEs (· < w'.heap.size) w' l a := (h.below hb).more fun _ hg => Nat.lt_of_lt_of_le hg hb.size
theorem ev_info : (Tryz.prog.info? 29).map (fun i => (i.zero, i.size, i.bytes)) = some (some (.agg #[.int .i64 0, .int .i64 0, .int .i64 0, .int .i64 0, .int .i64 0, .int .i64 0, .int .i64 0, .int .i64 0, .int .i64 0, .slice none 0 0]), 10, 96) := by kernel_rfl
/-- A row of events that is being made. -/
structure AccE (lo : Nat) (w : World) (l : List Ev) (v : Value) (xs : List Value) : Prop where
 row : w.ownsRow lo 29 10 v l.length xs
 kids : KidsE (fun g => lo ≤ g ∧ g < w.heap.size ∧ some g ≠ v.ownBlock) w l xs
 le : lo ≤ w.heap.size
section
variable {lo : Nat} {w w' : World} {l : List Ev} {v : Value} {xs : List Value}
theorem AccE.nil {lo : Nat} {w : World} (h : lo ≤ w.heap.size) : AccE lo w [] (.slice none 0 0) [] := ⟨⟨rfl, .inl ⟨rfl, rfl⟩⟩, rfl, h⟩
theorem AccE.below (h : AccE lo w l v xs) (hb : Below w.heap.size w w') : AccE lo w' l v xs := by
 have hle := h.le
 have hsz := hb.size
 refine ⟨?_, (h.kids.keep ?_).more ?_, by omega⟩
 ·obtain ⟨h1, h2⟩ := h.row
  refine ⟨h1, ?_⟩
  rcases h2 with h2 | ⟨g, cap, cur, e1, e2, e3, e4⟩
  ·exact .inl h2
  ·exact .inr ⟨g, cap, cur, e1, e2, (hb.block g (lt_of_heap e3)).trans e3, e4⟩
 ·intro j ⟨_, g2, _⟩ o
  exact World.cell?_of_block (w := w) (hb.block j g2)
 ·intro j ⟨g1, g2, g3⟩
  exact ⟨g1, by omega, g3⟩
theorem AccE.form (h : AccE lo w l v xs) : ∃ (a : Option Addr) (cap : Nat), v = .slice a l.length cap := by
 rcases h.row.2 with ⟨rfl, h0⟩ | ⟨g, cap, cur, rfl, _⟩
 ·exact ⟨none, 0, by rw [h0]⟩
 ·exact ⟨_, _, rfl⟩
theorem AccE.push {W1 : World} {x : Ev} {kk nn : Int} {a : Option Addr} {len cp : Nat} {g cap : Nat} (h : AccE lo w l v xs)
  (ht : IsV (fun g => lo ≤ g ∧ g < w.heap.size ∧ some g ≠ v.ownBlock) w x.v (.agg #[.int .i64 kk, .int .i64 nn, .slice a len cp])) (hr : RngE x)
  (hown : W1.ownsRow lo 29 10 (.slice (some ⟨g, 0, none⟩) (l.length + 1) cap) (l.length + 1) (xs ++ (evC x kk nn a len cp).toList))
  (hgr : w.grownBy W1 v.ownBlock) (hat : v.ownBlock = some g ∨ g = w.heap.size) : AccE lo W1 (l ++ [x]) (.slice (some ⟨g, 0, none⟩) (l.length + 1) cap) (xs ++ (evC x kk nn a len cp).toList) := by
 have hle := h.le
 have hsz := hgr.size
 have hlen : (l ++ [x]).length = l.length + 1 := by simp
 have hj : ∀ j, (lo ≤ j ∧ j < w.heap.size ∧ some j ≠ v.ownBlock) → j ≠ g ∧ W1.heap[j]? = w.heap[j]? := by
  intro j ⟨j1, j2, j3⟩
  have hjg : j ≠ g := by
   rcases hat with e | e
   ·intro e2; subst e2; exact j3 e.symm
   ·omega
  exact ⟨hjg, hgr.block j j2 j3⟩
 refine ⟨by rw [hlen]; exact hown, ?_, by omega⟩
 refine ((KidsE.push ht hr h.kids).keep fun j hjo o => World.cell?_of_block (w := w) (hj j hjo).2).more fun j hjo => ⟨hjo.1, by have := hjo.2.1; omega, ?_⟩
 intro e
 have : j = g := by simpa [Value.ownBlock] using e
 exact (hj j hjo).1 this
/-- What the row reads as. -/
theorem AccE.isEs (h : AccE lo w l v xs) : ∃ (a : Option Addr) (cap : Nat), v = .slice a l.length cap ∧ l.length ≤ cap ∧ cap ≤ maxLen ∧ IsEs (fun g => lo ≤ g ∧ g < w.heap.size) w l a := by
 have hrow := h.row
 rcases h.row.2 with ⟨rfl, h0⟩ | ⟨g, cap, cur, rfl, e2, e3, e4, e5, e6, e7⟩
 ·have : l = [] := List.eq_nil_of_length_eq_zero h0
  subst this
  exact ⟨none, 0, rfl, Nat.le_refl _, Nat.zero_le _, fun j x hx => by simp at hx⟩
 ·refine ⟨some ⟨g, 0, none⟩, cap, rfl, e4, e5, ?_⟩
  have hlt := (hrow.lt g rfl).2
  refine (h.kids.more (ok' := fun g => lo ≤ g ∧ g < w.heap.size) fun j hj => ⟨hj.1, hj.2.1⟩).row ⟨e2, hlt⟩ fun j u hj => ?_
  have hjl : j < l.length * 10 := by
   have := (List.getElem?_eq_some_iff.1 hj).1
   rw [hrow.1] at this
   exact this
  rw [show 0 + j = j from by omega, hrow.cellAt j hjl]
  exact hj
/-- The cells of an event in a row that is being made. -/
theorem AccE.cells (h : AccE lo w l v xs) {j : Nat} {x : Ev} (hx : l[j]? = some x) : ∃ (g cap : Nat) (kk nn : Int) (a : Option Addr) (len cp : Nat), v = .slice (some ⟨g, 0, none⟩) l.length cap ∧ (∀ i u, (evC x kk nn a len cp)[i]? = some u → w.cell? ⟨g, 0 + j * 10 + i, none⟩ = some u) := by
 obtain ⟨a, cap, rfl, _, _, he⟩ := h.isEs
 obtain ⟨g, o, kk, nn, a', len, cp, rfl, _, h3, _, _⟩ := he j x hx
 rcases h.row.2 with ⟨e, h0⟩ | ⟨g2, cap2, cur, e, _⟩
 ·have : l = [] := List.eq_nil_of_length_eq_zero h0
  subst this
  simp at hx
 ·injection e with e1 e2 e3
  injection e1 with e1
  injection e1 with e1 e4 e5
  subst e4
  exact ⟨g, cap, kk, nn, a', len, cp, rfl, h3⟩
end
/-- A text's lines. -/
def linesF : Nat → ByteArray → List ByteArray
 | 0, _ => []
 | f + 1, s => if s.size = 0 then [] else cutA s :: linesF f (cutB s)
def linesS (s : ByteArray) : List ByteArray := linesF (s.size + 1) s
theorem linesF_fuel : ∀ (f g : Nat) (s : ByteArray), s.size < f → s.size < g → linesF f s = linesF g s
 | 0, _, _, h, _ => by omega
 | _ + 1, 0, _, _, h => by omega
 | f + 1, g + 1, s, hf, hg => by
  rw [linesF, linesF]
  by_cases h0 : s.size = 0
  ·rw [if_pos h0, if_pos h0]
  ·rw [if_neg h0, if_neg h0]
   have := cutA_size s (by omega)
   rw [linesF_fuel f g (cutB s) (by omega) (by omega)]
theorem lines_nil {s : ByteArray} (h : s.size = 0) : linesS s = [] := by unfold linesS; rw [linesF, if_pos h]
theorem lines_cons {s : ByteArray} (h : ¬ s.size = 0) : linesS s = cutA s :: linesS (cutB s) := by
 have := cutA_size s (by omega)
 unfold linesS
 rw [linesF, if_neg h, linesF_fuel s.size ((cutB s).size + 1) (cutB s) (by omega) (by omega)]
/-- Is an event's Step less than that of the last one? -/
def lateE (done : List Ev) (x : Ev) : Bool := match done.getLast? with
 | some y => decide (x.st < y.st)
 | none => false
/-- The events of lines behind others; an error: the line's number. -/
def readL (done : List Ev) : List ByteArray → Except Nat (List Ev)
 | [] => .ok done
 | p :: r => match parseE p with
  | none => .error done.length
  | some x => if lateE done x then .error done.length else readL (done ++ [x]) r
def readE (s : ByteArray) : Except Nat (List Ev) := readL [] (linesS s)
end Go.Proofs.YtjldbbcdhdfliaaGreatDoor
