/-
 reader's event: what it answers, and its statement that takes the state and reads the thread, in whatever order. Printed by gen_vg.py.
-/
import Derived.Test.YtjldbbcdhdfliaaGreatDoorVf
namespace Go.Proofs.YtjldbbcdhdfliaaGreatDoor
open Go.RowKit Go.Sort

/-- One part of an event. -/
def fldD (y : Ev) (i : Nat) (l : List UInt8) : Option (Ev × List UInt8) := if i = 4 then match numO 0 0 l with
  | none => none
  | some (n, r1) => if n ≤ r1.length then match parse ⟨(r1.take n).toArray⟩ with
    | .ok t => some ({ y with v := t }, r1.drop n)
    | .error _ => none
   else none
 else match atD (if i = 2 then 1 else 0) l with
  | none => none
  | some (v, l') => some (setF y i v, l')
def rowD (y : Ev) : List Nat → List UInt8 → Option (Ev × List UInt8)
 | [], l => some (y, l)
 | i :: is, l => match fldD y i l with
  | none => none
  | some (z, l') => rowD z is l'
def rowN (is : List Nat) : Option (Ev × List UInt8) → Option (Ev × List UInt8)
 | none => none
 | some (z, l) => rowD z is l
theorem rowD_cons (y : Ev) (i : Nat) (is : List Nat) (l : List UInt8) : rowD y (i :: is) l = rowN is (fldD y i l) := by
 rw [rowD]
 cases fldD y i l <;> rfl
def fldS (y : Ev) (i : Nat) : Option (Int × List UInt8) → Option (Ev × List UInt8)
 | none => none
 | some (v, l) => some (setF y i v, l)
theorem fldD_num (y : Ev) (i : Nat) (l : List UInt8) (h : i ≠ 4) : fldD y i l = fldS y i (atD (if i = 2 then 1 else 0) l) := by
 unfold fldD
 rw [if_neg h]
 cases atD (if i = 2 then 1 else 0) l <;> rfl
def evW (st : Int) : Option (Ev × List UInt8) → Option (Ev × Int × List UInt8)
 | none => none
 | some (y, l) => some (y, st, l)
def evR (st k : Int) : Option (Int × List UInt8) → Option (Ev × Int × List UInt8)
 | none => none
 | some (th, l) => evW st (rowD { k := k, st := st, th := th, sy := 0, br := 0, pa := 0, n := 0, v := zeroT } (rowE k) l)
def evT (last k : Int) : Option (Int × List UInt8) → Option (Ev × Int × List UInt8)
 | none => none
 | some (d, l) => if 9223372036854775807 - last < d then none else evR (last + d) k (atD 0 l)
/-- The next event, the last state before it, and what stands behind it. -/
def evD (last : Int) : List UInt8 → Option (Ev × Int × List UInt8)
 | [] => none
 | c :: l => if hasE (c.toNat : Nat) = true then evT last (c.toNat : Nat) (atD 0 l) else none
theorem grown_below {B rb : Nat} {w0 W W' : World} (h : w0.grownBy W (some rb)) (hb : Below B W W') (hB : w0.heap.size ≤ B) : w0.grownBy W' (some rb) :=
 ⟨hb.os.trans h.os, hb.tape.trans h.tape, hb.output.trans h.output, Nat.le_trans h.size hb.size, fun k hk hr => (hb.block k (Nat.lt_of_lt_of_le hk hB)).trans (h.block k hk hr)⟩

/-- What stands after some of the operations. -/
structure E8 (w : World) (rb b g : Nat) (last : Int) (l l3 : List UInt8) (k th : Int) (xb : Nat) (w0 : World) (W : World) (b5 b7 b9 : Bool) : Prop where
 rd : Rdr w rb b g last W (if b5 then l3 else l)
 gr : w0.grownBy W (some rb)
 d5 : b5 = true → atD 0 l = some (th, l3)
 ev : BE W xb #[.int .i64 k, .int .i64 (if b7 then last else 0), .int .i64 (if b9 then th else 0), .int .i64 0, .int .i64 0, .int .i64 0, .int .i64 0, .int .i64 0, .int .i64 0, .slice none 0 0]
section
variable {w : World} {rb b g : Nat} {last : Int} {l l3 : List UInt8} {k th : Int} {xb : Nat} {w0 : World} {W W' : World} {b5 b7 b9 : Bool}
theorem E8.call (h : E8 w rb b g last l l3 k th xb w0 W false b7 b9) (hx : rb < xb) (hn : atD 0 l = some (th, l3)) (hR : Rdr w rb b g last W' l3) (hg : W.grownBy W' (some rb)) : E8 w rb b g last l l3 k th xb w0 W' true b7 b9 :=
 ⟨hR, h.gr.trans hg, fun _ => hn, (hg.block xb h.ev.lt (by intro e; injection e; omega)).trans h.ev⟩
theorem E8.st (h : E8 w rb b g last l l3 k th xb w0 W b5 false b9) (hx : rb < xb) (h0 : w0.heap.size ≤ xb) : E8 w rb b g last l l3 k th xb w0 (W.setCell ⟨xb, 1, none⟩ (.int .i64 last)) b5 true b9 := by
 have hb : Below xb W (W.setCell ⟨xb, 1, none⟩ (.int .i64 last)) := (Below.refl xb W).setCell (p := ⟨xb, 1, none⟩) (Nat.le_refl _) _
 have hev := h.ev
 refine ⟨h.rd.belowB hb hx, grown_below h.gr hb h0, h.d5, ?_⟩
 unfold BE at hev ⊢
 simp [World.setCell, Array.getElem?_modify, hev]
theorem E8.st2 (h : E8 w rb b g last l l3 k th xb w0 W b5 b7 false) (hx : rb < xb) (h0 : w0.heap.size ≤ xb) : E8 w rb b g last l l3 k th xb w0 (W.setCell ⟨xb, 2, none⟩ (.int .i64 th)) b5 b7 true := by
 have hb : Below xb W (W.setCell ⟨xb, 2, none⟩ (.int .i64 th)) := (Below.refl xb W).setCell (p := ⟨xb, 2, none⟩) (Nat.le_refl _) _
 have hev := h.ev
 refine ⟨h.rd.belowB hb hx, grown_below h.gr hb h0, h.d5, ?_⟩
 unfold BE at hev ⊢
 simp [World.setCell, Array.getElem?_modify, hev]
end
def e8K : List Key := [(some 49, .move (.tmp 0), none),
  (some 50, .nilCheck (.tmp 49), none),
  (some 51, .fieldAddr 107 (.tmp 50) 2, none),
  (some 52, .load 3 (.tmp 51), none),
  (some 53, .move (.tmp 0), none),
  (some 54, .call { callee := .value (.func 90), args := #[.tmp 53, .const (.int .i64 0)], argTypes := #[103, 3] }, none),
  (some 55, .fieldAddr 29 (.tmp 3) 1, none),
  (none, .store 3 (.tmp 55) (.tmp 52), none),
  (some 56, .fieldAddr 29 (.tmp 3) 2, none),
  (none, .store 3 (.tmp 56) (.tmp 54), none)]
def e8E : List (List Nat) := [[], [0], [1], [2], [], [4], [0, 1, 2, 3, 5], [6, 3, 5, 0, 1, 2, 3, 5], [0, 1, 2, 3, 4, 5, 6, 7], [8, 5, 7, 0, 1, 2, 3, 4, 5, 6, 7]]
def e8T (rb : Nat) (last th : Int) (xb : Nat) : List (Nat × Nat × Value) := [(0, 49, .pointer (some ⟨rb, 0, none⟩)), (1, 50, .pointer (some ⟨rb, 0, none⟩)), (2, 51, .pointer (some ⟨rb, 2, none⟩)), (3, 52, .int .i64 last), (4, 53, .pointer (some ⟨rb, 0, none⟩)), (5, 54, .int .i64 th), (6, 55, .pointer (some ⟨xb, 1, none⟩)), (8, 56, .pointer (some ⟨xb, 2, none⟩))]
structure E8I (a0 : Act) (w : World) (rb b g : Nat) (last : Int) (l l3 : List UInt8) (k th : Int) (xb : Nat) (w0 : World) (D : Nat → Bool) (a : Act) (W : World) : Prop where
 fr : Upd a0 a 49 8
 sl : Slots (e8T rb last th xb) D a
 m : E8 w rb b g last l l3 k th xb w0 W (D 5) (D 7) (D 9)
/-- An operation that only fills a slot. -/
theorem E8I.step {a0 a : Act} {w : World} {rb b g : Nat} {last : Int} {l l3 : List UInt8} {k th : Int} {xb : Nat} {w0 : World} {D : Nat → Bool} {W : World} (h : E8I a0 w rb b g last l l3 k th xb w0 D a W) (i t : Nat) (v : Value) (hi : i ≠ 5 ∧ i ≠ 7 ∧ i ≠ 9) (h1 : 49 ≤ t ∧ t < 57) (hs : t < a.tmps.size) (hT : ∀ y ∈ e8T rb last th xb, (y.1 = i → y.2.1 = t ∧ y.2.2 = v) ∧ (y.1 ≠ i → y.2.1 ≠ t)) :
  E8I a0 w rb b g last l l3 k th xb w0 (upd D i) (a.put (some t) v) W := by
 refine ⟨h.fr.put (by omega) (by omega) v, h.sl.put i t v hs hT, ?_⟩
 rw [upd_ne D (Ne.symm hi.1), upd_ne D (Ne.symm hi.2.1), upd_ne D (Ne.symm hi.2.2)]
 exact h.m
set_option maxRecDepth 100000 in
set_option maxHeartbeats 8000000 in
theorem e8_region {ops : Array Oper} {Q : Exit → Act → World → Prop} {a0 : Act} {id : Nat} {w : World} {rb b g : Nat} {last : Int} {l l3 : List UInt8} {k th : Int} {xb : Nat} {w0 : World} (hsh : Shape ops e8K e8E) (hsz : 57 ≤ a0.tmps.size) (h0 : a0.eval (.tmp 0) = .pointer (some ⟨rb, 0, none⟩)) (h3 : a0.eval (.tmp 3) = .pointer (some ⟨xb, 0, none⟩))
  (hrb : rb < xb) (hxb : w0.heap.size ≤ xb) (hll : l.length ≤ 100000000) {W0 : World} (hR : Rdr w rb b g last W0 l) (hgr : w0.grownBy W0 (some rb)) (hev : BE W0 xb #[.int .i64 k, .int .i64 0, .int .i64 0, .int .i64 0, .int .i64 0, .int .i64 0, .int .i64 0, .int .i64 0, .int .i64 0, .slice none 0 0]) (e0 : ∀ v r, atD 0 l = some (v, r) → v = th ∧ r = l3)
  (hQ : ∀ a W, Upd a0 a 49 8 → atD 0 l = some (th, l3) → Rdr w rb b g last W l3 → w0.grownBy W (some rb) → BE W xb #[.int .i64 k, .int .i64 last, .int .i64 th, .int .i64 0, .int .i64 0, .int .i64 0, .int .i64 0, .int .i64 0, .int .i64 0, .slice none 0 0] → Q .normal a W)
  (hF : ∀ a W l', a.defers = a0.defers → atD 0 l = none → Rdr w rb b g last W l' → w0.grownBy W (some rb) → Q (.panic [{ v := .iface 119 (.agg #[.int .i64 230]), recovered := false }]) a W) : (Code.region id ops true).wp Tryz.prog Q a0 W0 := by
 refine (?_ : (atD 0 l = none ∨ atD 0 l = some (th, l3)) → _) ?_
 ·intro hcase
  refine wp_region_inv (by kernel_rfl) (hsh.edged (by decide)) (E8I a0 w rb b g last l l3 k th xb w0) ?_ ?_ ?_
  ·refine ⟨Upd.refl _ _ _, fun x _ h => by simp at h, ?_, ?_, fun h => by simp at h, hev⟩
   ·exact hR.belowB (B := W0.heap.size) (W' := W0.drew) ⟨rfl, rfl, rfl, Nat.le_refl _, fun _ _ => rfl⟩ hR.lt
   ·exact grown_below (B := W0.heap.size) hgr ⟨rfl, rfl, rfl, Nat.le_refl _, fun _ _ => rfl⟩ hgr.size
  ·rintro D a wr j o hI ho hD hdep
   have hk_ := hsh.key_at ho
   have hasz : a.tmps.size = a0.tmps.size := hI.fr.size
   have hj : j < 10 := by
    rcases Nat.lt_or_ge j 10 with hlt | hge
    ·exact hlt
    ·rw [List.getElem?_eq_none (by simpa [e8K] using hge)] at hk_; cases hk_
   have hdp := fun es => hsh.dep_at ho hdep (es := es)
   clear hdep
   have hcases : j = 0 ∨ j = 1 ∨ j = 2 ∨ j = 3 ∨ j = 4 ∨ j = 5 ∨ j = 6 ∨ j = 7 ∨ j = 8 ∨ j = 9 := by omega
   rcases hcases with rfl | rfl | rfl | rfl | rfl | rfl | rfl | rfl | rfl | rfl
   ·
    obtain ⟨odst, oop, oty, opos, oaft, ogd⟩ := o
    simp only [key, e8K, List.getElem?_cons_zero, Option.some.injEq, Prod.mk.injEq] at hk_
    obtain ⟨rfl, rfl, rfl⟩ := hk_
    exact wpOp_of ho rfl (op_move rfl ((hI.fr.eval (by omega)).trans h0) (hI.step 0 49 (.pointer (some ⟨rb, 0, none⟩)) (by decide) (by omega) (by omega) (by simp [e8T])))
   ·
    obtain ⟨odst, oop, oty, opos, oaft, ogd⟩ := o
    simp only [key, e8K, List.getElem?_cons_zero, List.getElem?_cons_succ, Option.some.injEq, Prod.mk.injEq] at hk_
    obtain ⟨rfl, rfl, rfl⟩ := hk_
    have p0_ : D 0 = true := hdp _ rfl 0 (by decide)
    have s49 : a.eval (.tmp 49) = .pointer (some ⟨rb, 0, none⟩) := hI.sl (0, 49, .pointer (some ⟨rb, 0, none⟩)) (by simp [e8T]) p0_
    exact wpOp_of ho rfl (op_nilCheck rfl s49 (hI.step 1 50 (.pointer (some ⟨rb, 0, none⟩)) (by decide) (by omega) (by omega) (by simp [e8T])))
   ·
    obtain ⟨odst, oop, oty, opos, oaft, ogd⟩ := o
    simp only [key, e8K, List.getElem?_cons_zero, List.getElem?_cons_succ, Option.some.injEq, Prod.mk.injEq] at hk_
    obtain ⟨rfl, rfl, rfl⟩ := hk_
    have p1_ : D 1 = true := hdp _ rfl 1 (by decide)
    have s50 : a.eval (.tmp 50) = .pointer (some ⟨rb, 0, none⟩) := hI.sl (1, 50, .pointer (some ⟨rb, 0, none⟩)) (by simp [e8T]) p1_
    refine wpOp_of ho rfl (op_run (n := .value (.pointer (some ⟨rb, 2, none⟩))) (w' := wr) ?_ (hI.step 2 51 (.pointer (some ⟨rb, 2, none⟩)) (by decide) (by omega) (by omega) (by simp [e8T])))
    generalize a.eval = ev at *
    unfold execOp
    simp [go_sem, s50]
   ·
    obtain ⟨odst, oop, oty, opos, oaft, ogd⟩ := o
    simp only [key, e8K, List.getElem?_cons_zero, List.getElem?_cons_succ, Option.some.injEq, Prod.mk.injEq] at hk_
    obtain ⟨rfl, rfl, rfl⟩ := hk_
    have p2_ : D 2 = true := hdp _ rfl 2 (by decide)
    have s51 : a.eval (.tmp 51) = .pointer (some ⟨rb, 2, none⟩) := hI.sl (2, 51, .pointer (some ⟨rb, 2, none⟩)) (by simp [e8T]) p2_
    have hm := hI.m
    obtain ⟨oo, hB, _⟩ := hm.rd.ex
    have c2 : wr.cell? ⟨rb, 2, none⟩ = some (.int .i64 last) := by unfold RdB at hB; simp [World.cell?, hB]
    refine wpOp_of ho rfl (op_run (n := .value (.int .i64 last)) (w' := wr) ?_ (hI.step 3 52 (.int .i64 last) (by decide) (by omega) (by omega) (by simp [e8T])))
    generalize a.eval = ev at *
    unfold execOp
    simp [go_sem, s51, c2]
   ·
    obtain ⟨odst, oop, oty, opos, oaft, ogd⟩ := o
    simp only [key, e8K, List.getElem?_cons_zero, List.getElem?_cons_succ, Option.some.injEq, Prod.mk.injEq] at hk_
    obtain ⟨rfl, rfl, rfl⟩ := hk_
    exact wpOp_of ho rfl (op_move rfl ((hI.fr.eval (by omega)).trans h0) (hI.step 4 53 (.pointer (some ⟨rb, 0, none⟩)) (by decide) (by omega) (by omega) (by simp [e8T])))
   ·
    obtain ⟨odst, oop, oty, opos, oaft, ogd⟩ := o
    simp only [key, e8K, List.getElem?_cons_zero, List.getElem?_cons_succ, Option.some.injEq, Prod.mk.injEq] at hk_
    obtain ⟨rfl, rfl, rfl⟩ := hk_
    have p4_ : D 4 = true := hdp _ rfl 4 (by decide)
    have s53 : a.eval (.tmp 53) = .pointer (some ⟨rb, 0, none⟩) := hI.sl (4, 53, .pointer (some ⟨rb, 0, none⟩)) (by simp [e8T]) p4_
    have hm := hI.m
    have hRd := hm.rd
    rw [hD] at hRd
    refine wpOp_of ho rfl (op_run (n := .enter 90 #[.pointer (some ⟨rb, 0, none⟩), .int .i64 0]) (w' := wr) ?_ ?_)
    ·have e1 : a.eval (.func 90) = .func (.func 90) #[] #[] := rfl
     have e2 : a.eval (.const (.int .i64 0)) = .int .i64 0 := rfl
     generalize a.eval = ev at *
     unfold execOp
     simp [go_sem, s53, e1, e2]
    ·refine (atLeast_any w rb b g last 0 (.inl rfl) l hll wr hRd).mono ?_
     rcases hcase with hn | hn
     ·rw [hn]
      rintro e w1 ⟨⟨rfl, l', hl'⟩, hg⟩
      exact hF a w1 l' hI.fr.defers hn hl' (hm.gr.trans hg)
     ·rw [hn]
      rintro e w1 ⟨⟨rfl, hl'⟩, hg⟩
      refine ⟨hI.fr.put (by omega) (by omega) _, hI.sl.put 5 54 _ (by omega) (by simp [e8T]), ?_⟩
      rw [hD] at hm
      rw [upd_same, upd_ne D (show 7 ≠ 5 by decide), upd_ne D (show 9 ≠ 5 by decide)]
      exact hm.call hrb hn hl' hg
   ·
    obtain ⟨odst, oop, oty, opos, oaft, ogd⟩ := o
    simp only [key, e8K, List.getElem?_cons_zero, List.getElem?_cons_succ, Option.some.injEq, Prod.mk.injEq] at hk_
    obtain ⟨rfl, rfl, rfl⟩ := hk_
    have t3 : a.eval (.tmp 3) = .pointer (some ⟨xb, 0, none⟩) := (hI.fr.eval (by omega)).trans h3
    refine wpOp_of ho rfl (op_run (n := .value (.pointer (some ⟨xb, 1, none⟩))) (w' := wr) ?_ (hI.step 6 55 (.pointer (some ⟨xb, 1, none⟩)) (by decide) (by omega) (by omega) (by simp [e8T])))
    generalize a.eval = ev at *
    unfold execOp
    simp [go_sem, t3]
   ·
    obtain ⟨odst, oop, oty, opos, oaft, ogd⟩ := o
    simp only [key, e8K, List.getElem?_cons_zero, List.getElem?_cons_succ, Option.some.injEq, Prod.mk.injEq] at hk_
    obtain ⟨rfl, rfl, rfl⟩ := hk_
    have p6_ : D 6 = true := hdp _ rfl 6 (by decide)
    have s55 : a.eval (.tmp 55) = .pointer (some ⟨xb, 1, none⟩) := hI.sl (6, 55, .pointer (some ⟨xb, 1, none⟩)) (by simp [e8T]) p6_
    have p3_ : D 3 = true := hdp _ rfl 3 (by decide)
    have s52 : a.eval (.tmp 52) = .int .i64 last := hI.sl (3, 52, .int .i64 last) (by simp [e8T]) p3_
    have hm := hI.m
    have c1 := hm.ev.c.2.1
    have hf := hm.ev.fz 1
    refine wpOp_of ho rfl (op_run (n := .skip) (w' := wr.setCell ⟨xb, 1, none⟩ (.int .i64 last)) ?_ ?_)
    ·generalize a.eval = ev at *
     unfold execOp
     simp [go_sem, s55, s52, c1, hf]
    ·refine ⟨hI.fr, hI.sl.done 7 (by simp [e8T]), ?_⟩
     rw [hD] at hm
     rw [upd_same, upd_ne D (show 5 ≠ 7 by decide), upd_ne D (show 9 ≠ 7 by decide)]
     exact hm.st hrb hxb
   ·
    obtain ⟨odst, oop, oty, opos, oaft, ogd⟩ := o
    simp only [key, e8K, List.getElem?_cons_zero, List.getElem?_cons_succ, Option.some.injEq, Prod.mk.injEq] at hk_
    obtain ⟨rfl, rfl, rfl⟩ := hk_
    have t3 : a.eval (.tmp 3) = .pointer (some ⟨xb, 0, none⟩) := (hI.fr.eval (by omega)).trans h3
    refine wpOp_of ho rfl (op_run (n := .value (.pointer (some ⟨xb, 2, none⟩))) (w' := wr) ?_ (hI.step 8 56 (.pointer (some ⟨xb, 2, none⟩)) (by decide) (by omega) (by omega) (by simp [e8T])))
    generalize a.eval = ev at *
    unfold execOp
    simp [go_sem, t3]
   ·
    obtain ⟨odst, oop, oty, opos, oaft, ogd⟩ := o
    simp only [key, e8K, List.getElem?_cons_zero, List.getElem?_cons_succ, Option.some.injEq, Prod.mk.injEq] at hk_
    obtain ⟨rfl, rfl, rfl⟩ := hk_
    have p8_ : D 8 = true := hdp _ rfl 8 (by decide)
    have s56 : a.eval (.tmp 56) = .pointer (some ⟨xb, 2, none⟩) := hI.sl (8, 56, .pointer (some ⟨xb, 2, none⟩)) (by simp [e8T]) p8_
    have p5_ : D 5 = true := hdp _ rfl 5 (by decide)
    have s54 : a.eval (.tmp 54) = .int .i64 th := hI.sl (5, 54, .int .i64 th) (by simp [e8T]) p5_
    have hm := hI.m
    have c1 := hm.ev.c.2.2.1
    have hf := hm.ev.fz 2
    refine wpOp_of ho rfl (op_run (n := .skip) (w' := wr.setCell ⟨xb, 2, none⟩ (.int .i64 th)) ?_ ?_)
    ·generalize a.eval = ev at *
     unfold execOp
     simp [go_sem, s56, s54, c1, hf]
    ·refine ⟨hI.fr, hI.sl.done 9 (by simp [e8T]), ?_⟩
     rw [hD] at hm
     rw [upd_same, upd_ne D (show 5 ≠ 9 by decide), upd_ne D (show 7 ≠ 9 by decide)]
     exact hm.st2 hrb hxb
  ·intro D a W hI hall
   have al : ∀ i, i < 10 → D i = true := fun i hi => hall i (by rw [hsh.size]; simpa [e8K] using hi)
   have hm := hI.m
   rw [al 5 (by decide), al 7 (by decide), al 9 (by decide)] at hm
   exact hQ a W hI.fr (hm.d5 rfl) hm.rd hm.gr hm.ev
 ·rcases hn : atD 0 l with _ | ⟨v, r⟩
  ·exact .inl rfl
  ·obtain ⟨rfl, rfl⟩ := e0 v r hn
   exact .inr rfl
end Go.Proofs.YtjldbbcdhdfliaaGreatDoor
