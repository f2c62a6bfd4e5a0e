/-
 The reference's Decode (layer 23): the statement that compares the checksum, in whatever order. Printed by gen_ce.py.
-/
import Derived.Test.YtjldbbcdhdfliaaGreatDoorCaCc
import Derived.Test.YtjldbbcdhdfliaaGreatDoorViVj
import Derived.Test.YtjldbbcdhdfliaaGreatDoorCd
import Derived.Test.YtjldbbcdhdfliaaGreatDoorTmTq
namespace Go.Proofs.YtjldbbcdhdfliaaGreatDoor
open Go.RowKit Go.Sort

def d3K : List Key := [(some 13, .move (.tmp 0), none),
  (some 14, .call { callee := .builtin .len, args := #[.tmp 13], argTypes := #[55] }, none),
  (some 15, .binOp .lss 3 (.tmp 14) (.const (.int .i64 4)) 3, none),
  (some 16, .move (.tmp 15), none),
  (some 17, .move (.tmp 0), some (3, false)),
  (some 18, .call { callee := .value (.func 26), args := #[.tmp 17], argTypes := #[55] }, some (3, false)),
  (some 19, .convert 55 9 (.tmp 18), some (3, false)),
  (some 20, .move (.tmp 0), some (3, false)),
  (some 21, .convert 55 9 (.tmp 20), some (3, false)),
  (some 22, .binOp .neq 9 (.tmp 19) (.tmp 21) 9, some (3, false)),
  (some 23, .pick (.tmp 16) (.const (.bool true)) (.tmp 22), none)]
def d3E : List (List Nat) := [[], [0], [1], [2], [3], [4, 3, 3], [5, 3], [3], [7, 3], [6, 8, 3], [3, 9]]
def d3T (xa : Option Addr) (N cap : Nat) (S1 S2 : ByteArray) (B : Bool) : List (Nat × Nat × Value) := [(0, 13, .slice xa N cap), (1, 14, .int .i64 (N : Nat)), (2, 15, .bool false), (3, 16, .bool false), (4, 17, .slice xa N cap), (6, 19, .string S1), (7, 20, .slice xa N cap), (8, 21, .string S2), (9, 22, .bool B), (10, 23, .bool B)]
structure D3I (a0 : Act) (xa : Option Addr) (N cap : Nat) (S1 S2 : ByteArray) (B : Bool) (L : List UInt8) (w0 : World) (D : Nat → Bool) (a : Act) (W : World) : Prop where
 fr : Upd a0 a 13 11
 sl : Slots (d3T xa N cap S1 S2 B) D a
 b : Below w0.heap.size w0 W
 v : D 5 = true → ∃ v, a.eval (.tmp 18) = v ∧ Byt w0.heap.size W v L
theorem D3I.step {a0 a : Act} {xa : Option Addr} {N cap : Nat} {S1 S2 : ByteArray} {B : Bool} {L : List UInt8} {w0 W : World} {D : Nat → Bool} (h : D3I a0 xa N cap S1 S2 B L w0 D a W) (i t : Nat) (v : Value) (hi : i ≠ 5) (h1 : 13 ≤ t) (h2 : t < 24) (hn : t ≠ 18) (hs : t < a.tmps.size) (hT : ∀ y ∈ d3T xa N cap S1 S2 B, (y.1 = i → y.2.1 = t ∧ y.2.2 = v) ∧ (y.1 ≠ i → y.2.1 ≠ t)) : D3I a0 xa N cap S1 S2 B L w0 (upd D i) (a.put (some t) v) W := by
 refine ⟨h.fr.put h1 (by omega) v, h.sl.put i t v hs hT, h.b, fun hd => ?_⟩
 rw [upd_ne D (Ne.symm hi)] at hd
 obtain ⟨u, u1, u2⟩ := h.v hd
 exact ⟨u, by rw [eval_put_ne (Ne.symm hn)]; exact u1, u2⟩
theorem wpOp_gd3 {P : Program} {ops : Array Oper} {Q : Exit → Act → World → Prop} {K : Act → World → Prop} {a : Act} {w : World} {o : Oper} {i g t : Nat} (ho : ops[i]? = some o) (hg : o.guard = some (g, false)) {og : Oper} (hog : ops[g]? = some og) (hd : og.dst = some t) (ht : t < a.tmps.size) (hv : a.eval (.tmp t) = .bool false) (h : o.wp P a w K Q) : wpOp P ops Q i K a w := by
 have hw : Region.wanted o (yielded ops a.tmps) = true := by
  have e : a.tmps[t]? = some (.bool false) := by
   simp only [Act.eval] at hv
   rw [Array.getD_eq_getD_getElem?, Array.getElem?_eq_getElem ht] at hv
   rw [Array.getElem?_eq_getElem ht]
   simpa using hv
  simp [Region.wanted, hg, yielded, hog, hd, e]
 unfold wpOp
 rw [ho]
 simp only [hw, if_true]
 exact .inl h
theorem cel_convL {w : World} {xa : Option Addr} {N cap : Nat} {l : List UInt8} (hn : l.length = N) (hl : l ≠ []) (h : Lies w xa l) : (convert 55 9 (.slice xa N cap)).run Tryz.prog w = .ok (.string ⟨l.toArray⟩) w := by
 obtain ⟨g, o, rfl, _, h2⟩ := h hl
 rw [← hn]
 exact cel_convT h2
set_option maxRecDepth 100000 in
set_option maxHeartbeats 8000000 in
theorem d3_region {ops : Array Oper} {Q : Exit → Act → World → Prop} {a0 : Act} {id : Nat} {w0 : World} {xa : Option Addr} {N cap : Nat} {l : List UInt8} (hsh : Shape ops d3K d3E) (hsz : 24 ≤ a0.tmps.size) (h0 : a0.eval (.tmp 0) = .slice xa N cap)
  (hn : l.length = N) (h4 : 4 ≤ N) (hN : N ≤ 1000000) (hlc : N ≤ cap) (hL : Lies w0 xa l)
  (hQ : ∀ a W, Upd a0 a 13 11 → a.eval (.tmp 23) = .bool (!(decide (l.take (N - 4) ++ sum4 (sumF 1 (l.take (N - 4))) = l))) → Below w0.heap.size w0 W → Q .normal a W) : (Code.region id ops true).wp Tryz.prog Q a0 w0 := by
 obtain ⟨L, hLd⟩ : ∃ L, l.take (N - 4) ++ sum4 (sumF 1 (l.take (N - 4))) = L := ⟨_, rfl⟩
 have hLne : L ≠ [] := by
  rw [← hLd]
  unfold sum4
  simp
 have hlne : l ≠ [] := fun e => by rw [e] at hn; simp at hn; omega
 have hSL : ∀ W, Below w0.heap.size w0 W → Calls Tryz.prog 26 #[.slice xa N cap] W fun e w' => ∃ v, e = .returned v ∧ Byt W.heap.size w' v L ∧ Below W.heap.size W w' := fun W hb => by
  have := rSealed_any xa cap l (by omega) W (hL.below hb) (by omega) (by omega)
  rw [hn, hLd] at this
  exact this
 rw [hLd] at hQ
 obtain ⟨S1, hS1⟩ : ∃ S1 : ByteArray, (⟨L.toArray⟩ : ByteArray) = S1 := ⟨_, rfl⟩
 obtain ⟨S2, hS2⟩ : ∃ S2 : ByteArray, (⟨l.toArray⟩ : ByteArray) = S2 := ⟨_, rfl⟩
 obtain ⟨B, hB⟩ : ∃ B, (!(decide (L = l))) = B := ⟨_, rfl⟩
 have hBB : (S1.toList == S2.toList) = !B := by
  rw [← hB, Bool.not_not, ByteArray.toList_eq, ByteArray.toList_eq, ← hS1, ← hS2, Bool.eq_iff_iff]
  simp
 rw [hB] at hQ
 refine wp_region_inv (by kernel_rfl) (hsh.edged (by decide)) (D3I a0 xa N cap S1 S2 B L w0) ?_ ?_ ?_
 ·exact ⟨Upd.refl _ _ _, fun x _ h => by simp at h, (Below.refl _ w0).drew, fun h => by simp at h⟩
 ·rintro D a wr j o hI ho hD hdep
  have hk := hsh.key_at ho
  have hasz : a.tmps.size = a0.tmps.size := hI.fr.size
  have hj : j < 11 := by
   rcases Nat.lt_or_ge j 11 with hlt | hge
   ·exact hlt
   ·rw [List.getElem?_eq_none (by simpa [d3K] using hge)] at hk; cases hk
  have hdp := fun es => hsh.dep_at ho hdep (es := es)
  clear hdep
  have hog : ∃ og, ops[3]? = some og ∧ og.dst = some 16 := by
   have hs : ops.size = 11 := hsh.size
   have h1 : ops[3]? = some ops[3] := Array.getElem?_eq_getElem (by omega)
   have h2 := hsh.key_at h1
   simp only [d3K, List.getElem?_cons_zero, List.getElem?_cons_succ, Option.some.injEq] at h2
   refine ⟨_, h1, ?_⟩
   have := congrArg Prod.fst h2
   exact this.symm
  obtain ⟨og, hog1, hog2⟩ := hog
  have hcases : j = 0 ∨ j = 1 ∨ j = 2 ∨ j = 3 ∨ j = 4 ∨ j = 5 ∨ j = 6 ∨ j = 7 ∨ j = 8 ∨ j = 9 ∨ j = 10 := by omega
  rcases hcases with rfl | rfl | rfl | rfl | rfl | rfl | rfl | rfl | rfl | rfl | rfl
  ·
   obtain ⟨odst, oop, oty, opos, oaft, ogd⟩ := o
   simp only [key, d3K, List.getElem?_cons_zero, Option.some.injEq, Prod.mk.injEq] at hk
   obtain ⟨rfl, rfl, rfl⟩ := hk
   refine wpOp_of ho rfl ?_
   exact op_move rfl ((hI.fr.eval (by omega)).trans h0) (hI.step 0 13 (.slice xa N cap) (by decide) (by omega) (by omega) (by decide) (by omega) (by simp [d3T]))
  ·
   obtain ⟨odst, oop, oty, opos, oaft, ogd⟩ := o
   simp only [key, d3K, List.getElem?_cons_zero, List.getElem?_cons_succ, Option.some.injEq, Prod.mk.injEq] at hk
   obtain ⟨rfl, rfl, rfl⟩ := hk
   refine wpOp_of ho rfl ?_
   have p0_ : D 0 = true := hdp _ rfl 0 (by decide)
   have s13 : a.eval (.tmp 13) = .slice xa N cap := hI.sl (0, 13, .slice xa N cap) (by simp [d3T]) p0_
   refine op_run (n := .value (.int .i64 (N : Nat))) (w' := wr) ?_ (hI.step 1 14 (.int .i64 (N : Nat)) (by decide) (by omega) (by omega) (by decide) (by omega) (by simp [d3T]))
   generalize a.eval = ev at *
   unfold execOp
   simp [go_sem, s13]
  ·
   obtain ⟨odst, oop, oty, opos, oaft, ogd⟩ := o
   simp only [key, d3K, List.getElem?_cons_zero, List.getElem?_cons_succ, Option.some.injEq, Prod.mk.injEq] at hk
   obtain ⟨rfl, rfl, rfl⟩ := hk
   refine wpOp_of ho rfl ?_
   have p1_ : D 1 = true := hdp _ rfl 1 (by decide)
   have s14 : a.eval (.tmp 14) = .int .i64 (N : Nat) := hI.sl (1, 14, .int .i64 (N : Nat)) (by simp [d3T]) p1_
   refine op_run (n := .value (.bool false)) (w' := wr) ?_ (hI.step 2 15 (.bool false) (by decide) (by omega) (by omega) (by decide) (by omega) (by simp [d3T]))
   have hd4 : decide ((N : Int) < 4) = false := by simp; omega
   have e1 : a.eval (.const (.int .i64 4)) = .int .i64 4 := rfl
   generalize a.eval = ev at *
   unfold execOp
   simp [go_sem, s14, hd4, e1]
  ·
   obtain ⟨odst, oop, oty, opos, oaft, ogd⟩ := o
   simp only [key, d3K, List.getElem?_cons_zero, List.getElem?_cons_succ, Option.some.injEq, Prod.mk.injEq] at hk
   obtain ⟨rfl, rfl, rfl⟩ := hk
   refine wpOp_of ho rfl ?_
   have p2_ : D 2 = true := hdp _ rfl 2 (by decide)
   have s15 : a.eval (.tmp 15) = .bool false := hI.sl (2, 15, .bool false) (by simp [d3T]) p2_
   exact op_move rfl s15 (hI.step 3 16 (.bool false) (by decide) (by omega) (by omega) (by decide) (by omega) (by simp [d3T]))
  ·
   obtain ⟨odst, oop, oty, opos, oaft, ogd⟩ := o
   simp only [key, d3K, List.getElem?_cons_zero, List.getElem?_cons_succ, Option.some.injEq, Prod.mk.injEq] at hk
   obtain ⟨rfl, rfl, rfl⟩ := hk
   have p3_ : D 3 = true := hdp _ rfl 3 (by decide)
   have s16 : a.eval (.tmp 16) = .bool false := hI.sl (3, 16, .bool false) (by simp [d3T]) p3_
   refine wpOp_gd3 ho rfl hog1 hog2 (by omega) s16 ?_
   exact op_move rfl ((hI.fr.eval (by omega)).trans h0) (hI.step 4 17 (.slice xa N cap) (by decide) (by omega) (by omega) (by decide) (by omega) (by simp [d3T]))
  ·
   obtain ⟨odst, oop, oty, opos, oaft, ogd⟩ := o
   simp only [key, d3K, List.getElem?_cons_zero, List.getElem?_cons_succ, Option.some.injEq, Prod.mk.injEq] at hk
   obtain ⟨rfl, rfl, rfl⟩ := hk
   have p3_ : D 3 = true := hdp _ rfl 3 (by decide)
   have s16 : a.eval (.tmp 16) = .bool false := hI.sl (3, 16, .bool false) (by simp [d3T]) p3_
   refine wpOp_gd3 ho rfl hog1 hog2 (by omega) s16 ?_
   have p4_ : D 4 = true := hdp _ rfl 4 (by decide)
   have s17 : a.eval (.tmp 17) = .slice xa N cap := hI.sl (4, 17, .slice xa N cap) (by simp [d3T]) p4_
   refine op_run (n := .enter 26 #[.slice xa N cap]) (w' := wr) ?_ ?_
   ·have e1 : a.eval (.func 26) = .func (.func 26) #[] #[] := rfl
    generalize a.eval = ev at *
    unfold execOp
    simp [go_sem, s17, e1]
   ·refine (hSL wr hI.b).mono ?_
    rintro e w1 ⟨v, rfl, hv, hb⟩
    refine ⟨hI.fr.put (by omega) (by omega) v, ?_, hI.b.trans (hb.mono hI.b.size), fun _ => ⟨v, eval_put_same (by omega) v, World.ownsRow.mono hv hI.b.size⟩⟩
    exact hI.sl.put 5 18 v (by omega) (by simp [d3T])
  ·
   obtain ⟨odst, oop, oty, opos, oaft, ogd⟩ := o
   simp only [key, d3K, List.getElem?_cons_zero, List.getElem?_cons_succ, Option.some.injEq, Prod.mk.injEq] at hk
   obtain ⟨rfl, rfl, rfl⟩ := hk
   have p3_ : D 3 = true := hdp _ rfl 3 (by decide)
   have s16 : a.eval (.tmp 16) = .bool false := hI.sl (3, 16, .bool false) (by simp [d3T]) p3_
   refine wpOp_gd3 ho rfl hog1 hog2 (by omega) s16 ?_
   have p5_ : D 5 = true := hdp _ rfl 5 (by decide)
   obtain ⟨v, s18, hv⟩ := hI.v p5_
   have hcv := hv.conv hLne
   rw [hS1] at hcv
   refine op_run (n := .value (.string S1)) (w' := wr) ?_ (hI.step 6 19 (.string S1) (by decide) (by omega) (by omega) (by decide) (by omega) (by simp [d3T]))
   generalize a.eval = ev at *
   unfold execOp
   simp [go_sem, s18, hcv]
  ·
   obtain ⟨odst, oop, oty, opos, oaft, ogd⟩ := o
   simp only [key, d3K, List.getElem?_cons_zero, List.getElem?_cons_succ, Option.some.injEq, Prod.mk.injEq] at hk
   obtain ⟨rfl, rfl, rfl⟩ := hk
   have p3_ : D 3 = true := hdp _ rfl 3 (by decide)
   have s16 : a.eval (.tmp 16) = .bool false := hI.sl (3, 16, .bool false) (by simp [d3T]) p3_
   refine wpOp_gd3 ho rfl hog1 hog2 (by omega) s16 ?_
   exact op_move rfl ((hI.fr.eval (by omega)).trans h0) (hI.step 7 20 (.slice xa N cap) (by decide) (by omega) (by omega) (by decide) (by omega) (by simp [d3T]))
  ·
   obtain ⟨odst, oop, oty, opos, oaft, ogd⟩ := o
   simp only [key, d3K, List.getElem?_cons_zero, List.getElem?_cons_succ, Option.some.injEq, Prod.mk.injEq] at hk
   obtain ⟨rfl, rfl, rfl⟩ := hk
   have p3_ : D 3 = true := hdp _ rfl 3 (by decide)
   have s16 : a.eval (.tmp 16) = .bool false := hI.sl (3, 16, .bool false) (by simp [d3T]) p3_
   refine wpOp_gd3 ho rfl hog1 hog2 (by omega) s16 ?_
   have p7_ : D 7 = true := hdp _ rfl 7 (by decide)
   have s20 : a.eval (.tmp 20) = .slice xa N cap := hI.sl (7, 20, .slice xa N cap) (by simp [d3T]) p7_
   have hcv := cel_convL (cap := cap) hn hlne (hL.below hI.b)
   rw [hS2] at hcv
   refine op_run (n := .value (.string S2)) (w' := wr) ?_ (hI.step 8 21 (.string S2) (by decide) (by omega) (by omega) (by decide) (by omega) (by simp [d3T]))
   generalize a.eval = ev at *
   unfold execOp
   simp [go_sem, s20, hcv]
  ·
   obtain ⟨odst, oop, oty, opos, oaft, ogd⟩ := o
   simp only [key, d3K, List.getElem?_cons_zero, List.getElem?_cons_succ, Option.some.injEq, Prod.mk.injEq] at hk
   obtain ⟨rfl, rfl, rfl⟩ := hk
   have p3_ : D 3 = true := hdp _ rfl 3 (by decide)
   have s16 : a.eval (.tmp 16) = .bool false := hI.sl (3, 16, .bool false) (by simp [d3T]) p3_
   refine wpOp_gd3 ho rfl hog1 hog2 (by omega) s16 ?_
   have p6_ : D 6 = true := hdp _ rfl 6 (by decide)
   have s19 : a.eval (.tmp 19) = .string S1 := hI.sl (6, 19, .string S1) (by simp [d3T]) p6_
   have p8_ : D 8 = true := hdp _ rfl 8 (by decide)
   have s21 : a.eval (.tmp 21) = .string S2 := hI.sl (8, 21, .string S2) (by simp [d3T]) p8_
   refine op_run (n := .value (.bool B)) (w' := wr) ?_ (hI.step 9 22 (.bool B) (by decide) (by omega) (by omega) (by decide) (by omega) (by simp [d3T]))
   generalize a.eval = ev at *
   unfold execOp
   simp [go_sem, s19, s21, hBB]
  ·
   obtain ⟨odst, oop, oty, opos, oaft, ogd⟩ := o
   simp only [key, d3K, List.getElem?_cons_zero, List.getElem?_cons_succ, Option.some.injEq, Prod.mk.injEq] at hk
   obtain ⟨rfl, rfl, rfl⟩ := hk
   refine wpOp_of ho rfl ?_
   have p3_ : D 3 = true := hdp _ rfl 3 (by decide)
   have s16 : a.eval (.tmp 16) = .bool false := hI.sl (3, 16, .bool false) (by simp [d3T]) p3_
   have p9_ : D 9 = true := hdp _ rfl 9 (by decide)
   have s22 : a.eval (.tmp 22) = .bool B := hI.sl (9, 22, .bool B) (by simp [d3T]) p9_
   refine op_run (n := .value (.bool B)) (w' := wr) ?_ (hI.step 10 23 (.bool B) (by decide) (by omega) (by omega) (by decide) (by omega) (by simp [d3T]))
   generalize a.eval = ev at *
   unfold execOp
   simp [go_sem, s16, s22]
 ·intro D a W hI hall
  exact hQ a W hI.fr (hI.sl (10, 23, .bool B) (by simp [d3T]) (hall 10 (by rw [hsh.size]; decide))) hI.b
theorem d3_shape : Shape (ropsOf Tryz.f27 3) d3K d3E := ⟨by kernel_rfl, by kernel_rfl⟩
end Go.Proofs.YtjldbbcdhdfliaaGreatDoor
/-
 Walks over the reference of layer 23: Decode.
-/
namespace Go.Proofs.YtjldbbcdhdfliaaGreatDoor
open Go.RowKit Go.Sort

theorem DcEnds.fin {lo : Nat} {w w' : World} {l : List Ev} {v : Value} {xs : List Value} (h : AccE lo w' l v xs) (hlo : w.heap.size ≤ lo) (hb : Below w.heap.size w w') : DcEnds (some l) w (.returned (.tuple #[v, .int .i64 0])) w' := by
 obtain ⟨a, cap, rfl, h1, h2, h3⟩ := h.isEs
 exact ⟨⟨a, cap, rfl, h1, h2, h3.more fun g hg => ⟨by omega, hg.2⟩⟩, hb⟩
theorem decL_step {f : Nat} {done : List Ev} {st : Int} {c : UInt8} {l : List UInt8} : decL (f + 1) done st (c :: l) = match evD st (c :: l) with
  | none => none
  | some (x, st', l') => decL f (done ++ [x]) st' l' := by
 rw [decL, if_neg (by simp)]
 cases evD st (c :: l) <;> rfl
set_option maxRecDepth 100000 in
set_option maxHeartbeats 16000000 in
theorem rDecodeE_any (l : List UInt8) (hl : l.length ≤ 1000000) (a : Option Addr) (cap : Nat) (hlc : l.length ≤ cap) (w : World) (hL : Lies w a l) : Calls Tryz.prog 27 #[.slice a l.length cap] w (DcEnds (decE l) w) := by
 obtain ⟨i0, hi0, hz0, hz1, hz2⟩ := info_parts ev_info
 obtain ⟨N, hN⟩ : ∃ N, l.length = N := ⟨_, rfl⟩
 have HN := Lib.hid hN
 have HL := Lib.hid hL
 obtain ⟨RE, hre⟩ : ∃ RE, decE l = RE := ⟨_, rfl⟩
 have HRE := Lib.hid hre
 rw [hN] at hl hlc ⊢
 rw [hre]
 clear hN hL hre
 have hd0 : decide (4194304 < (N : Int)) = false := by simp; omega
 have hd00 : decide (4194304 < N) = false := by simp; omega
 go_enter Tryz.func27, Tryz.ntmps27
 go_upto_region 3 with fail
 by_cases h4 : N < 4
 ·have hd : decide ((N : Int) < 4) = true := by simp; omega
  have hdb : decide (N < 4) = true := by simpa using h4
  obtain rfl : RE = none := by
   rw [← HRE.out]
   unfold decE
   rw [if_pos (by rw [HN.out]; exact h4)]
  refine wp_region_quiet_below (by kernel_rfl) (by kernel_rfl) ?_
  repeat (go_big_quiet_step (fail))
  refine wpQuiet_nil ?_
  intro _ hw'
  obtain ⟨⟨dq, osq⟩, hw''⟩ := hw'
  subst hw''
  have hbq := below_regrown w dq osq
  go_wp2_with fail
  go_ret2
  exact ⟨rfl, hbq⟩
 ·refine d3_region (l := l) d3_shape (by simp) rfl HN.out (by omega) hl hlc HL.out ?_
  intro a3 w1 hU h23 hb1
  obtain ⟨us, hus, rfl⟩ := hU.list (by simp)
  obtain ⟨x0, us0, e0, hus0⟩ := list_cons4 hus
  subst e0
  obtain ⟨x1, us1, e1, hus1⟩ := list_cons4 hus0
  subst e1
  obtain ⟨x2, us2, e2, hus2⟩ := list_cons4 hus1
  subst e2
  obtain ⟨x3, us3, e3, hus3⟩ := list_cons4 hus2
  subst e3
  obtain ⟨x4, us4, e4, hus4⟩ := list_cons4 hus3
  subst e4
  obtain ⟨x5, us5, e5, hus5⟩ := list_cons4 hus4
  subst e5
  obtain ⟨x6, us6, e6, hus6⟩ := list_cons4 hus5
  subst e6
  obtain ⟨x7, us7, e7, hus7⟩ := list_cons4 hus6
  subst e7
  obtain ⟨x8, us8, e8, hus8⟩ := list_cons4 hus7
  subst e8
  obtain ⟨x9, us9, e9, hus9⟩ := list_cons4 hus8
  subst e9
  obtain ⟨x10, us10, e10, hus10⟩ := list_cons4 hus9
  subst e10
  have en := List.eq_nil_of_length_eq_zero hus10
  subst en
  obtain ⟨M, hM⟩ : ∃ M, N = M + 4 := ⟨N - 4, by omega⟩
  subst hM
  rw [Nat.add_sub_cancel] at h23
  obtain ⟨T, hT⟩ : ∃ T, l.take M = T := ⟨_, rfl⟩
  rw [hT] at h23
  obtain ⟨B, hB⟩ : ∃ B, decide (T ++ sum4 (sumF 1 T) = l) = B := ⟨_, rfl⟩
  rw [hB] at h23
  have e40 : x10 = .bool (!B) := h23
  subst e40
  simp only [List.take_succ_cons, List.take_zero, List.drop_succ_cons, List.drop_zero, List.cons_append, List.nil_append]
  clear hU h23 hus hus0 hus1 hus2 hus3 hus4 hus5 hus6 hus7 hus8 hus9 hus10 hd0 hd00 h4
  have hlT : T.length = M := by
   rw [← hT, List.length_take, HN.out]
   omega
  have HRT : Hid (RE = if B then decL (M + 5) [] 0 T else none) := by
   show _ = _
   rw [← HRE.out]
   unfold decE
   rw [if_neg (by rw [HN.out]; omega), HN.out, Nat.add_sub_cancel, hT, ← hB]
   have hsplit : l = T ++ l.drop M := by rw [← hT, List.take_append_drop]
   by_cases hq : l.drop M = sum4 (sumF 1 T)
   ·rw [if_pos hq, if_pos (by rw [decide_eq_true_eq, ← hq, ← hsplit])]
   ·rw [if_neg hq, if_neg]
    rw [decide_eq_true_eq]
    intro e
    apply hq
    rw [← e, ← hlT, List.drop_left]
  have HLT : Hid (∀ W, Below w.heap.size w W → Lies W a T) := fun W hb => by
   rw [← hT]
   exact (HL.out.below hb).take M
  have HT := Lib.hid hlT
  clear hT hB hlT
  cases B with
  | false =>
   obtain rfl : RE = none := by rw [HRT.out]; rfl
   go_wp2_with fail
   go_ret2
   exact ⟨rfl, hb1⟩
  | true =>
   have HR0 : Hid (RE = decL (M + 5) [] 0 T) := HRT.out
   clear HRT HRE
   have hMc : M ≤ cap := by omega
   have hsz1 := hb1.size
   go_wp2_with fail
   go_loopw [4, 5, 6] (fun o s p wr => ∃ (done : List Ev) (st : Int) (q f : Nat) (v : Value) (xs : List Value), o = v ∧ s = .int .i64 st ∧ p = .int .i64 (q : Nat) ∧ q ≤ M ∧ done.length ≤ q ∧ 0 ≤ st ∧ st ≤ 9223372036854775807 ∧ M - q < f ∧ RE = decL f done st (T.drop q) ∧ AccE w1.heap.size wr done v xs ∧ Below w1.heap.size w1 wr) (fun _ _ p _ => M - (intOf p).toNat)
   case atStart => exact ⟨[], 0, 0, M + 5, _, [], rfl, rfl, rfl, Nat.zero_le _, Nat.le_refl _, Int.le_refl _, by omega, by omega, HR0.out, AccE.nil (Nat.le_refl _), Below.refl _ _⟩
   case round =>
    obtain ⟨done, st, q, f, v, xs, rfl, rfl, rfl, hq, hdq, hs0, hs1, hf, hrd, hacc, hb⟩ := hrel
    have HRD := Lib.hid hrd
    clear hrd HR0
    obtain ⟨va, vcap, hvf⟩ := hacc.form
    obtain ⟨j, hj⟩ : ∃ j, done.length = j := ⟨_, rfl⟩
    have HJ := Lib.hid hj
    rw [hj] at hvf hdq
    subst hvf
    clear hj
    have hbw := hb1.trans (hb.mono hsz1)
    by_cases hlt : q < M
    ·have hd1 : decide (q < M) = true := by simpa using hlt
     have hlt2 : (q : Int) < (M : Int) := by omega
     have hev := rEvD_any a cap T (by rw [HT.out]; omega) (by rw [HT.out]; omega) wr (HLT.out _ hbw) q (by rw [HT.out]; exact hlt) st hs0 hs1
     rw [HT.out] at hev
     have HEV := Lib.hid hev
     clear hev
     go_wp2_with fail
     refine HEV.out.mono ?_
     rintro e w4 ⟨y, kk, nn, a', len, cp, q2, ok, rfl, hq2, hyes, hno, hb4⟩
     obtain ⟨g0, hg0⟩ : ∃ f', f = f' + 1 := ⟨f - 1, by omega⟩
     subst hg0
     obtain ⟨c, hc⟩ : ∃ c, T[q]? = some c := ⟨T[q]'(by rw [HT.out]; exact hlt), List.getElem?_eq_getElem _⟩
     have hdr : T.drop q = c :: T.drop (q + 1) := by
      have hqT : q < T.length := by rw [HT.out]; exact hlt
      rw [List.drop_eq_getElem_cons hqT]
      rw [List.getElem?_eq_getElem hqT] at hc
      injection hc with hc
      rw [hc]
     have hrd := HRD.out
     rw [hdr, decL_step] at hrd
     cases ok with
     | false =>
      have h0 := hno rfl
      rw [hdr] at h0
      obtain rfl : RE = none := by rw [hrd, h0]
      have hb5 := hb4.trans ((below_alloc w4 (.cells #[.int .i64 y.k, .int .i64 y.st, .int .i64 y.th, .int .i64 y.sy, .int .i64 y.br, .int .i64 y.pa, .int .i64 y.n, .int .i64 kk, .int .i64 nn, .slice a' len cp] 29)).mono hb4.size)
      have hb6 := hbw.trans (hb5.mono hbw.size)
      clear hrd h0 hdr hc hyes hno hb4 hb5 hacc hb HRD
      go_upto_region 10 with fail
      generalize w4.alloc (.cells #[.int .i64 y.k, .int .i64 y.st, .int .i64 y.th, .int .i64 y.sy, .int .i64 y.br, .int .i64 y.pa, .int .i64 y.n, .int .i64 kk, .int .i64 nn, .slice a' len cp] 29) = w5 at *
      go_wp2_with fail
      go_ret2
      exact ⟨rfl, hb6⟩
     | true =>
      obtain ⟨hqq, hev, his⟩ := hyes rfl
      rw [hdr] at hev
      have HRL : Hid (RE = decL g0 (done ++ [y]) y.st (T.drop q2)) := by
       show _ = _
       rw [hrd, hev]
      obtain ⟨-, hy0, hy1⟩ := evD_some hev hs0 hs1
      obtain ⟨kk', nn', aa', len', cp', he, hv4, hrg⟩ := his
      unfold evC at he
      simp only [Value.agg.injEq, Array.mk.injEq, List.cons.injEq, Value.int.injEq, Value.slice.injEq, true_and, and_true] at he
      obtain ⟨rfl, rfl, rfl, rfl, rfl⟩ := he
      have hb4a := below_alloc w4 (.cells #[.int .i64 y.k, .int .i64 y.st, .int .i64 y.th, .int .i64 y.sy, .int .i64 y.br, .int .i64 y.pa, .int .i64 y.n, .int .i64 kk, .int .i64 nn, .slice a' len cp] 29)
      have hb5 := hb4.trans (hb4a.mono hb4.size)
      have hbe : BE (w4.alloc (.cells #[.int .i64 y.k, .int .i64 y.st, .int .i64 y.th, .int .i64 y.sy, .int .i64 y.br, .int .i64 y.pa, .int .i64 y.n, .int .i64 kk, .int .i64 nn, .slice a' len cp] 29)) w4.heap.size #[.int .i64 y.k, .int .i64 y.st, .int .i64 y.th, .int .i64 y.sy, .int .i64 y.br, .int .i64 y.pa, .int .i64 y.n, .int .i64 kk, .int .i64 nn, .slice a' len cp] := heap_alloc_new _ _
      have hacc5 := hacc.below hb5
      have hbw5 := hb.trans (hb5.mono hb.size)
      have hkb : ∀ g, some g = (Value.slice va j vcap).ownBlock → g < wr.heap.size := fun g hg => (World.ownsRow.lt hacc.row g hg.symm).2
      have hlo := hacc.le
      have hxo : some w4.heap.size ≠ (Value.slice va j vcap).ownBlock := fun e => by have := hkb _ e; have := hb4.size; omega
      have hv5 : AccV w1.heap.size (w4.alloc (.cells #[.int .i64 y.k, .int .i64 y.st, .int .i64 y.th, .int .i64 y.sy, .int .i64 y.br, .int .i64 y.pa, .int .i64 y.n, .int .i64 kk, .int .i64 nn, .slice a' len cp] 29)) (.slice va j vcap) y.v (.agg #[.int .i64 kk, .int .i64 nn, .slice a' len cp]) :=
       AccV.below (w := w4) (hv4.more fun g hg => ⟨by omega, hg.2, fun e => by have := hkb g e; omega⟩) hb4a
      clear hrd hev hdr hc hyes hno hb4 hb4a hb5 hacc hb hkb hv4 HRD
      go_upto_region 12 with fail
      generalize w4.alloc (.cells #[.int .i64 y.k, .int .i64 y.st, .int .i64 y.th, .int .i64 y.sy, .int .i64 y.br, .int .i64 y.pa, .int .i64 y.n, .int .i64 kk, .int .i64 nn, .slice a' len cp] 29) = w7 at *
      generalize w4.heap.size = xb at *
      obtain ⟨c0, c1, c2, c3, c4, c5, c6, c7, c8, c9⟩ := BE.c hbe
      have hb8 := below_alloc w7 (.cells #[.int .i64 y.k, .int .i64 y.st, .int .i64 y.th, .int .i64 y.sy, .int .i64 y.br, .int .i64 y.pa, .int .i64 y.n, .int .i64 kk, .int .i64 nn, .slice a' len cp] 29)
      have hnb := heap_alloc_new w7 (.cells #[.int .i64 y.k, .int .i64 y.st, .int .i64 y.th, .int .i64 y.sy, .int .i64 y.br, .int .i64 y.pa, .int .i64 y.n, .int .i64 kk, .int .i64 nn, .slice a' len cp] 29)
      have hacc8 := hacc5.below hb8
      have hbw8 := hbw5.trans (hb8.mono hbw5.size)
      have hv8 := hv5.below hb8
      have hbe8 := BE.belowAll hbe hb8
      have hrow8 := hacc8.row
      rw [HJ.out] at hrow8
      clear hacc5 hbw5 hv5 hb8
      go_upto_region 13 with (at_builtin; refine wpList_append_lies _ rfl (.tmp 43) (.tmp 45) 38 rfl w1.heap.size 29 i0 _ 10 96 Tryz.underlying38 hi0 hz0 hz1 hz2 rfl (by decide) _ j xs rfl hrow8 ⟨w7.heap.size, 0, none⟩ 1 1 [.int .i64 y.k, .int .i64 y.st, .int .i64 y.th, .int .i64 y.sy, .int .i64 y.br, .int .i64 y.pa, .int .i64 y.n, .int .i64 kk, .int .i64 nn, .slice a' len cp] rfl rfl (World.news_of_block hnb) (by simp [Value.oneCell']) (by omega) (by unfold maxLen; omega) (by omega) hacc8.le _ rfl ?_; intro g9 cap9 w13 hown hgrow hat hglt)
      have hpush := AccE.pushV hacc8 HJ.out.symm hv8 hrg hown hgrow hat
      have hbw9 := hbw8.trans (grown_belowE hgrow hbw8.size fun g hg => (World.ownsRow.lt hrow8 g hg).1)
      have hbe13 : BE w13 xb #[.int .i64 y.k, .int .i64 y.st, .int .i64 y.th, .int .i64 y.sy, .int .i64 y.br, .int .i64 y.pa, .int .i64 y.n, .int .i64 kk, .int .i64 nn, .slice a' len cp] := (hgrow.block xb (BE.lt hbe8) hxo).trans hbe8
      have hcnt : (done ++ [y]).length ≤ q2 := by
       rw [List.length_append, HJ.out]
       show j + 1 ≤ q2
       omega
      clear hown hgrow hat hglt hrow8 hacc8 hv8 hnb hbe hbe8 hxo hbw8 c0 c1 c2 c3 c4 c5 c6 c7 c8 c9
      obtain ⟨-, d1, -, -, -, -, -, -, -, -⟩ := BE.c hbe13
      go_wp2_with fail
      go_roundw
      case rel => first | exact ⟨done ++ [y], y.st, q2, g0, _, _, rfl, rfl, rfl, hq2, hcnt, hy0, hy1, by omega, HRL.out, hpush, hbw9⟩ | ((repeat apply Exists.intro); exact ⟨⟨done ++ [y], y.st, q2, g0, _, _, rfl, rfl, rfl, hq2, hcnt, hy0, hy1, by omega, HRL.out, hpush, hbw9⟩, rfl⟩)
      case measure => simp [intOf]; omega
    ·have hd1 : decide (q < M) = false := by simpa using hlt
     obtain rfl : q = M := by omega
     have HF : Hid (RE = some done) := by
      show _ = _
      rw [HRD.out, List.drop_eq_nil_of_le (by rw [HT.out]; exact Nat.le_refl _)]
      obtain ⟨f', rfl⟩ : ∃ f', f = f' + 1 := ⟨f - 1, by omega⟩
      rw [decL, if_pos rfl]
     have hfin := DcEnds.fin (w := w) hacc hsz1 hbw
     obtain rfl : RE = some done := HF.out
     clear hacc hb
     go_wp2_with fail
     exact bodyPost_ret (v := .tuple #[.slice va j vcap, .int .i64 0]) (by simp [results, Tryz.results27, go_sem]) rfl hfin
end Go.Proofs.YtjldbbcdhdfliaaGreatDoor
