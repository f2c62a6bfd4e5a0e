/-
 The statement 'v.L = append(v.L, r.value(may))' of package valtext's reader, in whatever order: by an invariant. Printed by gen_app.py.
-/
import Derived.Test.YtjldbbcdhdfliaaGreatDoorRdB
import Derived.Test.YtjldbbcdhdfliaaGreatDoorROps
namespace Go.Proofs.YtjldbbcdhdfliaaGreatDoor
open Go.RowKit

abbrev Key := Option Tmp × Op × Option (Nat × Bool)
def key (o : Oper) : Key := (o.dst, o.op, o.guard)
def deps (o : Oper) : List Nat := (o.after.toList.filter (Region.binds .any)).map (·.on)
/-- What a region's operations are, and which must be done first. -/
structure Shape (ops : Array Oper) (KL : List Key) (EL : List (List Nat)) : Prop where
 keys : ops.toList.map key = KL
 edges : ops.toList.map deps = EL
section
variable {ops : Array Oper} {KL : List Key} {EL : List (List Nat)}
theorem Shape.key_at (h : Shape ops KL EL) {i : Nat} {o : Oper} (ho : ops[i]? = some o) : KL[i]? = some (key o) := by
 rw [← h.keys, List.getElem?_map, Array.getElem?_toList, ho]; rfl
theorem Shape.dep_at (h : Shape ops KL EL) {i : Nat} {o : Oper} (ho : ops[i]? = some o) {D : Nat → Bool} (hd : ∀ e ∈ o.after, Region.binds .any e = true → D e.on = true) {es : List Nat} (he : EL[i]? = some es) : ∀ j ∈ es, D j = true := by
 rw [← h.edges, List.getElem?_map, Array.getElem?_toList, ho] at he
 simp only [Option.map_some, Option.some.injEq] at he
 subst he
 intro j hj
 unfold deps at hj
 simp only [List.mem_map, List.mem_filter] at hj
 obtain ⟨e, ⟨he, hb⟩, rfl⟩ := hj
 exact hd e (by simpa using he) hb
theorem Shape.edged (h : Shape ops KL EL) (hc : (EL.zipIdx.all fun x => x.1.all fun j => decide (j < x.2)) = true) : Edged ops := by
 intro i o ho e he hb
 have h1 : EL[i]? = some (deps o) := by rw [← h.edges, List.getElem?_map, Array.getElem?_toList, ho]; rfl
 rw [List.all_eq_true] at hc
 have h2 := hc (deps o, i) (by rw [List.mem_zipIdx_iff_getElem?]; simpa using h1)
 rw [List.all_eq_true] at h2
 have h3 := h2 e.on (by unfold deps; simp only [List.mem_map, List.mem_filter]; exact ⟨e, ⟨by simpa using he, hb⟩, rfl⟩)
 simpa using h3
theorem Shape.size (h : Shape ops KL EL) : ops.size = KL.length := by
 rw [← h.keys]; simp
end

theorem upd_mono {D : Nat → Bool} {i j : Nat} (h : D j = true) : upd D i j = true := by unfold upd; split <;> simp [h]
/-! Frames that are variables. -/
theorem eval_put_same {a : Act} {t : Nat} (h : t < a.tmps.size) (v : Value) : (a.put (some t) v).eval (.tmp t) = v := by
 simp [Act.put, Act.eval, h]
theorem eval_put_ne {a : Act} {t u : Nat} (h : u ≠ t) (v : Value) : (a.put (some t) v).eval (.tmp u) = a.eval (.tmp u) := by
 simp [Act.put, Act.eval, Ne.symm h]
/-- But for n slots from d on the frame is as it was. -/
structure Upd (a0 a : Act) (d n : Nat) : Prop where
 size : a.tmps.size = a0.tmps.size
 defers : a.defers = a0.defers
 rest : ∀ t, t < d ∨ d + n ≤ t → a.tmps[t]? = a0.tmps[t]?
theorem Upd.refl (a : Act) (d n : Nat) : Upd a a d n := ⟨rfl, rfl, fun _ _ => rfl⟩
theorem Upd.put {a0 a : Act} {d n t : Nat} (h : Upd a0 a d n) (h1 : d ≤ t) (h2 : t < d + n) (v : Value) : Upd a0 (a.put (some t) v) d n :=
 ⟨by simpa [Act.put] using h.size, h.defers, fun u hu => by
  rw [← h.rest u hu]
  simp only [Act.put, Array.getElem?_setIfInBounds]
  rw [if_neg (by omega)]⟩
theorem Upd.eval {a0 a : Act} {d n t : Nat} (h : Upd a0 a d n) (ht : t < d) : a.eval (.tmp t) = a0.eval (.tmp t) := by
 simp only [Act.eval]
 rw [Array.getD_eq_getD_getElem?, Array.getD_eq_getD_getElem?, h.rest t (.inl ht)]
/-- The frame written out again. -/
theorem Upd.list {a0 a : Act} {d n : Nat} (h : Upd a0 a d n) (hs : d + n ≤ a0.tmps.size) : ∃ us : List Value, us.length = n ∧ a = ⟨(a0.tmps.toList.take d ++ (us ++ a0.tmps.toList.drop (d + n))).toArray, a0.defers⟩ := by
 refine ⟨(a.tmps.toList.drop d).take n, ?_, ?_⟩
 ·have := h.size
  simp; omega
 ·obtain ⟨tm, df⟩ := a
  have h1 := h.size
  have h2 := h.defers
  have h3 := h.rest
  simp only at h1 h2 h3 ⊢
  subst h2
  congr 1
  apply Array.ext'
  apply List.ext_getElem?
  intro i
  rw [List.getElem?_append]
  simp only [List.length_take, Array.length_toList]
  by_cases hi : i < d
  ·rw [if_pos (by omega), List.getElem?_take, if_pos hi, Array.getElem?_toList, Array.getElem?_toList, h3 i (.inl hi)]
  ·rw [if_neg (by omega), List.getElem?_append]
   simp only [List.length_take, List.length_drop, Array.length_toList]
   by_cases hi2 : i < d + n
   ·rw [if_pos (by omega), List.getElem?_take, if_pos (by omega), List.getElem?_drop, Array.getElem?_toList, Array.getElem?_toList]
    congr 1; omega
   ·rw [if_neg (by omega), List.getElem?_drop, Array.getElem?_toList, Array.getElem?_toList, ← h3 _ (.inr (by omega))]
    congr 1; omega

/-- What the slots of the done operations hold. -/
def Slots (T : List (Nat × Nat × Value)) (D : Nat → Bool) (a : Act) : Prop := ∀ x ∈ T, D x.1 = true → a.eval (.tmp x.2.1) = x.2.2
theorem Slots.put {T : List (Nat × Nat × Value)} {D : Nat → Bool} {a : Act} (h : Slots T D a) (i t : Nat) (v : Value) (ht : t < a.tmps.size) (hT : ∀ x ∈ T, (x.1 = i → x.2.1 = t ∧ x.2.2 = v) ∧ (x.1 ≠ i → x.2.1 ≠ t)) : Slots T (upd D i) (a.put (some t) v) := by
 intro x hx hD
 by_cases hi : x.1 = i
 ·obtain ⟨h1, h2⟩ := (hT x hx).1 hi
  rw [h1, h2]
  exact eval_put_same ht v
 ·rw [eval_put_ne ((hT x hx).2 hi)]
  exact h x hx (by rwa [upd_ne _ hi] at hD)
theorem Slots.done {T : List (Nat × Nat × Value)} {D : Nat → Bool} {a : Act} (h : Slots T D a) (i : Nat) (hT : ∀ x ∈ T, x.1 ≠ i) : Slots T (upd D i) a := by
 intro x hx hD
 exact h x hx (by rwa [upd_ne _ (hT x hx)] at hD)

/-- The three cells of a place. -/
def putE (g m : Nat) (k n : Int) (p : Option Addr) (len cap : Nat) (w : World) : World := ((w.setCell ⟨g, m, none⟩ (.int .i64 k)).setCell ⟨g, m + 1, none⟩ (.int .i64 n)).setCell ⟨g, m + 2, none⟩ (.slice p len cap)
def putV (vb g n cap : Nat) (w : World) : World := w.setCell ⟨vb, 2, none⟩ (.slice (some ⟨g, 0, none⟩) n cap)

def App0K (d : Nat) (F : Nat) : List Key := [(some (d), .move (.tmp 1), none),
  (some (d + 1), .nilCheck (.tmp (d)), none),
  (some (d + 2), .fieldAddr 27 (.tmp (d + 1)) 2, none),
  (some (d + 3), .load 25 (.tmp (d + 2)), none),
  (some (d + 4), .move (.tmp 0), none),
  (some (d + 5), .call { callee := .value (.func 102), args := #[.tmp (d + 4), .func F], argTypes := #[166, 170] }, none),
  (some (d + 6), .call { callee := .builtin .len, args := #[.tmp (d + 3)], argTypes := #[25] }, none),
  (some (d + 7), .buildSlice 25 1 #[(0, .const (.agg #[.int .i64 0, .int .i64 0, .slice none 0 0]))], none),
  (some (d + 8), .call { callee := .builtin .append, args := #[.tmp (d + 3), .tmp (d + 7)], argTypes := #[25, 25] }, none),
  (some (d + 9), .indexAddr 25 (.tmp (d + 8)) (.tmp (d + 6)), none),
  (none, .store 27 (.tmp (d + 9)) (.tmp (d + 5)), none),
  (some (d + 10), .nilCheck (.tmp (d)), none),
  (some (d + 11), .fieldAddr 27 (.tmp (d + 10)) 2, none),
  (none, .store 25 (.tmp (d + 11)) (.tmp (d + 8)), none)]
def App0E : List (List Nat) := [[], [0], [1], [2], [], [4], [3], [], [3, 7, 5, 0, 1, 2, 3, 4, 5, 6, 7], [8, 6, 0, 1, 2, 3, 4, 5, 6, 7, 8], [9, 5, 8, 0, 1, 2, 3, 4, 5, 6, 7, 8], [0, 0, 1, 2, 3, 4, 5, 6, 7, 8], [11, 0, 1, 2, 3, 4, 5, 6, 7, 8], [12, 8, 8, 0, 1, 2, 3, 4, 5, 6, 7, 8]]
def App0T (d vb b _F : Nat) (v : Value) (len : Nat) : List (Nat × Nat × Value) := [(0, d, .pointer (some ⟨vb, 0, none⟩)), (1, d + 1, .pointer (some ⟨vb, 0, none⟩)), (2, d + 2, .pointer (some ⟨vb, 2, none⟩)), (3, d + 3, v), (4, d + 4, .pointer (some ⟨b, 0, none⟩)), (6, d + 6, .int .i64 len), (11, d + 10, .pointer (some ⟨vb, 0, none⟩)), (12, d + 11, .pointer (some ⟨vb, 2, none⟩))]

/-- Where the world stands. -/
def App0W (s : ByteArray) (r : Except Nat (VT × Nat × Nat)) (lo b vb d i p : Nat) (k n : Int) (l : List VT) (v : Value) (xs : List Value) (D : Nat → Bool) (a : Act) (w : World) : Prop :=
 (D 8 = false ∧ D 9 = false ∧ D 10 = false ∧ D 13 = false ∧ Acc lo w vb k n l v xs ∧
  (D 5 = false → Rd w b s i p ∧ HasWords w) ∧
  (D 5 = true → ∃ (t : VT) (i2 p2 : Nat) (k3 n3 : Int) (a3 : Option Addr) (l3 c3 : Nat), r = .ok (t, i2, p2) ∧ Rd w b s i2 p2 ∧ a.eval (.tmp (d + 5)) = .agg #[.int .i64 k3, .int .i64 n3, .slice a3 l3 c3] ∧
   IsV (fun g => lo ≤ g ∧ g < w.heap.size ∧ some g ≠ v.ownBlock) w t (.agg #[.int .i64 k3, .int .i64 n3, .slice a3 l3 c3])) ∧
  (D 7 = true → ∃ z, a.eval (.tmp (d + 7)) = .slice (some ⟨z, 0, none⟩) 1 1 ∧ Bx w z 27 (.int .i64 0) (.int .i64 0) (.slice none 0 0) ∧ z ≠ b)) ∨
 (D 8 = true ∧ D 7 = true ∧ D 5 = true ∧ D 3 = true ∧ ∃ (W W1 : World) (t : VT) (i2 p2 : Nat) (k3 n3 : Int) (a3 : Option Addr) (l3 c3 g cap : Nat), r = .ok (t, i2, p2) ∧ a.eval (.tmp (d + 5)) = .agg #[.int .i64 k3, .int .i64 n3, .slice a3 l3 c3] ∧
  a.eval (.tmp (d + 8)) = .slice (some ⟨g, 0, none⟩) (l.length + 1) cap ∧ (D 9 = true → a.eval (.tmp (d + 9)) = .pointer (some ⟨g, l.length * 3, none⟩)) ∧
  Acc lo W vb k n l v xs ∧ IsV (fun g => lo ≤ g ∧ g < W.heap.size ∧ some g ≠ v.ownBlock) W t (.agg #[.int .i64 k3, .int .i64 n3, .slice a3 l3 c3]) ∧
  W1.ownsRow lo 27 3 (.slice (some ⟨g, 0, none⟩) (l.length + 1) cap) (l.length + 1) (xs ++ zeroV) ∧ W.grownBy W1 v.ownBlock ∧ (v.ownBlock = some g ∨ g = W.heap.size) ∧ Rd W1 b s i2 p2 ∧
  ((D 10 = false ∧ D 13 = false ∧ w = W1) ∨ (D 10 = true ∧ D 13 = false ∧ w = putE g (l.length * 3) k3 n3 a3 l3 c3 W1) ∨ (D 10 = false ∧ D 13 = true ∧ w = putV vb g (l.length + 1) cap W1) ∨
   (D 10 = true ∧ D 13 = true ∧ (w = putV vb g (l.length + 1) cap (putE g (l.length * 3) k3 n3 a3 l3 c3 W1) ∨ w = putE g (l.length * 3) k3 n3 a3 l3 c3 (putV vb g (l.length + 1) cap W1)))))
theorem App0W.pure {s : ByteArray} {r : Except Nat (VT × Nat × Nat)} {lo b vb d i p : Nat} {k n : Int} {l : List VT} {v : Value} {xs : List Value} {D : Nat → Bool} {a : Act} {w : World} (h : App0W s r lo b vb d i p k n l v xs D a w) (j t : Nat) (u : Value)
  (h1 : j ≠ 5) (h2 : j ≠ 7) (h3 : j ≠ 8) (h4 : j ≠ 9) (h5 : j ≠ 10) (h6 : j ≠ 13) (t1 : d + 5 ≠ t) (t2 : d + 7 ≠ t) (t3 : d + 8 ≠ t) (t4 : d + 9 ≠ t) :
  App0W s r lo b vb d i p k n l v xs (upd D j) (a.put (some t) u) w := by
 unfold App0W at h ⊢
 simp only [upd_ne D (Ne.symm h1), upd_ne D (Ne.symm h2), upd_ne D (Ne.symm h3), upd_ne D (Ne.symm h4), upd_ne D (Ne.symm h5), upd_ne D (Ne.symm h6), eval_put_ne t1, eval_put_ne t2, eval_put_ne t3, eval_put_ne t4]
 rcases h with h | ⟨x1, x2, x3, x4, h⟩
 ·exact .inl h
 ·exact .inr ⟨x1, x2, x3, upd_mono x4, h⟩

set_option maxRecDepth 100000 in
set_option maxHeartbeats 1000000 in
theorem App0_region {s : ByteArray} {f F : Nat} {m : Int → Bool} (hV : ValC s f) (hm : MayIs F m) {lo b vb d i p id : Nat} {k n : Int} {l : List VT} {v : Value} {xs : List Value} {ops : Array Oper} {Q : Exit → Act → World → Prop} {a0 : Act} {w0 : World}
  (hsh : Shape ops (App0K d F) App0E) (hd : 2 ≤ d) (hsz : d + 12 ≤ a0.tmps.size) (h0 : a0.eval (.tmp 0) = .pointer (some ⟨b, 0, none⟩)) (h1 : a0.eval (.tmp 1) = .pointer (some ⟨vb, 0, none⟩))
  (hr : Rd w0 b s i p) (hi : i ≤ s.size) (hp : p ≤ 256) (hpf : 256 ≤ p + f) (hW : HasWords w0) (hacc : Acc lo w0 vb k n l v xs) (hll : l.length ≤ 1000)
  (hb0 : b ≠ 0) (_hv0 : vb ≠ 0) (_hw0 : 0 < lo) (hblo : b < lo) (hbv : b ≠ vb)
  (hQp : ∀ j a w, pVal s f m i p = .error j → a.defers = a0.defers → Fx lo b vb w0 w → Q (.panic [{ v := .iface 164 (.int .i64 (j : Nat)), recovered := false }]) a w)
  (hQn : ∀ t i2 p2 a w, pVal s f m i p = .ok (t, i2, p2) → Upd a0 a d 12 → Rd w b s i2 p2 → (∃ v xs, Acc lo w vb k n (l ++ [t]) v xs) → Fx lo b vb w0 w → Q .normal a w) :
  (Code.region id ops true).wp Tryz.prog Q a0 w0 := by
 obtain ⟨i0, hi0, hz0, hz1, hz2⟩ := info_parts val_info
 obtain ⟨va, vcap, rfl⟩ := hacc.form
 have hvl := hacc.vlt
 refine wp_region_inv (by kernel_rfl) (hsh.edged (by decide)) (fun D a w => Upd a0 a d 12 ∧ Slots (App0T d vb b F (.slice va l.length vcap) l.length) D a ∧ Fx lo b vb w0 w ∧ App0W s (pVal s f m i p) lo b vb d i p k n l (.slice va l.length vcap) xs D a w) ?_ ?_ ?_
 ·refine ⟨Upd.refl _ _ _, fun x _ h => by simp at h, Fx.drew, .inl ⟨rfl, rfl, rfl, rfl, hacc.drew, fun _ => ⟨hr.drew, hW.drew⟩, fun h => by simp at h, fun h => by simp at h⟩⟩
 ·rintro D a w j o ⟨hU, hS, hF, hWd⟩ ho hD hdep
  have hk := hsh.key_at ho
  have hasz : a.tmps.size = a0.tmps.size := hU.size
  have hj : j < 14 := by
   rcases Nat.lt_or_ge j 14 with hlt | hge
   ·exact hlt
   ·rw [List.getElem?_eq_none (by simpa [App0K] using hge)] at hk; cases hk
  have hdp := fun es => hsh.dep_at ho hdep (es := es)
  clear hdep
  have hcases : j = 0 ∨ j = 1 ∨ j = 2 ∨ j = 3 ∨ j = 4 ∨ j = 5 ∨ j = 6 ∨ j = 7 ∨ j = 8 ∨ j = 9 ∨ j = 10 ∨ j = 11 ∨ j = 12 ∨ j = 13 := by omega
  rcases hcases with rfl | rfl | rfl | rfl | rfl | rfl | rfl | rfl | rfl | rfl | rfl | rfl | rfl | rfl
  ·
   obtain ⟨odst, oop, oty, opos, oaft, ogd⟩ := o
   simp only [key, App0K, List.getElem?_cons_zero, Option.some.injEq, Prod.mk.injEq] at hk
   obtain ⟨rfl, rfl, rfl⟩ := hk
   refine wpOp_of ho rfl (op_move rfl ((hU.eval (by omega)).trans h1) ?_)
   exact ⟨hU.put (by omega) (by omega) _, hS.put 0 (d) _ (by omega) (by simp [App0T]; try omega), hF, hWd.pure 0 (d) _ (by decide) (by decide) (by decide) (by decide) (by decide) (by decide) (by omega) (by omega) (by omega) (by omega)⟩
  ·
   obtain ⟨odst, oop, oty, opos, oaft, ogd⟩ := o
   simp only [key, App0K, List.getElem?_cons_zero, List.getElem?_cons_succ, Option.some.injEq, Prod.mk.injEq] at hk
   obtain ⟨rfl, rfl, rfl⟩ := hk
   have p0 : D 0 = true := hdp _ rfl 0 (by simp)
   have s0 : a.eval (.tmp (d)) = .pointer (some ⟨vb, 0, none⟩) := hS (0, d, .pointer (some ⟨vb, 0, none⟩)) (by simp [App0T]) p0
   refine wpOp_of ho rfl (op_nilCheck rfl s0 ?_)
   exact ⟨hU.put (by omega) (by omega) _, hS.put 1 (d + 1) _ (by omega) (by simp [App0T]; try omega), hF, hWd.pure 1 (d + 1) _ (by decide) (by decide) (by decide) (by decide) (by decide) (by decide) (by omega) (by omega) (by omega) (by omega)⟩
  ·
   obtain ⟨odst, oop, oty, opos, oaft, ogd⟩ := o
   simp only [key, App0K, List.getElem?_cons_zero, List.getElem?_cons_succ, Option.some.injEq, Prod.mk.injEq] at hk
   obtain ⟨rfl, rfl, rfl⟩ := hk
   have p1 : D 1 = true := hdp _ rfl 1 (by simp)
   have s1 : a.eval (.tmp (d + 1)) = .pointer (some ⟨vb, 0, none⟩) := hS (1, d + 1, .pointer (some ⟨vb, 0, none⟩)) (by simp [App0T]) p1
   refine wpOp_of ho rfl (op_valL rfl s1 ?_)
   exact ⟨hU.put (by omega) (by omega) _, hS.put 2 (d + 2) _ (by omega) (by simp [App0T]; try omega), hF, hWd.pure 2 (d + 2) _ (by decide) (by decide) (by decide) (by decide) (by decide) (by decide) (by omega) (by omega) (by omega) (by omega)⟩
  ·
   obtain ⟨odst, oop, oty, opos, oaft, ogd⟩ := o
   simp only [key, App0K, List.getElem?_cons_zero, List.getElem?_cons_succ, Option.some.injEq, Prod.mk.injEq] at hk
   obtain ⟨rfl, rfl, rfl⟩ := hk
   have p2 : D 2 = true := hdp _ rfl 2 (by simp)
   have s2 : a.eval (.tmp (d + 2)) = .pointer (some ⟨vb, 2, none⟩) := hS (2, d + 2, .pointer (some ⟨vb, 2, none⟩)) (by simp [App0T]) p2
   have hcell : w.cell? ⟨vb, 2, none⟩ = some (.slice va l.length vcap) := by
    rcases hWd with hx | hx
    ·exact hx.2.2.2.2.1.box.c2
    ·exact absurd hD (by rw [hx.2.2.2.1]; simp)
   refine wpOp_of ho rfl (op_load1 rfl s2 (notAgg_slice w) hcell ?_)
   exact ⟨hU.put (by omega) (by omega) _, hS.put 3 (d + 3) _ (by omega) (by simp [App0T]; try omega), hF, hWd.pure 3 (d + 3) _ (by decide) (by decide) (by decide) (by decide) (by decide) (by decide) (by omega) (by omega) (by omega) (by omega)⟩
  ·
   obtain ⟨odst, oop, oty, opos, oaft, ogd⟩ := o
   simp only [key, App0K, List.getElem?_cons_zero, List.getElem?_cons_succ, Option.some.injEq, Prod.mk.injEq] at hk
   obtain ⟨rfl, rfl, rfl⟩ := hk
   refine wpOp_of ho rfl (op_move rfl ((hU.eval (by omega)).trans h0) ?_)
   exact ⟨hU.put (by omega) (by omega) _, hS.put 4 (d + 4) _ (by omega) (by simp [App0T]; try omega), hF, hWd.pure 4 (d + 4) _ (by decide) (by decide) (by decide) (by decide) (by decide) (by decide) (by omega) (by omega) (by omega) (by omega)⟩
  ·
   obtain ⟨odst, oop, oty, opos, oaft, ogd⟩ := o
   simp only [key, App0K, List.getElem?_cons_zero, List.getElem?_cons_succ, Option.some.injEq, Prod.mk.injEq] at hk
   obtain ⟨rfl, rfl, rfl⟩ := hk
   have p4 : D 4 = true := hdp _ rfl 4 (by simp)
   have s4 : a.eval (.tmp (d + 4)) = .pointer (some ⟨b, 0, none⟩) := hS (4, d + 4, .pointer (some ⟨b, 0, none⟩)) (by simp [App0T]) p4
   rcases hWd with ⟨x1, x2, x3, x4, hA, hB, hC, hE⟩ | hx
   ·obtain ⟨hr1, hw1⟩ := hB hD
    refine wpOp_of ho rfl (op_callValue rfl s4 rfl ?_)
    refine (hV m F b i p w hm hr1 hi hp hpf hw1 hb0).mono ?_
    intro e1 w1 he1
    rcases hv : pVal s f m i p with j | ⟨t, i2, p2⟩
    ·rw [hv] at he1
     obtain ⟨rfl, hg1⟩ := he1
     exact hQp j _ _ hv hU.defers (hF.trans (Fx.gr hA.le hg1))
    ·rw [hv] at he1
     obtain ⟨v3, rfl, hv3, hr3, hg3⟩ := he1
     obtain ⟨k3, n3, a3, l3, c3, rfl⟩ := hv3.form
     have hA3 := hA.gr hg3 hblo hbv
     have hle := hA.le
     refine ⟨hU.put (by omega) (by omega) _, hS.put 5 (d + 5) _ (by omega) (by simp [App0T]; try omega), hF.trans (Fx.gr hA.le hg3), .inl ⟨?_, ?_, ?_, ?_, hA3, ?_, ?_, ?_⟩⟩
     ·rw [upd_ne _ (by decide)]; exact x1
     ·rw [upd_ne _ (by decide)]; exact x2
     ·rw [upd_ne _ (by decide)]; exact x3
     ·rw [upd_ne _ (by decide)]; exact x4
     ·intro hf; rw [upd_same] at hf; cases hf
     ·intro _
      refine ⟨t, i2, p2, k3, n3, a3, l3, c3, rfl, hr3, eval_put_same (by omega) _, hv3.more fun g hg => ⟨by omega, hg.2, ?_⟩⟩
      intro e2
      have := (hA.row.lt g e2.symm).2
      omega
     ·intro hb
      rw [upd_ne _ (by decide)] at hb
      obtain ⟨z, z1, z2, z3⟩ := hE hb
      exact ⟨z, by rw [eval_put_ne (by omega)]; exact z1, z2.gr hg3 z3, z3⟩
   ·exact absurd hD (by rw [hx.2.2.1]; simp)
  ·
   obtain ⟨odst, oop, oty, opos, oaft, ogd⟩ := o
   simp only [key, App0K, List.getElem?_cons_zero, List.getElem?_cons_succ, Option.some.injEq, Prod.mk.injEq] at hk
   obtain ⟨rfl, rfl, rfl⟩ := hk
   have p3 : D 3 = true := hdp _ rfl 3 (by simp)
   have s3 : a.eval (.tmp (d + 3)) = .slice va l.length vcap := hS (3, d + 3, .slice va l.length vcap) (by simp [App0T]) p3
   refine wpOp_of ho rfl (op_len rfl s3 ?_)
   exact ⟨hU.put (by omega) (by omega) _, hS.put 6 (d + 6) _ (by omega) (by simp [App0T]; try omega), hF, hWd.pure 6 (d + 6) _ (by decide) (by decide) (by decide) (by decide) (by decide) (by decide) (by omega) (by omega) (by omega) (by omega)⟩
  ·
   obtain ⟨odst, oop, oty, opos, oaft, ogd⟩ := o
   simp only [key, App0K, List.getElem?_cons_zero, List.getElem?_cons_succ, Option.some.injEq, Prod.mk.injEq] at hk
   obtain ⟨rfl, rfl, rfl⟩ := hk
   refine wpOp_of ho rfl (op_buildZero rfl ?_)
   rcases hWd with ⟨x1, x2, x3, x4, hA, hB, hC, hE⟩ | hx
   ·have hle := hA.le
    refine ⟨hU.put (by omega) (by omega) _, hS.put 7 (d + 7) _ (by omega) (by simp [App0T]; try omega), hF.trans (Fx.alloc hA.le _), .inl ⟨?_, ?_, ?_, ?_, hA.alloc (b := b) _ hblo hbv, ?_, ?_, ?_⟩⟩
    ·rw [upd_ne _ (by decide)]; exact x1
    ·rw [upd_ne _ (by decide)]; exact x2
    ·rw [upd_ne _ (by decide)]; exact x3
    ·rw [upd_ne _ (by decide)]; exact x4
    ·intro hf
     rw [upd_ne _ (by decide)] at hf
     exact ⟨(hB hf).1.alloc _, (hB hf).2.alloc _⟩
    ·intro hf
     rw [upd_ne _ (by decide)] at hf
     obtain ⟨t, i2, p2, k3, n3, a3, l3, c3, y1, y2, y3, y4⟩ := hC hf
     refine ⟨t, i2, p2, k3, n3, a3, l3, c3, y1, y2.alloc _, by rw [eval_put_ne (by omega)]; exact y3, (y4.keep ?_).more ?_⟩
     ·intro g hg o
      exact World.cell?_alloc_lt _ _ _ hg.2.1
     ·intro g hg
      exact ⟨hg.1, by have := hg.2.1; simp; omega, hg.2.2⟩
    ·intro _
     exact ⟨w.heap.size, eval_put_same (by omega) _, Bx.new _ _ _ _ _, by omega⟩
   ·exact absurd hD (by rw [hx.2.1]; simp)
  ·
   obtain ⟨odst, oop, oty, opos, oaft, ogd⟩ := o
   simp only [key, App0K, List.getElem?_cons_zero, List.getElem?_cons_succ, Option.some.injEq, Prod.mk.injEq] at hk
   obtain ⟨rfl, rfl, rfl⟩ := hk
   have p3 : D 3 = true := hdp _ rfl 3 (by simp)
   have p7 : D 7 = true := hdp _ rfl 7 (by simp)
   have p5 : D 5 = true := hdp _ rfl 5 (by simp)
   have s3 : a.eval (.tmp (d + 3)) = .slice va l.length vcap := hS (3, d + 3, .slice va l.length vcap) (by simp [App0T]) p3
   rcases hWd with ⟨x1, x2, x3, x4, hA, hB, hC, hE⟩ | hx
   ·obtain ⟨t, i2, p2, k3, n3, a3, l3, c3, y1, y2, y3, y4⟩ := hC p5
    obtain ⟨z, z1, z2, z3⟩ := hE p7
    have hle := hA.le
    refine wpOp_of ho rfl (wp_append_lies w (.tmp (d + 3)) (.tmp (d + 7)) 25 rfl lo 27 i0 _ 3 40 Tryz.underlying25 hi0 hz0 hz1 hz2 rfl (by decide) (.slice va l.length vcap) l.length xs s3 hA.row ⟨z, 0, none⟩ 1 1 zeroV z1 rfl (zeros_at z2) zeros_one (by decide) (by unfold maxLen; omega) (by omega) hA.le _ rfl ?_)
    intro g cap w1 hown hgr hat hlt
    refine ⟨hU.put (by omega) (by omega) _, hS.put 8 (d + 8) _ (by omega) (by simp [App0T]; try omega), hF.trans (Fx.grown hA.le hgr ?_), .inr ⟨upd_same _ _, ?_, ?_, upd_mono p3, w, w1, t, i2, p2, k3, n3, a3, l3, c3, g, cap, y1, ?_, eval_put_same (by omega) _, ?_, hA, y4, hown, hgr, hat, ?_, .inl ⟨?_, ?_, rfl⟩⟩⟩
    ·intro g' hg'
     exact (hA.row.lt g' hg').1
    ·rw [upd_ne _ (by decide)]; exact p7
    ·rw [upd_ne _ (by decide)]; exact p5
    ·rw [eval_put_ne (by omega)]; exact y3
    ·intro hf; rw [upd_ne _ (by decide), x2] at hf; cases hf
    ·refine y2.keep (hgr.block b y2.lt ?_)
     intro e2
     have := (hA.row.lt b e2.symm).1
     omega
    ·rw [upd_ne _ (by decide)]; exact x3
    ·rw [upd_ne _ (by decide)]; exact x4
   ·exact absurd hD (by rw [hx.1]; simp)
  ·
   obtain ⟨odst, oop, oty, opos, oaft, ogd⟩ := o
   simp only [key, App0K, List.getElem?_cons_zero, List.getElem?_cons_succ, Option.some.injEq, Prod.mk.injEq] at hk
   obtain ⟨rfl, rfl, rfl⟩ := hk
   have p8 : D 8 = true := hdp _ rfl 8 (by simp)
   have p6 : D 6 = true := hdp _ rfl 6 (by simp)
   have s6 : a.eval (.tmp (d + 6)) = .int .i64 l.length := hS (6, d + 6, .int .i64 l.length) (by simp [App0T]) p6
   rcases hWd with hx | ⟨x1, xb, xc, xd, W, W1, t, i2, p2, k3, n3, a3, l3, c3, g, cap, y1, y2, y3, y4, y5⟩
   ·exact absurd p8 (by rw [hx.1]; simp)
   ·refine wpOp_of ho rfl (op_elemAddr rfl y3 s6 ?_)
    refine ⟨hU.put (by omega) (by omega) _, hS.put 9 (d + 9) _ (by omega) (by simp [App0T]; try omega), hF, .inr ⟨?_, ?_, ?_, upd_mono xd, W, W1, t, i2, p2, k3, n3, a3, l3, c3, g, cap, y1, ?_, ?_, ?_, ?_⟩⟩
    ·rw [upd_ne _ (by decide)]; exact x1
    ·rw [upd_ne _ (by decide)]; exact xb
    ·rw [upd_ne _ (by decide)]; exact xc
    ·rw [eval_put_ne (by omega)]; exact y2
    ·rw [eval_put_ne (by omega)]; exact y3
    ·intro _; exact eval_put_same (by omega) _
    ·rw [upd_ne _ (show 10 ≠ 9 by decide), upd_ne _ (show 13 ≠ 9 by decide)]
     exact y5
  ·
   obtain ⟨odst, oop, oty, opos, oaft, ogd⟩ := o
   simp only [key, App0K, List.getElem?_cons_zero, List.getElem?_cons_succ, Option.some.injEq, Prod.mk.injEq] at hk
   obtain ⟨rfl, rfl, rfl⟩ := hk
   have p9 : D 9 = true := hdp _ rfl 9 (by simp)
   have p8 : D 8 = true := hdp _ rfl 8 (by simp)
   have p5 : D 5 = true := hdp _ rfl 5 (by simp)
   rcases hWd with hx | ⟨x1, xb, xc, xd, W, W1, t, i2, p2, k3, n3, a3, l3, c3, g, cap, y1, y2, y3, y4, hA, hvv, hown, hgr, hat, hr1, hst⟩
   ·exact absurd p8 (by rw [hx.1]; simp)
   ·have sx := y4 p9
    obtain ⟨e0, e1, e2, ef, ec⟩ := new_place hown
    obtain ⟨cv4, cf4, hn1, hn2⟩ := vb_after hA hown hgr
    have hlog := (hown.lt g rfl).1
    have hnew : Upd a0 (a.put none undef) d 12 ∧ Slots (App0T d vb b F (.slice va l.length vcap) l.length) (upd D 10) (a.put none undef) := ⟨hU, hS.done 10 (by simp [App0T])⟩
    rcases hst with ⟨_, q2, rfl⟩ | ⟨q1, _, _⟩ | ⟨_, q2, rfl⟩ | ⟨q1, _, _⟩
    ·refine wpOp_of ho rfl (op_storeVal rfl sx y2 e0 e1 e2 ef ?_)
     refine ⟨hnew.1, hnew.2, ((hF.trans (Fx.set _ _ (.inl hlog))).trans (Fx.set _ _ (.inl hlog))).trans (Fx.set _ _ (.inl hlog)), .inr ⟨?_, ?_, ?_, upd_mono xd, W, w, t, i2, p2, k3, n3, a3, l3, c3, g, cap, y1, y2, y3, ?_, hA, hvv, hown, hgr, hat, hr1, .inr (.inl ⟨upd_same _ _, ?_, rfl⟩)⟩⟩
     ·rw [upd_ne _ (by decide)]; exact x1
     ·rw [upd_ne _ (by decide)]; exact xb
     ·rw [upd_ne _ (by decide)]; exact xc
     ·intro _; exact sx
     ·rw [upd_ne _ (by decide)]; exact q2
    ·exact absurd hD (by rw [q1]; simp)
    ·have hne0 : ∀ o, ({ block := vb, off := 2 } : Addr) ≠ ⟨g, o, none⟩ := fun o h => hn2 (by injection h)
     refine wpOp_of ho rfl (op_storeVal rfl sx y2 (c0 := .int .i64 0) (c1 := .int .i64 0) (c2 := .slice none 0 0) ?_ ?_ ?_ ?_ ?_)
     ·exact (World.cell?_setCell_other _ _ _ _ (hne0 _)).trans e0
     ·exact (World.cell?_setCell_other _ _ _ _ (hne0 _)).trans e1
     ·exact (World.cell?_setCell_other _ _ _ _ (hne0 _)).trans e2
     ·intro o; exact (World.frozen?_setCell _ _ _ _).trans (ef o)
     refine ⟨hnew.1, hnew.2, ((hF.trans (Fx.set _ _ (.inl hlog))).trans (Fx.set _ _ (.inl hlog))).trans (Fx.set _ _ (.inl hlog)), .inr ⟨?_, ?_, ?_, upd_mono xd, W, W1, t, i2, p2, k3, n3, a3, l3, c3, g, cap, y1, y2, y3, ?_, hA, hvv, hown, hgr, hat, hr1, .inr (.inr (.inr ⟨upd_same _ _, ?_, .inr rfl⟩))⟩⟩
     ·rw [upd_ne _ (by decide)]; exact x1
     ·rw [upd_ne _ (by decide)]; exact xb
     ·rw [upd_ne _ (by decide)]; exact xc
     ·intro _; exact sx
     ·rw [upd_ne _ (by decide)]; exact q2
    ·exact absurd hD (by rw [q1]; simp)
  ·
   obtain ⟨odst, oop, oty, opos, oaft, ogd⟩ := o
   simp only [key, App0K, List.getElem?_cons_zero, List.getElem?_cons_succ, Option.some.injEq, Prod.mk.injEq] at hk
   obtain ⟨rfl, rfl, rfl⟩ := hk
   have p0 : D 0 = true := hdp _ rfl 0 (by simp)
   have s0 : a.eval (.tmp (d)) = .pointer (some ⟨vb, 0, none⟩) := hS (0, d, .pointer (some ⟨vb, 0, none⟩)) (by simp [App0T]) p0
   refine wpOp_of ho rfl (op_nilCheck rfl s0 ?_)
   exact ⟨hU.put (by omega) (by omega) _, hS.put 11 (d + 10) _ (by omega) (by simp [App0T]; try omega), hF, hWd.pure 11 (d + 10) _ (by decide) (by decide) (by decide) (by decide) (by decide) (by decide) (by omega) (by omega) (by omega) (by omega)⟩
  ·
   obtain ⟨odst, oop, oty, opos, oaft, ogd⟩ := o
   simp only [key, App0K, List.getElem?_cons_zero, List.getElem?_cons_succ, Option.some.injEq, Prod.mk.injEq] at hk
   obtain ⟨rfl, rfl, rfl⟩ := hk
   have p11 : D 11 = true := hdp _ rfl 11 (by simp)
   have s11 : a.eval (.tmp (d + 10)) = .pointer (some ⟨vb, 0, none⟩) := hS (11, d + 10, .pointer (some ⟨vb, 0, none⟩)) (by simp [App0T]) p11
   refine wpOp_of ho rfl (op_valL rfl s11 ?_)
   exact ⟨hU.put (by omega) (by omega) _, hS.put 12 (d + 11) _ (by omega) (by simp [App0T]; try omega), hF, hWd.pure 12 (d + 11) _ (by decide) (by decide) (by decide) (by decide) (by decide) (by decide) (by omega) (by omega) (by omega) (by omega)⟩
  ·
   obtain ⟨odst, oop, oty, opos, oaft, ogd⟩ := o
   simp only [key, App0K, List.getElem?_cons_zero, List.getElem?_cons_succ, Option.some.injEq, Prod.mk.injEq] at hk
   obtain ⟨rfl, rfl, rfl⟩ := hk
   have p12 : D 12 = true := hdp _ rfl 12 (by simp)
   have p8 : D 8 = true := hdp _ rfl 8 (by simp)
   have s12 : a.eval (.tmp (d + 11)) = .pointer (some ⟨vb, 2, none⟩) := hS (12, d + 11, .pointer (some ⟨vb, 2, none⟩)) (by simp [App0T]) p12
   rcases hWd with hx | ⟨x1, xb, xc, xd, W, W1, t, i2, p2, k3, n3, a3, l3, c3, g, cap, y1, y2, y3, y4, hA, hvv, hown, hgr, hat, hr1, hst⟩
   ·exact absurd p8 (by rw [hx.1]; simp)
   ·obtain ⟨cv4, cf4, hn1, hn2⟩ := vb_after hA hown hgr
    have hnew : Upd a0 (a.put none undef) d 12 ∧ Slots (App0T d vb b F (.slice va l.length vcap) l.length) (upd D 13) (a.put none undef) := ⟨hU, hS.done 13 (by simp [App0T])⟩
    have hix : upd D 13 9 = true → a.eval (.tmp (d + 9)) = .pointer (some ⟨g, l.length * 3, none⟩) := by
     intro hf; rw [upd_ne _ (by decide)] at hf; exact y4 hf
    rcases hst with ⟨q1, _, rfl⟩ | ⟨q1, _, rfl⟩ | ⟨_, q2, _⟩ | ⟨_, q2, _⟩
    ·refine wpOp_of ho rfl (op_storeL rfl s12 y3 cv4 cf4 ?_)
     refine ⟨hnew.1, hnew.2, hF.trans (Fx.set _ _ (.inr (.inr rfl))), .inr ⟨?_, ?_, ?_, upd_mono xd, W, w, t, i2, p2, k3, n3, a3, l3, c3, g, cap, y1, y2, y3, hix, hA, hvv, hown, hgr, hat, hr1, .inr (.inr (.inl ⟨?_, upd_same _ _, rfl⟩))⟩⟩
     ·rw [upd_ne _ (by decide)]; exact x1
     ·rw [upd_ne _ (by decide)]; exact xb
     ·rw [upd_ne _ (by decide)]; exact xc
     ·rw [upd_ne _ (by decide)]; exact q1
    ·have hne0 : ∀ o, ({ block := g, off := o } : Addr) ≠ ⟨vb, 2, none⟩ := fun o h => hn1 (by injection h)
     refine wpOp_of ho rfl (op_storeL rfl s12 y3 (c0 := .slice va l.length vcap) ?_ ?_ ?_)
     ·exact ((World.cell?_setCell_other _ _ _ _ (hne0 _)).trans ((World.cell?_setCell_other _ _ _ _ (hne0 _)).trans (World.cell?_setCell_other _ _ _ _ (hne0 _)))).trans cv4
     ·exact ((World.frozen?_setCell _ _ _ _).trans ((World.frozen?_setCell _ _ _ _).trans (World.frozen?_setCell _ _ _ _))).trans cf4
     refine ⟨hnew.1, hnew.2, hF.trans (Fx.set _ _ (.inr (.inr rfl))), .inr ⟨?_, ?_, ?_, upd_mono xd, W, W1, t, i2, p2, k3, n3, a3, l3, c3, g, cap, y1, y2, y3, hix, hA, hvv, hown, hgr, hat, hr1, .inr (.inr (.inr ⟨?_, upd_same _ _, .inl rfl⟩))⟩⟩
     ·rw [upd_ne _ (by decide)]; exact x1
     ·rw [upd_ne _ (by decide)]; exact xb
     ·rw [upd_ne _ (by decide)]; exact xc
     ·rw [upd_ne _ (by decide)]; exact q1
    ·exact absurd hD (by rw [q2]; simp)
    ·exact absurd hD (by rw [q2]; simp)
 ·rintro D a w ⟨hU, hS, hF, hWd⟩ hall
  have hN : ops.size = 14 := by rw [hsh.size]; rfl
  rcases hWd with hx | ⟨x1, xb, xc, xd, W, W1, t, i2, p2, k3, n3, a3, l3, c3, g, cap, y1, y2, y3, y4, hA, hvv, hown, hgr, hat, hr1, hst⟩
  ·exact absurd (hall 8 (by omega)) (by rw [hx.1]; simp)
  ·have q1 := hall 10 (by omega)
   have q2 := hall 13 (by omega)
   have hpush := hA.push hvv hown hgr hat
   obtain ⟨cv4, cf4, hn1, hn2⟩ := vb_after hA hown hgr
   have hlog := (hown.lt g rfl).1
   have hbg : b ≠ g := by omega
   rcases hst with ⟨r1, _, _⟩ | ⟨_, r1, _⟩ | ⟨r1, _, _⟩ | ⟨_, _, rfl | rfl⟩
   ·rw [q1] at r1; cases r1
   ·rw [q2] at r1; cases r1
   ·rw [q1] at r1; cases r1
   ·exact hQn t i2 p2 a _ y1 hU ((((hr1.far (q := ⟨g, _, none⟩) hbg _).far (q := ⟨g, _, none⟩) hbg _).far (q := ⟨g, _, none⟩) hbg _).far (q := ⟨vb, _, none⟩) hbv _) ⟨_, _, hpush.1⟩ hF
   ·exact hQn t i2 p2 a _ y1 hU ((((hr1.far (q := ⟨vb, _, none⟩) hbv _).far (q := ⟨g, _, none⟩) hbg _).far (q := ⟨g, _, none⟩) hbg _).far (q := ⟨g, _, none⟩) hbg _) ⟨_, _, hpush.2⟩ hF

def App1K (d : Nat) : List Key := [(some (d), .move (.tmp 1), none),
  (some (d + 1), .nilCheck (.tmp (d)), none),
  (some (d + 2), .fieldAddr 27 (.tmp (d + 1)) 2, none),
  (some (d + 3), .load 25 (.tmp (d + 2)), none),
  (some (d + 4), .move (.tmp 0), none),
  (some (d + 5), .move (.tmp 3), none),
  (some (d + 6), .call { callee := .value (.func 102), args := #[.tmp (d + 4), .tmp (d + 5)], argTypes := #[166, 170] }, none),
  (some (d + 7), .call { callee := .builtin .len, args := #[.tmp (d + 3)], argTypes := #[25] }, none),
  (some (d + 8), .buildSlice 25 1 #[(0, .const (.agg #[.int .i64 0, .int .i64 0, .slice none 0 0]))], none),
  (some (d + 9), .call { callee := .builtin .append, args := #[.tmp (d + 3), .tmp (d + 8)], argTypes := #[25, 25] }, none),
  (some (d + 10), .indexAddr 25 (.tmp (d + 9)) (.tmp (d + 7)), none),
  (none, .store 27 (.tmp (d + 10)) (.tmp (d + 6)), none),
  (some (d + 11), .nilCheck (.tmp (d)), none),
  (some (d + 12), .fieldAddr 27 (.tmp (d + 11)) 2, none),
  (none, .store 25 (.tmp (d + 12)) (.tmp (d + 9)), none)]
def App1E : List (List Nat) := [[], [0], [1], [2], [], [], [4, 5], [3], [], [3, 8, 6, 0, 1, 2, 3, 4, 5, 6, 7, 8], [9, 7, 0, 1, 2, 3, 4, 5, 6, 7, 8, 9], [10, 6, 9, 0, 1, 2, 3, 4, 5, 6, 7, 8, 9], [0, 0, 1, 2, 3, 4, 5, 6, 7, 8, 9], [12, 0, 1, 2, 3, 4, 5, 6, 7, 8, 9], [13, 9, 9, 0, 1, 2, 3, 4, 5, 6, 7, 8, 9]]
def App1T (d vb b F : Nat) (v : Value) (len : Nat) : List (Nat × Nat × Value) := [(0, d, .pointer (some ⟨vb, 0, none⟩)), (1, d + 1, .pointer (some ⟨vb, 0, none⟩)), (2, d + 2, .pointer (some ⟨vb, 2, none⟩)), (3, d + 3, v), (4, d + 4, .pointer (some ⟨b, 0, none⟩)), (5, d + 5, .func (.func F) #[] #[]), (7, d + 7, .int .i64 len), (12, d + 11, .pointer (some ⟨vb, 0, none⟩)), (13, d + 12, .pointer (some ⟨vb, 2, none⟩))]

/-- Where the world stands. -/
def App1W (s : ByteArray) (r : Except Nat (VT × Nat × Nat)) (lo b vb d i p : Nat) (k n : Int) (l : List VT) (v : Value) (xs : List Value) (D : Nat → Bool) (a : Act) (w : World) : Prop :=
 (D 9 = false ∧ D 10 = false ∧ D 11 = false ∧ D 14 = false ∧ Acc lo w vb k n l v xs ∧
  (D 6 = false → Rd w b s i p ∧ HasWords w) ∧
  (D 6 = true → ∃ (t : VT) (i2 p2 : Nat) (k3 n3 : Int) (a3 : Option Addr) (l3 c3 : Nat), r = .ok (t, i2, p2) ∧ Rd w b s i2 p2 ∧ a.eval (.tmp (d + 6)) = .agg #[.int .i64 k3, .int .i64 n3, .slice a3 l3 c3] ∧
   IsV (fun g => lo ≤ g ∧ g < w.heap.size ∧ some g ≠ v.ownBlock) w t (.agg #[.int .i64 k3, .int .i64 n3, .slice a3 l3 c3])) ∧
  (D 8 = true → ∃ z, a.eval (.tmp (d + 8)) = .slice (some ⟨z, 0, none⟩) 1 1 ∧ Bx w z 27 (.int .i64 0) (.int .i64 0) (.slice none 0 0) ∧ z ≠ b)) ∨
 (D 9 = true ∧ D 8 = true ∧ D 6 = true ∧ D 3 = true ∧ ∃ (W W1 : World) (t : VT) (i2 p2 : Nat) (k3 n3 : Int) (a3 : Option Addr) (l3 c3 g cap : Nat), r = .ok (t, i2, p2) ∧ a.eval (.tmp (d + 6)) = .agg #[.int .i64 k3, .int .i64 n3, .slice a3 l3 c3] ∧
  a.eval (.tmp (d + 9)) = .slice (some ⟨g, 0, none⟩) (l.length + 1) cap ∧ (D 10 = true → a.eval (.tmp (d + 10)) = .pointer (some ⟨g, l.length * 3, none⟩)) ∧
  Acc lo W vb k n l v xs ∧ IsV (fun g => lo ≤ g ∧ g < W.heap.size ∧ some g ≠ v.ownBlock) W t (.agg #[.int .i64 k3, .int .i64 n3, .slice a3 l3 c3]) ∧
  W1.ownsRow lo 27 3 (.slice (some ⟨g, 0, none⟩) (l.length + 1) cap) (l.length + 1) (xs ++ zeroV) ∧ W.grownBy W1 v.ownBlock ∧ (v.ownBlock = some g ∨ g = W.heap.size) ∧ Rd W1 b s i2 p2 ∧
  ((D 11 = false ∧ D 14 = false ∧ w = W1) ∨ (D 11 = true ∧ D 14 = false ∧ w = putE g (l.length * 3) k3 n3 a3 l3 c3 W1) ∨ (D 11 = false ∧ D 14 = true ∧ w = putV vb g (l.length + 1) cap W1) ∨
   (D 11 = true ∧ D 14 = true ∧ (w = putV vb g (l.length + 1) cap (putE g (l.length * 3) k3 n3 a3 l3 c3 W1) ∨ w = putE g (l.length * 3) k3 n3 a3 l3 c3 (putV vb g (l.length + 1) cap W1)))))
theorem App1W.pure {s : ByteArray} {r : Except Nat (VT × Nat × Nat)} {lo b vb d i p : Nat} {k n : Int} {l : List VT} {v : Value} {xs : List Value} {D : Nat → Bool} {a : Act} {w : World} (h : App1W s r lo b vb d i p k n l v xs D a w) (j t : Nat) (u : Value)
  (h1 : j ≠ 6) (h2 : j ≠ 8) (h3 : j ≠ 9) (h4 : j ≠ 10) (h5 : j ≠ 11) (h6 : j ≠ 14) (t1 : d + 6 ≠ t) (t2 : d + 8 ≠ t) (t3 : d + 9 ≠ t) (t4 : d + 10 ≠ t) :
  App1W s r lo b vb d i p k n l v xs (upd D j) (a.put (some t) u) w := by
 unfold App1W at h ⊢
 simp only [upd_ne D (Ne.symm h1), upd_ne D (Ne.symm h2), upd_ne D (Ne.symm h3), upd_ne D (Ne.symm h4), upd_ne D (Ne.symm h5), upd_ne D (Ne.symm h6), eval_put_ne t1, eval_put_ne t2, eval_put_ne t3, eval_put_ne t4]
 rcases h with h | ⟨x1, x2, x3, x4, h⟩
 ·exact .inl h
 ·exact .inr ⟨x1, x2, x3, upd_mono x4, h⟩

set_option maxRecDepth 100000 in
set_option maxHeartbeats 1000000 in
theorem App1_region {s : ByteArray} {f F : Nat} {m : Int → Bool} (hV : ValC s f) (hm : MayIs F m) {lo b vb d i p id : Nat} {k n : Int} {l : List VT} {v : Value} {xs : List Value} {ops : Array Oper} {Q : Exit → Act → World → Prop} {a0 : Act} {w0 : World}
  (hsh : Shape ops (App1K d) App1E) (hd : 4 ≤ d) (hsz : d + 13 ≤ a0.tmps.size) (h0 : a0.eval (.tmp 0) = .pointer (some ⟨b, 0, none⟩)) (h1 : a0.eval (.tmp 1) = .pointer (some ⟨vb, 0, none⟩)) (h3 : a0.eval (.tmp 3) = .func (.func F) #[] #[])
  (hr : Rd w0 b s i p) (hi : i ≤ s.size) (hp : p ≤ 256) (hpf : 256 ≤ p + f) (hW : HasWords w0) (hacc : Acc lo w0 vb k n l v xs) (hll : l.length ≤ 1000)
  (hb0 : b ≠ 0) (_hv0 : vb ≠ 0) (_hw0 : 0 < lo) (hblo : b < lo) (hbv : b ≠ vb)
  (hQp : ∀ j a w, pVal s f m i p = .error j → a.defers = a0.defers → Fx lo b vb w0 w → Q (.panic [{ v := .iface 164 (.int .i64 (j : Nat)), recovered := false }]) a w)
  (hQn : ∀ t i2 p2 a w, pVal s f m i p = .ok (t, i2, p2) → Upd a0 a d 13 → Rd w b s i2 p2 → (∃ v xs, Acc lo w vb k n (l ++ [t]) v xs) → Fx lo b vb w0 w → Q .normal a w) :
  (Code.region id ops true).wp Tryz.prog Q a0 w0 := by
 obtain ⟨i0, hi0, hz0, hz1, hz2⟩ := info_parts val_info
 obtain ⟨va, vcap, rfl⟩ := hacc.form
 have hvl := hacc.vlt
 refine wp_region_inv (by kernel_rfl) (hsh.edged (by decide)) (fun D a w => Upd a0 a d 13 ∧ Slots (App1T d vb b F (.slice va l.length vcap) l.length) D a ∧ Fx lo b vb w0 w ∧ App1W s (pVal s f m i p) lo b vb d i p k n l (.slice va l.length vcap) xs D a w) ?_ ?_ ?_
 ·refine ⟨Upd.refl _ _ _, fun x _ h => by simp at h, Fx.drew, .inl ⟨rfl, rfl, rfl, rfl, hacc.drew, fun _ => ⟨hr.drew, hW.drew⟩, fun h => by simp at h, fun h => by simp at h⟩⟩
 ·rintro D a w j o ⟨hU, hS, hF, hWd⟩ ho hD hdep
  have hk := hsh.key_at ho
  have hasz : a.tmps.size = a0.tmps.size := hU.size
  have hj : j < 15 := by
   rcases Nat.lt_or_ge j 15 with hlt | hge
   ·exact hlt
   ·rw [List.getElem?_eq_none (by simpa [App1K] using hge)] at hk; cases hk
  have hdp := fun es => hsh.dep_at ho hdep (es := es)
  clear hdep
  have hcases : j = 0 ∨ j = 1 ∨ j = 2 ∨ j = 3 ∨ j = 4 ∨ j = 5 ∨ j = 6 ∨ j = 7 ∨ j = 8 ∨ j = 9 ∨ j = 10 ∨ j = 11 ∨ j = 12 ∨ j = 13 ∨ j = 14 := by omega
  rcases hcases with rfl | rfl | rfl | rfl | rfl | rfl | rfl | rfl | rfl | rfl | rfl | rfl | rfl | rfl | rfl
  ·
   obtain ⟨odst, oop, oty, opos, oaft, ogd⟩ := o
   simp only [key, App1K, List.getElem?_cons_zero, Option.some.injEq, Prod.mk.injEq] at hk
   obtain ⟨rfl, rfl, rfl⟩ := hk
   refine wpOp_of ho rfl (op_move rfl ((hU.eval (by omega)).trans h1) ?_)
   exact ⟨hU.put (by omega) (by omega) _, hS.put 0 (d) _ (by omega) (by simp [App1T]; try omega), hF, hWd.pure 0 (d) _ (by decide) (by decide) (by decide) (by decide) (by decide) (by decide) (by omega) (by omega) (by omega) (by omega)⟩
  ·
   obtain ⟨odst, oop, oty, opos, oaft, ogd⟩ := o
   simp only [key, App1K, List.getElem?_cons_zero, List.getElem?_cons_succ, Option.some.injEq, Prod.mk.injEq] at hk
   obtain ⟨rfl, rfl, rfl⟩ := hk
   have p0 : D 0 = true := hdp _ rfl 0 (by simp)
   have s0 : a.eval (.tmp (d)) = .pointer (some ⟨vb, 0, none⟩) := hS (0, d, .pointer (some ⟨vb, 0, none⟩)) (by simp [App1T]) p0
   refine wpOp_of ho rfl (op_nilCheck rfl s0 ?_)
   exact ⟨hU.put (by omega) (by omega) _, hS.put 1 (d + 1) _ (by omega) (by simp [App1T]; try omega), hF, hWd.pure 1 (d + 1) _ (by decide) (by decide) (by decide) (by decide) (by decide) (by decide) (by omega) (by omega) (by omega) (by omega)⟩
  ·
   obtain ⟨odst, oop, oty, opos, oaft, ogd⟩ := o
   simp only [key, App1K, List.getElem?_cons_zero, List.getElem?_cons_succ, Option.some.injEq, Prod.mk.injEq] at hk
   obtain ⟨rfl, rfl, rfl⟩ := hk
   have p1 : D 1 = true := hdp _ rfl 1 (by simp)
   have s1 : a.eval (.tmp (d + 1)) = .pointer (some ⟨vb, 0, none⟩) := hS (1, d + 1, .pointer (some ⟨vb, 0, none⟩)) (by simp [App1T]) p1
   refine wpOp_of ho rfl (op_valL rfl s1 ?_)
   exact ⟨hU.put (by omega) (by omega) _, hS.put 2 (d + 2) _ (by omega) (by simp [App1T]; try omega), hF, hWd.pure 2 (d + 2) _ (by decide) (by decide) (by decide) (by decide) (by decide) (by decide) (by omega) (by omega) (by omega) (by omega)⟩
  ·
   obtain ⟨odst, oop, oty, opos, oaft, ogd⟩ := o
   simp only [key, App1K, List.getElem?_cons_zero, List.getElem?_cons_succ, Option.some.injEq, Prod.mk.injEq] at hk
   obtain ⟨rfl, rfl, rfl⟩ := hk
   have p2 : D 2 = true := hdp _ rfl 2 (by simp)
   have s2 : a.eval (.tmp (d + 2)) = .pointer (some ⟨vb, 2, none⟩) := hS (2, d + 2, .pointer (some ⟨vb, 2, none⟩)) (by simp [App1T]) p2
   have hcell : w.cell? ⟨vb, 2, none⟩ = some (.slice va l.length vcap) := by
    rcases hWd with hx | hx
    ·exact hx.2.2.2.2.1.box.c2
    ·exact absurd hD (by rw [hx.2.2.2.1]; simp)
   refine wpOp_of ho rfl (op_load1 rfl s2 (notAgg_slice w) hcell ?_)
   exact ⟨hU.put (by omega) (by omega) _, hS.put 3 (d + 3) _ (by omega) (by simp [App1T]; try omega), hF, hWd.pure 3 (d + 3) _ (by decide) (by decide) (by decide) (by decide) (by decide) (by decide) (by omega) (by omega) (by omega) (by omega)⟩
  ·
   obtain ⟨odst, oop, oty, opos, oaft, ogd⟩ := o
   simp only [key, App1K, List.getElem?_cons_zero, List.getElem?_cons_succ, Option.some.injEq, Prod.mk.injEq] at hk
   obtain ⟨rfl, rfl, rfl⟩ := hk
   refine wpOp_of ho rfl (op_move rfl ((hU.eval (by omega)).trans h0) ?_)
   exact ⟨hU.put (by omega) (by omega) _, hS.put 4 (d + 4) _ (by omega) (by simp [App1T]; try omega), hF, hWd.pure 4 (d + 4) _ (by decide) (by decide) (by decide) (by decide) (by decide) (by decide) (by omega) (by omega) (by omega) (by omega)⟩
  ·
   obtain ⟨odst, oop, oty, opos, oaft, ogd⟩ := o
   simp only [key, App1K, List.getElem?_cons_zero, List.getElem?_cons_succ, Option.some.injEq, Prod.mk.injEq] at hk
   obtain ⟨rfl, rfl, rfl⟩ := hk
   refine wpOp_of ho rfl (op_move rfl ((hU.eval (by omega)).trans h3) ?_)
   exact ⟨hU.put (by omega) (by omega) _, hS.put 5 (d + 5) _ (by omega) (by simp [App1T]; try omega), hF, hWd.pure 5 (d + 5) _ (by decide) (by decide) (by decide) (by decide) (by decide) (by decide) (by omega) (by omega) (by omega) (by omega)⟩
  ·
   obtain ⟨odst, oop, oty, opos, oaft, ogd⟩ := o
   simp only [key, App1K, List.getElem?_cons_zero, List.getElem?_cons_succ, Option.some.injEq, Prod.mk.injEq] at hk
   obtain ⟨rfl, rfl, rfl⟩ := hk
   have p4 : D 4 = true := hdp _ rfl 4 (by simp)
   have p5 : D 5 = true := hdp _ rfl 5 (by simp)
   have s4 : a.eval (.tmp (d + 4)) = .pointer (some ⟨b, 0, none⟩) := hS (4, d + 4, .pointer (some ⟨b, 0, none⟩)) (by simp [App1T]) p4
   have s5 : a.eval (.tmp (d + 5)) = .func (.func F) #[] #[] := hS (5, d + 5, .func (.func F) #[] #[]) (by simp [App1T]) p5
   rcases hWd with ⟨x1, x2, x3, x4, hA, hB, hC, hE⟩ | hx
   ·obtain ⟨hr1, hw1⟩ := hB hD
    refine wpOp_of ho rfl (op_callValue rfl s4 s5 ?_)
    refine (hV m F b i p w hm hr1 hi hp hpf hw1 hb0).mono ?_
    intro e1 w1 he1
    rcases hv : pVal s f m i p with j | ⟨t, i2, p2⟩
    ·rw [hv] at he1
     obtain ⟨rfl, hg1⟩ := he1
     exact hQp j _ _ hv hU.defers (hF.trans (Fx.gr hA.le hg1))
    ·rw [hv] at he1
     obtain ⟨v3, rfl, hv3, hr3, hg3⟩ := he1
     obtain ⟨k3, n3, a3, l3, c3, rfl⟩ := hv3.form
     have hA3 := hA.gr hg3 hblo hbv
     have hle := hA.le
     refine ⟨hU.put (by omega) (by omega) _, hS.put 6 (d + 6) _ (by omega) (by simp [App1T]; try omega), hF.trans (Fx.gr hA.le hg3), .inl ⟨?_, ?_, ?_, ?_, hA3, ?_, ?_, ?_⟩⟩
     ·rw [upd_ne _ (by decide)]; exact x1
     ·rw [upd_ne _ (by decide)]; exact x2
     ·rw [upd_ne _ (by decide)]; exact x3
     ·rw [upd_ne _ (by decide)]; exact x4
     ·intro hf; rw [upd_same] at hf; cases hf
     ·intro _
      refine ⟨t, i2, p2, k3, n3, a3, l3, c3, rfl, hr3, eval_put_same (by omega) _, hv3.more fun g hg => ⟨by omega, hg.2, ?_⟩⟩
      intro e2
      have := (hA.row.lt g e2.symm).2
      omega
     ·intro hb
      rw [upd_ne _ (by decide)] at hb
      obtain ⟨z, z1, z2, z3⟩ := hE hb
      exact ⟨z, by rw [eval_put_ne (by omega)]; exact z1, z2.gr hg3 z3, z3⟩
   ·exact absurd hD (by rw [hx.2.2.1]; simp)
  ·
   obtain ⟨odst, oop, oty, opos, oaft, ogd⟩ := o
   simp only [key, App1K, List.getElem?_cons_zero, List.getElem?_cons_succ, Option.some.injEq, Prod.mk.injEq] at hk
   obtain ⟨rfl, rfl, rfl⟩ := hk
   have p3 : D 3 = true := hdp _ rfl 3 (by simp)
   have s3 : a.eval (.tmp (d + 3)) = .slice va l.length vcap := hS (3, d + 3, .slice va l.length vcap) (by simp [App1T]) p3
   refine wpOp_of ho rfl (op_len rfl s3 ?_)
   exact ⟨hU.put (by omega) (by omega) _, hS.put 7 (d + 7) _ (by omega) (by simp [App1T]; try omega), hF, hWd.pure 7 (d + 7) _ (by decide) (by decide) (by decide) (by decide) (by decide) (by decide) (by omega) (by omega) (by omega) (by omega)⟩
  ·
   obtain ⟨odst, oop, oty, opos, oaft, ogd⟩ := o
   simp only [key, App1K, List.getElem?_cons_zero, List.getElem?_cons_succ, Option.some.injEq, Prod.mk.injEq] at hk
   obtain ⟨rfl, rfl, rfl⟩ := hk
   refine wpOp_of ho rfl (op_buildZero rfl ?_)
   rcases hWd with ⟨x1, x2, x3, x4, hA, hB, hC, hE⟩ | hx
   ·have hle := hA.le
    refine ⟨hU.put (by omega) (by omega) _, hS.put 8 (d + 8) _ (by omega) (by simp [App1T]; try omega), hF.trans (Fx.alloc hA.le _), .inl ⟨?_, ?_, ?_, ?_, hA.alloc (b := b) _ hblo hbv, ?_, ?_, ?_⟩⟩
    ·rw [upd_ne _ (by decide)]; exact x1
    ·rw [upd_ne _ (by decide)]; exact x2
    ·rw [upd_ne _ (by decide)]; exact x3
    ·rw [upd_ne _ (by decide)]; exact x4
    ·intro hf
     rw [upd_ne _ (by decide)] at hf
     exact ⟨(hB hf).1.alloc _, (hB hf).2.alloc _⟩
    ·intro hf
     rw [upd_ne _ (by decide)] at hf
     obtain ⟨t, i2, p2, k3, n3, a3, l3, c3, y1, y2, y3, y4⟩ := hC hf
     refine ⟨t, i2, p2, k3, n3, a3, l3, c3, y1, y2.alloc _, by rw [eval_put_ne (by omega)]; exact y3, (y4.keep ?_).more ?_⟩
     ·intro g hg o
      exact World.cell?_alloc_lt _ _ _ hg.2.1
     ·intro g hg
      exact ⟨hg.1, by have := hg.2.1; simp; omega, hg.2.2⟩
    ·intro _
     exact ⟨w.heap.size, eval_put_same (by omega) _, Bx.new _ _ _ _ _, by omega⟩
   ·exact absurd hD (by rw [hx.2.1]; simp)
  ·
   obtain ⟨odst, oop, oty, opos, oaft, ogd⟩ := o
   simp only [key, App1K, List.getElem?_cons_zero, List.getElem?_cons_succ, Option.some.injEq, Prod.mk.injEq] at hk
   obtain ⟨rfl, rfl, rfl⟩ := hk
   have p3 : D 3 = true := hdp _ rfl 3 (by simp)
   have p8 : D 8 = true := hdp _ rfl 8 (by simp)
   have p6 : D 6 = true := hdp _ rfl 6 (by simp)
   have s3 : a.eval (.tmp (d + 3)) = .slice va l.length vcap := hS (3, d + 3, .slice va l.length vcap) (by simp [App1T]) p3
   rcases hWd with ⟨x1, x2, x3, x4, hA, hB, hC, hE⟩ | hx
   ·obtain ⟨t, i2, p2, k3, n3, a3, l3, c3, y1, y2, y3, y4⟩ := hC p6
    obtain ⟨z, z1, z2, z3⟩ := hE p8
    have hle := hA.le
    refine wpOp_of ho rfl (wp_append_lies w (.tmp (d + 3)) (.tmp (d + 8)) 25 rfl lo 27 i0 _ 3 40 Tryz.underlying25 hi0 hz0 hz1 hz2 rfl (by decide) (.slice va l.length vcap) l.length xs s3 hA.row ⟨z, 0, none⟩ 1 1 zeroV z1 rfl (zeros_at z2) zeros_one (by decide) (by unfold maxLen; omega) (by omega) hA.le _ rfl ?_)
    intro g cap w1 hown hgr hat hlt
    refine ⟨hU.put (by omega) (by omega) _, hS.put 9 (d + 9) _ (by omega) (by simp [App1T]; try omega), hF.trans (Fx.grown hA.le hgr ?_), .inr ⟨upd_same _ _, ?_, ?_, upd_mono p3, w, w1, t, i2, p2, k3, n3, a3, l3, c3, g, cap, y1, ?_, eval_put_same (by omega) _, ?_, hA, y4, hown, hgr, hat, ?_, .inl ⟨?_, ?_, rfl⟩⟩⟩
    ·intro g' hg'
     exact (hA.row.lt g' hg').1
    ·rw [upd_ne _ (by decide)]; exact p8
    ·rw [upd_ne _ (by decide)]; exact p6
    ·rw [eval_put_ne (by omega)]; exact y3
    ·intro hf; rw [upd_ne _ (by decide), x2] at hf; cases hf
    ·refine y2.keep (hgr.block b y2.lt ?_)
     intro e2
     have := (hA.row.lt b e2.symm).1
     omega
    ·rw [upd_ne _ (by decide)]; exact x3
    ·rw [upd_ne _ (by decide)]; exact x4
   ·exact absurd hD (by rw [hx.1]; simp)
  ·
   obtain ⟨odst, oop, oty, opos, oaft, ogd⟩ := o
   simp only [key, App1K, List.getElem?_cons_zero, List.getElem?_cons_succ, Option.some.injEq, Prod.mk.injEq] at hk
   obtain ⟨rfl, rfl, rfl⟩ := hk
   have p9 : D 9 = true := hdp _ rfl 9 (by simp)
   have p7 : D 7 = true := hdp _ rfl 7 (by simp)
   have s7 : a.eval (.tmp (d + 7)) = .int .i64 l.length := hS (7, d + 7, .int .i64 l.length) (by simp [App1T]) p7
   rcases hWd with hx | ⟨x1, xb, xc, xd, W, W1, t, i2, p2, k3, n3, a3, l3, c3, g, cap, y1, y2, y3, y4, y5⟩
   ·exact absurd p9 (by rw [hx.1]; simp)
   ·refine wpOp_of ho rfl (op_elemAddr rfl y3 s7 ?_)
    refine ⟨hU.put (by omega) (by omega) _, hS.put 10 (d + 10) _ (by omega) (by simp [App1T]; try omega), hF, .inr ⟨?_, ?_, ?_, upd_mono xd, W, W1, t, i2, p2, k3, n3, a3, l3, c3, g, cap, y1, ?_, ?_, ?_, ?_⟩⟩
    ·rw [upd_ne _ (by decide)]; exact x1
    ·rw [upd_ne _ (by decide)]; exact xb
    ·rw [upd_ne _ (by decide)]; exact xc
    ·rw [eval_put_ne (by omega)]; exact y2
    ·rw [eval_put_ne (by omega)]; exact y3
    ·intro _; exact eval_put_same (by omega) _
    ·rw [upd_ne _ (show 11 ≠ 10 by decide), upd_ne _ (show 14 ≠ 10 by decide)]
     exact y5
  ·
   obtain ⟨odst, oop, oty, opos, oaft, ogd⟩ := o
   simp only [key, App1K, List.getElem?_cons_zero, List.getElem?_cons_succ, Option.some.injEq, Prod.mk.injEq] at hk
   obtain ⟨rfl, rfl, rfl⟩ := hk
   have p10 : D 10 = true := hdp _ rfl 10 (by simp)
   have p9 : D 9 = true := hdp _ rfl 9 (by simp)
   have p6 : D 6 = true := hdp _ rfl 6 (by simp)
   rcases hWd with hx | ⟨x1, xb, xc, xd, W, W1, t, i2, p2, k3, n3, a3, l3, c3, g, cap, y1, y2, y3, y4, hA, hvv, hown, hgr, hat, hr1, hst⟩
   ·exact absurd p9 (by rw [hx.1]; simp)
   ·have sx := y4 p10
    obtain ⟨e0, e1, e2, ef, ec⟩ := new_place hown
    obtain ⟨cv4, cf4, hn1, hn2⟩ := vb_after hA hown hgr
    have hlog := (hown.lt g rfl).1
    have hnew : Upd a0 (a.put none undef) d 13 ∧ Slots (App1T d vb b F (.slice va l.length vcap) l.length) (upd D 11) (a.put none undef) := ⟨hU, hS.done 11 (by simp [App1T])⟩
    rcases hst with ⟨_, q2, rfl⟩ | ⟨q1, _, _⟩ | ⟨_, q2, rfl⟩ | ⟨q1, _, _⟩
    ·refine wpOp_of ho rfl (op_storeVal rfl sx y2 e0 e1 e2 ef ?_)
     refine ⟨hnew.1, hnew.2, ((hF.trans (Fx.set _ _ (.inl hlog))).trans (Fx.set _ _ (.inl hlog))).trans (Fx.set _ _ (.inl hlog)), .inr ⟨?_, ?_, ?_, upd_mono xd, W, w, t, i2, p2, k3, n3, a3, l3, c3, g, cap, y1, y2, y3, ?_, hA, hvv, hown, hgr, hat, hr1, .inr (.inl ⟨upd_same _ _, ?_, rfl⟩)⟩⟩
     ·rw [upd_ne _ (by decide)]; exact x1
     ·rw [upd_ne _ (by decide)]; exact xb
     ·rw [upd_ne _ (by decide)]; exact xc
     ·intro _; exact sx
     ·rw [upd_ne _ (by decide)]; exact q2
    ·exact absurd hD (by rw [q1]; simp)
    ·have hne0 : ∀ o, ({ block := vb, off := 2 } : Addr) ≠ ⟨g, o, none⟩ := fun o h => hn2 (by injection h)
     refine wpOp_of ho rfl (op_storeVal rfl sx y2 (c0 := .int .i64 0) (c1 := .int .i64 0) (c2 := .slice none 0 0) ?_ ?_ ?_ ?_ ?_)
     ·exact (World.cell?_setCell_other _ _ _ _ (hne0 _)).trans e0
     ·exact (World.cell?_setCell_other _ _ _ _ (hne0 _)).trans e1
     ·exact (World.cell?_setCell_other _ _ _ _ (hne0 _)).trans e2
     ·intro o; exact (World.frozen?_setCell _ _ _ _).trans (ef o)
     refine ⟨hnew.1, hnew.2, ((hF.trans (Fx.set _ _ (.inl hlog))).trans (Fx.set _ _ (.inl hlog))).trans (Fx.set _ _ (.inl hlog)), .inr ⟨?_, ?_, ?_, upd_mono xd, W, W1, t, i2, p2, k3, n3, a3, l3, c3, g, cap, y1, y2, y3, ?_, hA, hvv, hown, hgr, hat, hr1, .inr (.inr (.inr ⟨upd_same _ _, ?_, .inr rfl⟩))⟩⟩
     ·rw [upd_ne _ (by decide)]; exact x1
     ·rw [upd_ne _ (by decide)]; exact xb
     ·rw [upd_ne _ (by decide)]; exact xc
     ·intro _; exact sx
     ·rw [upd_ne _ (by decide)]; exact q2
    ·exact absurd hD (by rw [q1]; simp)
  ·
   obtain ⟨odst, oop, oty, opos, oaft, ogd⟩ := o
   simp only [key, App1K, List.getElem?_cons_zero, List.getElem?_cons_succ, Option.some.injEq, Prod.mk.injEq] at hk
   obtain ⟨rfl, rfl, rfl⟩ := hk
   have p0 : D 0 = true := hdp _ rfl 0 (by simp)
   have s0 : a.eval (.tmp (d)) = .pointer (some ⟨vb, 0, none⟩) := hS (0, d, .pointer (some ⟨vb, 0, none⟩)) (by simp [App1T]) p0
   refine wpOp_of ho rfl (op_nilCheck rfl s0 ?_)
   exact ⟨hU.put (by omega) (by omega) _, hS.put 12 (d + 11) _ (by omega) (by simp [App1T]; try omega), hF, hWd.pure 12 (d + 11) _ (by decide) (by decide) (by decide) (by decide) (by decide) (by decide) (by omega) (by omega) (by omega) (by omega)⟩
  ·
   obtain ⟨odst, oop, oty, opos, oaft, ogd⟩ := o
   simp only [key, App1K, List.getElem?_cons_zero, List.getElem?_cons_succ, Option.some.injEq, Prod.mk.injEq] at hk
   obtain ⟨rfl, rfl, rfl⟩ := hk
   have p12 : D 12 = true := hdp _ rfl 12 (by simp)
   have s12 : a.eval (.tmp (d + 11)) = .pointer (some ⟨vb, 0, none⟩) := hS (12, d + 11, .pointer (some ⟨vb, 0, none⟩)) (by simp [App1T]) p12
   refine wpOp_of ho rfl (op_valL rfl s12 ?_)
   exact ⟨hU.put (by omega) (by omega) _, hS.put 13 (d + 12) _ (by omega) (by simp [App1T]; try omega), hF, hWd.pure 13 (d + 12) _ (by decide) (by decide) (by decide) (by decide) (by decide) (by decide) (by omega) (by omega) (by omega) (by omega)⟩
  ·
   obtain ⟨odst, oop, oty, opos, oaft, ogd⟩ := o
   simp only [key, App1K, List.getElem?_cons_zero, List.getElem?_cons_succ, Option.some.injEq, Prod.mk.injEq] at hk
   obtain ⟨rfl, rfl, rfl⟩ := hk
   have p13 : D 13 = true := hdp _ rfl 13 (by simp)
   have p9 : D 9 = true := hdp _ rfl 9 (by simp)
   have s13 : a.eval (.tmp (d + 12)) = .pointer (some ⟨vb, 2, none⟩) := hS (13, d + 12, .pointer (some ⟨vb, 2, none⟩)) (by simp [App1T]) p13
   rcases hWd with hx | ⟨x1, xb, xc, xd, W, W1, t, i2, p2, k3, n3, a3, l3, c3, g, cap, y1, y2, y3, y4, hA, hvv, hown, hgr, hat, hr1, hst⟩
   ·exact absurd p9 (by rw [hx.1]; simp)
   ·obtain ⟨cv4, cf4, hn1, hn2⟩ := vb_after hA hown hgr
    have hnew : Upd a0 (a.put none undef) d 13 ∧ Slots (App1T d vb b F (.slice va l.length vcap) l.length) (upd D 14) (a.put none undef) := ⟨hU, hS.done 14 (by simp [App1T])⟩
    have hix : upd D 14 10 = true → a.eval (.tmp (d + 10)) = .pointer (some ⟨g, l.length * 3, none⟩) := by
     intro hf; rw [upd_ne _ (by decide)] at hf; exact y4 hf
    rcases hst with ⟨q1, _, rfl⟩ | ⟨q1, _, rfl⟩ | ⟨_, q2, _⟩ | ⟨_, q2, _⟩
    ·refine wpOp_of ho rfl (op_storeL rfl s13 y3 cv4 cf4 ?_)
     refine ⟨hnew.1, hnew.2, hF.trans (Fx.set _ _ (.inr (.inr rfl))), .inr ⟨?_, ?_, ?_, upd_mono xd, W, w, t, i2, p2, k3, n3, a3, l3, c3, g, cap, y1, y2, y3, hix, hA, hvv, hown, hgr, hat, hr1, .inr (.inr (.inl ⟨?_, upd_same _ _, rfl⟩))⟩⟩
     ·rw [upd_ne _ (by decide)]; exact x1
     ·rw [upd_ne _ (by decide)]; exact xb
     ·rw [upd_ne _ (by decide)]; exact xc
     ·rw [upd_ne _ (by decide)]; exact q1
    ·have hne0 : ∀ o, ({ block := g, off := o } : Addr) ≠ ⟨vb, 2, none⟩ := fun o h => hn1 (by injection h)
     refine wpOp_of ho rfl (op_storeL rfl s13 y3 (c0 := .slice va l.length vcap) ?_ ?_ ?_)
     ·exact ((World.cell?_setCell_other _ _ _ _ (hne0 _)).trans ((World.cell?_setCell_other _ _ _ _ (hne0 _)).trans (World.cell?_setCell_other _ _ _ _ (hne0 _)))).trans cv4
     ·exact ((World.frozen?_setCell _ _ _ _).trans ((World.frozen?_setCell _ _ _ _).trans (World.frozen?_setCell _ _ _ _))).trans cf4
     refine ⟨hnew.1, hnew.2, hF.trans (Fx.set _ _ (.inr (.inr rfl))), .inr ⟨?_, ?_, ?_, upd_mono xd, W, W1, t, i2, p2, k3, n3, a3, l3, c3, g, cap, y1, y2, y3, hix, hA, hvv, hown, hgr, hat, hr1, .inr (.inr (.inr ⟨?_, upd_same _ _, .inl rfl⟩))⟩⟩
     ·rw [upd_ne _ (by decide)]; exact x1
     ·rw [upd_ne _ (by decide)]; exact xb
     ·rw [upd_ne _ (by decide)]; exact xc
     ·rw [upd_ne _ (by decide)]; exact q1
    ·exact absurd hD (by rw [q2]; simp)
    ·exact absurd hD (by rw [q2]; simp)
 ·rintro D a w ⟨hU, hS, hF, hWd⟩ hall
  have hN : ops.size = 15 := by rw [hsh.size]; rfl
  rcases hWd with hx | ⟨x1, xb, xc, xd, W, W1, t, i2, p2, k3, n3, a3, l3, c3, g, cap, y1, y2, y3, y4, hA, hvv, hown, hgr, hat, hr1, hst⟩
  ·exact absurd (hall 9 (by omega)) (by rw [hx.1]; simp)
  ·have q1 := hall 11 (by omega)
   have q2 := hall 14 (by omega)
   have hpush := hA.push hvv hown hgr hat
   obtain ⟨cv4, cf4, hn1, hn2⟩ := vb_after hA hown hgr
   have hlog := (hown.lt g rfl).1
   have hbg : b ≠ g := by omega
   rcases hst with ⟨r1, _, _⟩ | ⟨_, r1, _⟩ | ⟨r1, _, _⟩ | ⟨_, _, rfl | rfl⟩
   ·rw [q1] at r1; cases r1
   ·rw [q2] at r1; cases r1
   ·rw [q1] at r1; cases r1
   ·exact hQn t i2 p2 a _ y1 hU ((((hr1.far (q := ⟨g, _, none⟩) hbg _).far (q := ⟨g, _, none⟩) hbg _).far (q := ⟨g, _, none⟩) hbg _).far (q := ⟨vb, _, none⟩) hbv _) ⟨_, _, hpush.1⟩ hF
   ·exact hQn t i2 p2 a _ y1 hU ((((hr1.far (q := ⟨vb, _, none⟩) hbv _).far (q := ⟨g, _, none⟩) hbg _).far (q := ⟨g, _, none⟩) hbg _).far (q := ⟨g, _, none⟩) hbg _) ⟨_, _, hpush.2⟩ hF
end Go.Proofs.YtjldbbcdhdfliaaGreatDoor
/-
 Walks over package valtext's reader: more, over value's contract.
-/
namespace Go.Proofs.YtjldbbcdhdfliaaGreatDoor
open Go.RowKit

/-- The operations of a region, out of a function's code. -/
def regionOf (id : Nat) : Code → Option (Array Oper)
 | .region j ops _ => if j = id then some ops else none
 | .seq x y => match regionOf id x with
  | some o => some o
  | none => regionOf id y
 | .cond _ x y => match regionOf id x with
  | some o => some o
  | none => regionOf id y
 | .block _ c => regionOf id c
 | .loop c => regionOf id c
 | .scope c => regionOf id c
 | _ => none
def ropsOf (f : Func) (id : Nat) : Array Oper := ((f.body.bind (regionOf id)).getD #[])
theorem list12 {us : List Value} (h : us.length = 12) : ∃ u0 u1 u2 u3 u4 u5 u6 u7 u8 u9 u10 u11, us = [u0, u1, u2, u3, u4, u5, u6, u7, u8, u9, u10, u11] := by
 match us, h with
 | [u0, u1, u2, u3, u4, u5, u6, u7, u8, u9, u10, u11], _ => exact ⟨u0, u1, u2, u3, u4, u5, u6, u7, u8, u9, u10, u11, rfl⟩
theorem list13 {us : List Value} (h : us.length = 13) : ∃ u0 u1 u2 u3 u4 u5 u6 u7 u8 u9 u10 u11 u12, us = [u0, u1, u2, u3, u4, u5, u6, u7, u8, u9, u10, u11, u12] := by
 match us, h with
 | [u0, u1, u2, u3, u4, u5, u6, u7, u8, u9, u10, u11, u12], _ => exact ⟨u0, u1, u2, u3, u4, u5, u6, u7, u8, u9, u10, u11, u12, rfl⟩
theorem more_shape : Shape (ropsOf Tryz.f159 4) (App1K 21) App1E := ⟨by kernel_rfl, by kernel_rfl⟩

set_option maxRecDepth 100000 in
set_option maxHeartbeats 2000000 in
theorem more_any (s : ByteArray) (f : Nat) (hV : ValC s f) (m : Int → Bool) (mf b vb lo : Nat) (k n : Int) (hm : MayIs mf m) (hs : s.size ≤ maxLen) (hb0 : b ≠ 0) (hv0 : vb ≠ 0) (hw0 : 0 < lo) (hblo : b < lo) (hbv : b ≠ vb)
  (c : Nat) (hc : c ≤ 20) (l : List VT) (i p : Nat) (v : Value) (xs : List Value) (w : World) (h : Rd w b s i p) (hi : i ≤ s.size) (hp : p ≤ 256) (hpf : 256 ≤ p + f) (hl : l.length ≤ 20) (hacc : Acc lo w vb k n l v xs) (hW : HasWords w) :
  Calls Tryz.prog 159 #[.pointer (some ⟨b, 0, none⟩), .pointer (some ⟨vb, 0, none⟩), .int .i64 c, .func (.func mf) #[] #[]] w (LstEnds lo b vb s k n w (pMore s (pVal s f) m c l i p)) := by
 have hs2 := hs
 unfold maxLen at hs2
 have HV := Lib.hid hV
 clear hV
 obtain ⟨i0, hi0, hz0, hz1, hz2⟩ := info_parts val_info
 go_enter Tryz.func159, Tryz.ntmps159
 go_wp2_with fail
 go_loopw [9] (fun x wr => ∃ (j i' p' : Nat) (l' : List VT) (v' : Value) (xs' : List Value), x = .int .i64 j ∧ j ≤ c ∧ l'.length ≤ 20 + j ∧ pMore s (pVal s f) m c l i p = pMore s (pVal s f) m (c - j) l' i' p' ∧ i' ≤ s.size ∧ p ≤ p' ∧ p' ≤ 256 ∧ Rd wr b s i' p' ∧ Acc lo wr vb k n l' v' xs' ∧ Fx lo b vb w wr) (fun x _ => c - (intOf x).toNat)
 case atStart => exact ⟨0, i, p, l, v, xs, rfl, by omega, by omega, rfl, hi, by omega, hp, h, hacc, Fx.refl _ _ _ _⟩
 case round =>
  clear h hacc
  obtain ⟨j, i', p', l', v', xs', rfl, hj, hl', hq, hi', hpp, hp', hr, hacc, hfx⟩ := hrel
  have HQ := Lib.hid hq
  clear hq
  by_cases hjc : j < c
  ·have hq2 : pMore s (pVal s f) m (c - j) l' i' p' = if isB s i' 44 then
     match pOne (pVal s f) m l' (i' + 1) p' with
     | .error j => .error j
     | .ok (l2, i2, p2) => pMore s (pVal s f) m (c - (j + 1)) l2 i2 p2
     else .ok (l', i', p') := by
    rw [show c - j = (c - (j + 1)) + 1 from by omega, pMore]
    rfl
   have HQ2 := Lib.hid hq2
   clear hq2
   cases hcm : isB s i' 44
   ·have HB := Lib.hid hcm
    clear hcm
    go_wp2_with fail
    refine (next_any b s i' p' 44 _ hr hs (by omega) hi').mono ?_
    rintro e w1 ⟨rfl, n1, rfl⟩
    rw [HB.out]
    go_wp2_with fail
    refine bodyPost_ret (results_none rfl _ _ _) rfl ?_
    rw [HQ.out, HQ2.out, HB.out]
    exact ⟨rfl, hr.drewN n1, ⟨v', xs', hacc.drewN n1⟩, hfx.trans (Fx.drewN n1)⟩
   ·have hlt := isB_lt (by omega) hcm
    have HB := Lib.hid hcm
    clear hcm
    go_wp2_with fail
    refine (next_any b s i' p' 44 _ hr hs (by omega) hi').mono ?_
    rintro e w1 ⟨rfl, n1, rfl⟩
    rw [HB.out]
    have d1 := hr.c1
    have f1 := hr.fz 1
    go_wp2_with fail
    have hr2 : Rd ((wr.drewN n1).setCell ⟨b, 1, none⟩ (.int .i64 ((i' : Int) + 1))) b s (i' + 1) p' := (hr.drewN n1).set1 (i' + 1)
    have hacc2 := (hacc.drewN n1).setB 1 (.int .i64 ((i' : Int) + 1)) hblo hbv
    have hfx2 := (hfx.trans (Fx.drewN n1)).trans (Fx.set ⟨b, 1, none⟩ (.int .i64 ((i' : Int) + 1)) (.inr (.inl rfl)))
    clear d1 f1 hr hacc hfx
    generalize (wr.drewN n1).setCell ⟨b, 1, none⟩ (.int .i64 ((i' : Int) + 1)) = w2 at *
    have hW2 := hfx2.words hW hw0 hb0 hv0
    refine App1_region (d := 21) (lo := lo) (b := b) (vb := vb) (i := i' + 1) (p := p') (k := k) (n := n) (l := l') (v := v') (xs := xs') (F := mf) (f := f) (m := m) (s := s) (w0 := w2) HV.out hm more_shape (by omega) (by simp) rfl rfl rfl hr2 (by omega) hp' (by omega) hW2 hacc2 (by omega) hb0 hv0 hw0 hblo hbv ?_ ?_
    ·intro j' a3 w3 ho hdf hf3
     refine ⟨hdf, ?_⟩
     rw [HQ.out, HQ2.out, HB.out]
     unfold pOne
     rw [ho]
     exact ⟨rfl, hfx2.trans hf3⟩
    ·rintro t i2 p2 a3 w3 ho hU hr3 ⟨v3, xs3, hacc3⟩ hf3
     have hgo := pVal_goes s f m (i' + 1) p' t i2 p2 (by omega) (by omega) ho
     obtain ⟨us, hus, rfl⟩ := hU.list (by simp)
     obtain ⟨x0, x1, x2, x3, x4, x5, x6, x7, x8, x9, x10, x11, x12, rfl⟩ := list13 hus
     simp only [List.take_succ_cons, List.take_zero, List.drop_succ_cons, List.drop_zero, List.cons_append, List.nil_append]
     have HO : Hid (pOne (pVal s f) m l' (i' + 1) p' = .ok (l' ++ [t], i2, p2)) := by
      show _ = _
      unfold pOne
      rw [ho]
     clear ho hus hU
     have hfx3 := hfx2.trans hf3
     clear hfx2 hf3
     go_wp2_with fail
     refine ⟨⟨j + 1, i2, p2, l' ++ [t], v3, xs3, by go_num, by omega, by simp; omega, ?_, by omega, by omega, by omega, hr3, hacc3, hfx3⟩, by simp [intOf]; omega⟩
     rw [HQ.out, HQ2.out, HB.out, HO.out]
     rfl
  ·have HC0 : Hid (pMore s (pVal s f) m (c - j) l' i' p' = .ok (l', i', p')) := by
    show _ = _
    rw [show c - j = 0 from by omega, pMore]
   go_wp2_with fail
   go_end0
   rw [HQ.out, HC0.out]
   exact ⟨rfl, hr, ⟨v', xs', hacc⟩, hfx⟩
end Go.Proofs.YtjldbbcdhdfliaaGreatDoor
