/-
  A region that draws its order, by an invariant: what holds of the done operations, the frame and the world is shown to be kept by each operation once, whatever the order.
-/
import Derived.Test.YtjendlnicbieoaaGreatDoorRows
import Derived.WalkKit
import Derived.WalkSpells
import Derived.WalkLawsBesides
import Derived.Test.YtjendlnicbieoaaGreatDoorLexB
namespace Go.Proofs.YtjendlnicbieoaaGreatDoor
open Go.RowKit

def upd (D : Nat → Bool) (i : Nat) : Nat → Bool := fun j => if j = i then true else D j
theorem upd_same (D : Nat → Bool) (i : Nat) : upd D i i = true := by simp [upd]
theorem upd_ne (D : Nat → Bool) {i j : Nat} (h : j ≠ i) : upd D i j = D j := by simp [upd, h]

def falses (l : List Bool) : Nat := l.countP (· == false)

theorem falses_set : ∀ (l : List Bool) (i : Nat), l[i]? = some false → falses (l.set i true) + 1 = falses l
  | [], i, h => by simp at h
  | b :: r, 0, h => by
    simp at h
    subst h
    simp [falses]
  | b :: r, i + 1, h => by
    have := falses_set r i (by simpa using h)
    simp only [falses, List.set_cons_succ, List.countP_cons] at this ⊢
    omega
theorem falses_zero : ∀ (l : List Bool), falses l = 0 → ∀ i, i < l.length → l[i]? = some true
  | [], _, i, h => by simp at h
  | b :: r, h, 0, _ => by
    simp only [falses, List.countP_cons] at h
    cases b
    · simp at h
    · rfl
  | b :: r, h, i + 1, hi => by
    have h2 : falses r = 0 := by simp only [falses, List.countP_cons] at h ⊢; omega
    simpa using falses_zero r h2 i (by simpa using hi)

section
variable {P : Program} {ops : Array Oper} {Q : Exit → Act → World → Prop}
/-- The edges go back in the text. -/
def Edged (ops : Array Oper) : Prop := ∀ i o, ops[i]? = some o → ∀ e ∈ o.after, Region.binds .any e = true → e.on < i

theorem all_listed (he : Edged ops) (listed : Array Bool) (hs : listed.size = ops.size) (hr : Region.ready .any ops listed = []) : ∀ i, i < ops.size → listed.getD i false = true := by
  intro i
  induction i using Nat.strongRecOn with
  | _ i ih =>
    intro hi
    have ho : ops[i]? = some ops[i] := Array.getElem?_eq_getElem hi
    have hl : i < listed.size := by omega
    cases hb : listed[i] with
    | true => simp [Array.getD, hl, hb]
    | false =>
      exfalso
      have : i ∈ Region.ready .any ops listed := by
        unfold Region.ready
        rw [List.mem_filter]
        refine ⟨by simpa using hi, ?_⟩
        rw [ho]
        simp only [Array.getD, hl, dif_pos, Option.map_some, Option.getD_some]
        simp only [Array.getInternal_eq_getElem, hb, Bool.not_false, Bool.true_and, Array.all_eq_true_iff_forall_mem]
        intro e hm
        cases hbd : Region.binds .any e with
        | false => rfl
        | true =>
          have h1 := he i _ ho e hm hbd
          have h2 := ih e.on h1 (by omega)
          simpa [Array.getD] using h2
      rw [hr] at this
      cases this

theorem wpAny_inv (he : Edged ops) (I : (Nat → Bool) → Act → World → Prop)
    (hstep : ∀ (D : Nat → Bool) (a : Act) (w : World) (i : Nat) (o : Oper), I D a w → ops[i]? = some o → D i = false → (∀ e ∈ o.after, Region.binds .any e = true → D e.on = true) →
      wpOp P ops Q i (fun a' w' => I (upd D i) a' w') a w)
    (hend : ∀ (D : Nat → Bool) (a : Act) (w : World), I D a w → (∀ i, i < ops.size → D i = true) → Q .normal a w) :
    ∀ (fuel : Nat) (listed : Array Bool) (a : Act) (w : World), listed.size = ops.size → falses listed.toList ≤ fuel → I (fun j => listed.getD j false) a w → wpAny P .any ops Q fuel listed a w := by
  intro fuel
  induction fuel with
  | zero =>
    intro listed a w hs hf hI
    have hall : ∀ i, i < ops.size → listed.getD i false = true := by
      intro i hi
      have := falses_zero listed.toList (by omega) i (by simpa [hs] using hi)
      simp only [Array.getElem?_toList] at this
      simp [this]
    refine ⟨?_, hend _ a w hI hall⟩
    unfold Region.ready
    rw [List.filter_eq_nil_iff]
    intro i hi
    have hi' : i < ops.size := by simpa using hi
    have h1 := hall i hi'
    have hl : i < listed.size := by omega
    have h2 : listed.getD i true = true := by
      simp only [Array.getD, hl, dif_pos] at h1 ⊢
      exact h1
    rw [h2]
    simp
  | succ fuel ih =>
    intro listed a w hs hf hI
    refine ⟨fun hr => hend _ a w hI (all_listed he listed hs hr), fun i hi => ?_⟩
    unfold Region.ready at hi
    rw [List.mem_filter] at hi
    have hi' : i < ops.size := by simpa using hi.1
    have ho : ops[i]? = some ops[i] := Array.getElem?_eq_getElem hi'
    have hl : i < listed.size := by omega
    have hc := hi.2
    rw [ho] at hc
    simp only [Array.getD, hl, dif_pos, Option.map_some, Option.getD_some, Bool.and_eq_true, Bool.not_eq_true', Array.getInternal_eq_getElem, Array.all_eq_true_iff_forall_mem] at hc
    have hfi : listed[i] = false := hc.1
    refine wpOp_mono ?_ (hstep _ a w i _ hI ho (by simp [Array.getD, hl, hfi]) ?_)
    · intro a' w' hI'
      refine ih _ a' w' (by simpa using hs) ?_ ?_
      · have := falses_set listed.toList i (by simp [hl, hfi])
        simp only [Array.toList_setIfInBounds]
        omega
      · have e : (fun j => (listed.setIfInBounds i true).getD j false) = upd (fun j => listed.getD j false) i := by
          funext j
          unfold upd
          by_cases hj : j = i
          · subst hj
            simp [hl]
          · simp [hj, Ne.symm hj]
        rw [e]
        exact hI'
    · intro e hm hb
      have := hc.2 e hm
      rw [hb] at this
      simpa [Array.getD] using this

/-- A region that draws its order, by an invariant. -/
theorem wp_region_inv {id : Nat} {a : Act} {w : World} (hm : P.follows .mixedOrders = true) (he : Edged ops) (I : (Nat → Bool) → Act → World → Prop)
    (h0 : I (fun _ => false) a w.drew)
    (hstep : ∀ (D : Nat → Bool) (a : Act) (w : World) (i : Nat) (o : Oper), I D a w → ops[i]? = some o → D i = false → (∀ e ∈ o.after, Region.binds .any e = true → D e.on = true) →
      wpOp P ops Q i (fun a' w' => I (upd D i) a' w') a w)
    (hend : ∀ (D : Nat → Bool) (a : Act) (w : World), I D a w → (∀ i, i < ops.size → D i = true) → Q .normal a w) : (Code.region id ops true).wp P Q a w := by
  refine wp_region_any hm (wpAny_inv he I hstep hend ops.size _ a _ (by simp) ?_ ?_)
  · unfold falses
    have := List.countP_le_length (p := (· == false)) (l := (Array.replicate ops.size false).toList)
    simpa using this
  · have e : (fun j => (Array.replicate ops.size false).getD j false) = fun _ => false := by
      funext j
      by_cases hj : j < ops.size <;> simp [hj]
    rw [e]
    exact h0
end
end Go.Proofs.YtjendlnicbieoaaGreatDoor
/-
  Regions that draw their order, by an invariant: keys, edges, frames, slots; one operation at a time. (Cut out of XApp and XOps.)
-/
namespace Go.Proofs.YtjendlnicbieoaaGreatDoor
open Go.RowKit

abbrev Key := Option Tmp × Op × Option (Nat × Bool)
def key (o : Oper) : Key := (o.dst, o.op, o.guard)
def opDeps (o : Oper) : List Nat := (o.after.toList.filter (Region.binds .any)).map (·.on)
/-- What a region's operations are, and which must be done first. -/
structure Shape (ops : Array Oper) (KL : List Key) (EL : List (List Nat)) : Prop where
  keys : ops.toList.map key = KL
  edges : ops.toList.map opDeps = EL
section
variable {ops : Array Oper} {KL : List Key} {EL : List (List Nat)}
theorem Shape.key_at (h : Shape ops KL EL) {i : Nat} {o : Oper} (ho : ops[i]? = some o) : KL[i]? = some (key o) := by
  rw [← h.keys, List.getElem?_map, Array.getElem?_toList, ho]; rfl
theorem Shape.dep_at (h : Shape ops KL EL) {i : Nat} {o : Oper} (ho : ops[i]? = some o) {D : Nat → Bool} (hd : ∀ e ∈ o.after, Region.binds .any e = true → D e.on = true) {es : List Nat} (he : EL[i]? = some es) : ∀ j ∈ es, D j = true := by
  rw [← h.edges, List.getElem?_map, Array.getElem?_toList, ho] at he
  simp only [Option.map_some, Option.some.injEq] at he
  subst he
  intro j hj
  unfold opDeps at hj
  simp only [List.mem_map, List.mem_filter] at hj
  obtain ⟨e, ⟨he, hb⟩, rfl⟩ := hj
  exact hd e (by simpa using he) hb
theorem Shape.edged (h : Shape ops KL EL) (hc : (EL.zipIdx.all fun x => x.1.all fun j => decide (j < x.2)) = true) : Edged ops := by
  intro i o ho e he hb
  have h1 : EL[i]? = some (opDeps o) := by rw [← h.edges, List.getElem?_map, Array.getElem?_toList, ho]; rfl
  rw [List.all_eq_true] at hc
  have h2 := hc (opDeps o, i) (by rw [List.mem_zipIdx_iff_getElem?]; simpa using h1)
  rw [List.all_eq_true] at h2
  have h3 := h2 e.on (by unfold opDeps; simp only [List.mem_map, List.mem_filter]; exact ⟨e, ⟨by simpa using he, hb⟩, rfl⟩)
  simpa using h3
theorem Shape.size (h : Shape ops KL EL) : ops.size = KL.length := by
  rw [← h.keys]; simp
end

theorem upd_mono {D : Nat → Bool} {i j : Nat} (h : D j = true) : upd D i j = true := by unfold upd; split <;> simp [h]
/-! Frames that are variables. -/
theorem eval_put_same {a : Act} {t : Nat} (h : t < a.tmps.size) (v : Value) : (a.put (some t) v).eval (.tmp t) = v := by
  simp [Act.put, Act.eval, h]
theorem eval_put_ne {a : Act} {t u : Nat} (h : u ≠ t) (v : Value) : (a.put (some t) v).eval (.tmp u) = a.eval (.tmp u) := by
  simp [Act.put, Act.eval, Ne.symm h]
/-- But for n slots from d on the frame is as it was. -/
structure Upd (a0 a : Act) (d n : Nat) : Prop where
  size : a.tmps.size = a0.tmps.size
  defers : a.defers = a0.defers
  rest : ∀ t, t < d ∨ d + n ≤ t → a.tmps[t]? = a0.tmps[t]?
theorem Upd.refl (a : Act) (d n : Nat) : Upd a a d n := ⟨rfl, rfl, fun _ _ => rfl⟩
theorem Upd.put {a0 a : Act} {d n t : Nat} (h : Upd a0 a d n) (h1 : d ≤ t) (h2 : t < d + n) (v : Value) : Upd a0 (a.put (some t) v) d n :=
  ⟨by simpa [Act.put] using h.size, h.defers, fun u hu => by
    rw [← h.rest u hu]
    simp only [Act.put, Array.getElem?_setIfInBounds]
    rw [if_neg (by omega)]⟩
theorem Upd.eval {a0 a : Act} {d n t : Nat} (h : Upd a0 a d n) (ht : t < d) : a.eval (.tmp t) = a0.eval (.tmp t) := by
  simp only [Act.eval]
  rw [Array.getD_eq_getD_getElem?, Array.getD_eq_getD_getElem?, h.rest t (.inl ht)]
/-- The frame written out again. -/
theorem Upd.list {a0 a : Act} {d n : Nat} (h : Upd a0 a d n) (hs : d + n ≤ a0.tmps.size) : ∃ us : List Value, us.length = n ∧ a = ⟨(a0.tmps.toList.take d ++ (us ++ a0.tmps.toList.drop (d + n))).toArray, a0.defers⟩ := by
  refine ⟨(a.tmps.toList.drop d).take n, ?_, ?_⟩
  · have := h.size
    simp; omega
  · obtain ⟨tm, df⟩ := a
    have h1 := h.size
    have h2 := h.defers
    have h3 := h.rest
    simp only at h1 h2 h3 ⊢
    subst h2
    congr 1
    apply Array.ext'
    apply List.ext_getElem?
    intro i
    rw [List.getElem?_append]
    simp only [List.length_take, Array.length_toList]
    by_cases hi : i < d
    · rw [if_pos (by omega), List.getElem?_take, if_pos hi, Array.getElem?_toList, Array.getElem?_toList, h3 i (.inl hi)]
    · rw [if_neg (by omega), List.getElem?_append]
      simp only [List.length_take, List.length_drop, Array.length_toList]
      by_cases hi2 : i < d + n
      · rw [if_pos (by omega), List.getElem?_take, if_pos (by omega), List.getElem?_drop, Array.getElem?_toList, Array.getElem?_toList]
        congr 1; omega
      · rw [if_neg (by omega), List.getElem?_drop, Array.getElem?_toList, Array.getElem?_toList, ← h3 _ (.inr (by omega))]
        congr 1; omega

/-- What the slots of the done operations hold. -/
def Slots (T : List (Nat × Nat × Value)) (D : Nat → Bool) (a : Act) : Prop := ∀ x ∈ T, D x.1 = true → a.eval (.tmp x.2.1) = x.2.2
theorem Slots.put {T : List (Nat × Nat × Value)} {D : Nat → Bool} {a : Act} (h : Slots T D a) (i t : Nat) (v : Value) (ht : t < a.tmps.size) (hT : ∀ x ∈ T, (x.1 = i → x.2.1 = t ∧ x.2.2 = v) ∧ (x.1 ≠ i → x.2.1 ≠ t)) : Slots T (upd D i) (a.put (some t) v) := by
  intro x hx hD
  by_cases hi : x.1 = i
  · obtain ⟨h1, h2⟩ := (hT x hx).1 hi
    rw [h1, h2]
    exact eval_put_same ht v
  · rw [eval_put_ne ((hT x hx).2 hi)]
    exact h x hx (by rwa [upd_ne _ hi] at hD)
theorem Slots.done {T : List (Nat × Nat × Value)} {D : Nat → Bool} {a : Act} (h : Slots T D a) (i : Nat) (hT : ∀ x ∈ T, x.1 ≠ i) : Slots T (upd D i) a := by
  intro x hx hD
  exact h x hx (by rwa [upd_ne _ (hT x hx)] at hD)
section
variable {P : Program} {ops : Array Oper} {Q : Exit → Act → World → Prop} {K : Act → World → Prop} {a : Act} {w : World} {o : Oper}

theorem wpOp_of {i : Nat} (ho : ops[i]? = some o) (hg : o.guard = none) (h : o.wp P a w K Q) : wpOp P ops Q i K a w := by
  unfold wpOp
  rw [ho]
  simp only [Region.wanted, hg, if_true]
  exact .inl h

theorem op_move {x : Operand} {v : Value} (h : o.op = .move x) (hx : a.eval x = v) (hk : K (a.put o.dst v) w) : o.wp P a w K Q := by
  subst hx
  unfold Oper.wp execOp
  simp only [h]
  exact hk
theorem op_run {n : Next} {w' : World} (h : (execOp a.eval o).run P w = .ok n w') (hk : o.upon P a K Q (.ok n w')) : o.wp P a w K Q := by
  unfold Oper.wp
  rw [h]
  exact hk
theorem op_nilCheck {x : Operand} {p : Addr} (h : o.op = .nilCheck x) (hx : a.eval x = .pointer (some p)) (hk : K (a.put o.dst (.pointer (some p))) w) : o.wp P a w K Q := by
  refine op_run (n := .value (.pointer (some p))) (w' := w) ?_ hk
  generalize a.eval = ev at *
  unfold execOp
  simp only [h]
  simp [go_sem, hx]
theorem op_load1 {x : Operand} {p : Addr} {t : TypeId} {v : Value} (h : o.op = .load t x) (hx : a.eval x = .pointer (some p)) (hu : (isAgg t).run P w = .ok false w)
    (hc : w.cell? p = some v) (hk : K (a.put o.dst v) w) : o.wp P a w K Q := by
  refine op_run (n := .value v) (w' := w) ?_ hk
  generalize a.eval = ev at *
  unfold execOp
  simp only [h]
  simp [go_sem, hx, hu, hc]
end
end Go.Proofs.YtjendlnicbieoaaGreatDoor
/-
  Package source's reader: move: the statement 'r.now, r.ahead = r.ahead, r.token()', in whatever order: by an invariant. Printed by gen_mv.py.
-/
namespace Go.Proofs.YtjendlnicbieoaaGreatDoor
open Go.RowKit Go.Sort

/-- A token's cells. -/
abbrev tkC (k : Nat) (S : ByteArray) (n : Nat) (r : List Value) : List Value := .int .i64 (k : Nat) :: .string S :: .int .i64 (n : Nat) :: r
def MvK : List Key := [(some 2, .move (.tmp 0), none),
    (some 3, .move (.tmp 0), none),
    (some 4, .move (.tmp 0), none),
    (some 5, .nilCheck (.tmp 4), none),
    (some 6, .fieldAddr 124 (.tmp 5) 2, none),
    (some 7, .load 106 (.tmp 6), none),
    (some 8, .move (.tmp 0), none),
    (some 9, .nilCheck (.tmp 8), none),
    (some 10, .fieldAddr 124 (.tmp 9) 0, none),
    (some 11, .call { callee := .value (.func 48), args := #[.tmp 10], argTypes := #[103] }, none),
    (some 12, .nilCheck (.tmp 2), none),
    (some 13, .fieldAddr 124 (.tmp 12) 1, none),
    (none, .store 106 (.tmp 13) (.tmp 7), none),
    (some 14, .nilCheck (.tmp 3), none),
    (some 15, .fieldAddr 124 (.tmp 14) 2, none),
    (none, .store 106 (.tmp 15) (.tmp 11), none)]
def MvD : List (List Nat) := [[], [], [], [2], [3], [4], [], [6], [7], [8], [0, 0, 2, 3, 4, 5, 9], [10, 0, 2, 3, 4, 5, 9], [11, 5, 9, 0, 2, 3, 4, 5, 9], [1, 0, 1, 2, 3, 4, 5, 6, 7, 8, 9, 10, 11, 12], [13, 0, 1, 2, 3, 4, 5, 6, 7, 8, 9, 10, 11, 12], [14, 9, 12, 0, 1, 2, 3, 4, 5, 6, 7, 8, 9, 10, 11, 12]]
def MvT (R k2 : Nat) (S2 : ByteArray) (l2 : Nat) : List (Nat × Nat × Value) := [(0, 2, .pointer (some ⟨R, 0, none⟩)), (1, 3, .pointer (some ⟨R, 0, none⟩)), (2, 4, .pointer (some ⟨R, 0, none⟩)), (3, 5, .pointer (some ⟨R, 0, none⟩)), (4, 6, .pointer (some ⟨R, 6, none⟩)), (5, 7, tkV k2 S2 l2), (6, 8, .pointer (some ⟨R, 0, none⟩)), (7, 9, .pointer (some ⟨R, 0, none⟩)), (8, 10, .pointer (some ⟨R, 0, none⟩)), (10, 12, .pointer (some ⟨R, 0, none⟩)), (11, 13, .pointer (some ⟨R, 3, none⟩)), (13, 14, .pointer (some ⟨R, 0, none⟩)), (14, 15, .pointer (some ⟨R, 6, none⟩))]
/-- What stands after some of the operations. -/
structure MvI (a0 : Act) (R : Nat) (s : ByteArray) (i n : Nat) (c1 : List Value) (k2 : Nat) (S2 : ByteArray) (l2 : Nat) (tl : List Value) (w : World) (D : Nat → Bool) (a : Act) (W : World) : Prop where
  fr : Upd a0 a 2 14
  sl : Slots (MvT R k2 S2 l2) D a
  ft : FrB R w W
  env : EnvP W
  e12 : D 12 = true → D 9 = true
  b12 : D 12 = true → D 5 = true
  e15 : D 15 = true → D 12 = true
  m0 : D 9 = false → LxB W R 124 s i n (c1 ++ tkC k2 S2 l2 tl)
  m1 : D 9 = true → ∃ (j m k ln : Nat) (S : ByteArray), a.eval (.tmp 11) = tkV k S ln ∧ i ≤ j ∧ j ≤ s.size ∧ m ≤ j ∧ k ≤ 4 ∧ ln ≤ s.size ∧ tok1 (bs s i) n = (⟨k, S.data.toList, ln⟩, bs s j, m) ∧
    LxB W R 124 s j m ((if D 12 = true then tkC k2 S2 l2 [] else c1) ++ (if D 15 = true then tkC k S ln tl else tkC k2 S2 l2 tl))
section
variable {a0 a : Act} {R : Nat} {s : ByteArray} {i n : Nat} {c1 : List Value} {k2 : Nat} {S2 : ByteArray} {l2 : Nat} {tl : List Value} {w W : World} {D : Nat → Bool}
/-- An operation that only sets a slot. -/
theorem MvI.step (h : MvI a0 R s i n c1 k2 S2 l2 tl w D a W) (q t : Nat) (v : Value) (h9 : q ≠ 9) (h12 : q ≠ 12) (h15 : q ≠ 15) (h1 : 2 ≤ t) (h2 : t < 16) (ht : t ≠ 11) (hs : t < a.tmps.size) (hT : ∀ x ∈ MvT R k2 S2 l2, (x.1 = q → x.2.1 = t ∧ x.2.2 = v) ∧ (x.1 ≠ q → x.2.1 ≠ t)) : MvI a0 R s i n c1 k2 S2 l2 tl w (upd D q) (a.put (some t) v) W := by
  have u9 : upd D q 9 = D 9 := upd_ne D (Ne.symm h9)
  have u12 : upd D q 12 = D 12 := upd_ne D (Ne.symm h12)
  have u15 : upd D q 15 = D 15 := upd_ne D (Ne.symm h15)
  refine ⟨h.fr.put (by omega) (by omega) v, h.sl.put q t v hs hT, h.ft, h.env, by rw [u12, u9]; exact h.e12, fun h5 => upd_mono (h.b12 (by rwa [u12] at h5)), by rw [u15, u12]; exact h.e15, by rw [u9]; exact h.m0, ?_⟩
  rw [u9, u12, u15]
  intro hd
  obtain ⟨j, m, k, ln, S, g1, g2⟩ := h.m1 hd
  exact ⟨j, m, k, ln, S, by rw [eval_put_ne (Ne.symm ht)]; exact g1, g2⟩
end
set_option maxRecDepth 100000 in
set_option maxHeartbeats 4000000 in
theorem move_region {ops : Array Oper} {Q : Exit → Act → World → Prop} {a0 : Act} {id R : Nat} {s : ByteArray} {i n k1 : Nat} {S1 : ByteArray} {l1 k2 : Nat} {S2 : ByteArray} {l2 : Nat} {tl : List Value} {w : World} (hsh : Shape ops MvK MvD) (hsz : 16 ≤ a0.tmps.size) (h0 : a0.eval (.tmp 0) = .pointer (some ⟨R, 0, none⟩))
    (hl : LxB w R 124 s i n (tkC k1 S1 l1 [] ++ tkC k2 S2 l2 tl)) (hs : s.size ≤ 4000000) (hi : i ≤ s.size) (hn : n ≤ i) (hE : EnvP w) (hb3 : R ≠ 3)
    (hQ : ∀ a W (j m k ln : Nat) (S : ByteArray), Upd a0 a 2 14 → FrB R w W → EnvP W → i ≤ j → j ≤ s.size → m ≤ j → k ≤ 4 → ln ≤ s.size → tok1 (bs s i) n = (⟨k, S.data.toList, ln⟩, bs s j, m) → LxB W R 124 s j m (tkC k2 S2 l2 (tkC k S ln tl)) → Q .normal a W) : (Code.region id ops true).wp Tryz.prog Q a0 w := by
  refine wp_region_inv (by kernel_rfl) (hsh.edged (by decide)) (MvI a0 R s i n (tkC k1 S1 l1 []) k2 S2 l2 tl w) ?_ ?_ ?_
  · exact ⟨Upd.refl _ _ _, fun x _ h => by simp at h, Fr.drew, hE.fr (S := fun _ => False) Fr.drew (fun h => h), fun h => by simp at h, fun h => by simp at h, fun h => by simp at h, fun _ => Blk.drew hl, fun h => by simp at h⟩
  · rintro D a wr j o hI ho hD hdep
    have hk := hsh.key_at ho
    have hasz : a.tmps.size = a0.tmps.size := hI.fr.size
    have hj : j < 16 := by
      rcases Nat.lt_or_ge j 16 with hlt | hge
      · exact hlt
      · rw [List.getElem?_eq_none (by simpa [MvK] using hge)] at hk; cases hk
    have hdp := fun es => hsh.dep_at ho hdep (es := es)
    clear hdep
    have hcases : j = 0 ∨ j = 1 ∨ j = 2 ∨ j = 3 ∨ j = 4 ∨ j = 5 ∨ j = 6 ∨ j = 7 ∨ j = 8 ∨ j = 9 ∨ j = 10 ∨ j = 11 ∨ j = 12 ∨ j = 13 ∨ j = 14 ∨ j = 15 := by omega
    rcases hcases with rfl | rfl | rfl | rfl | rfl | rfl | rfl | rfl | rfl | rfl | rfl | rfl | rfl | rfl | rfl | rfl
    · -- 0
      obtain ⟨odst, oop, oty, opos, oaft, ogd⟩ := o
      simp only [key, MvK, List.getElem?_cons_zero, Option.some.injEq, Prod.mk.injEq] at hk
      obtain ⟨rfl, rfl, rfl⟩ := hk
      exact wpOp_of ho rfl (op_move rfl ((hI.fr.eval (by omega)).trans h0) (hI.step 0 2 (.pointer (some ⟨R, 0, none⟩)) (by decide) (by decide) (by decide) (by decide) (by decide) (by decide) (by omega) (by simp [MvT])))
    · -- 1
      obtain ⟨odst, oop, oty, opos, oaft, ogd⟩ := o
      simp only [key, MvK, List.getElem?_cons_zero, List.getElem?_cons_succ, Option.some.injEq, Prod.mk.injEq] at hk
      obtain ⟨rfl, rfl, rfl⟩ := hk
      exact wpOp_of ho rfl (op_move rfl ((hI.fr.eval (by omega)).trans h0) (hI.step 1 3 (.pointer (some ⟨R, 0, none⟩)) (by decide) (by decide) (by decide) (by decide) (by decide) (by decide) (by omega) (by simp [MvT])))
    · -- 2
      obtain ⟨odst, oop, oty, opos, oaft, ogd⟩ := o
      simp only [key, MvK, List.getElem?_cons_zero, List.getElem?_cons_succ, Option.some.injEq, Prod.mk.injEq] at hk
      obtain ⟨rfl, rfl, rfl⟩ := hk
      exact wpOp_of ho rfl (op_move rfl ((hI.fr.eval (by omega)).trans h0) (hI.step 2 4 (.pointer (some ⟨R, 0, none⟩)) (by decide) (by decide) (by decide) (by decide) (by decide) (by decide) (by omega) (by simp [MvT])))
    · -- 3
      obtain ⟨odst, oop, oty, opos, oaft, ogd⟩ := o
      simp only [key, MvK, List.getElem?_cons_zero, List.getElem?_cons_succ, Option.some.injEq, Prod.mk.injEq] at hk
      obtain ⟨rfl, rfl, rfl⟩ := hk
      have p2_ : D 2 = true := hdp _ rfl 2 (by decide)
      have s4 : a.eval (.tmp 4) = .pointer (some ⟨R, 0, none⟩) := hI.sl (2, 4, .pointer (some ⟨R, 0, none⟩)) (by simp [MvT]) p2_
      exact wpOp_of ho rfl (op_nilCheck rfl s4 (hI.step 3 5 (.pointer (some ⟨R, 0, none⟩)) (by decide) (by decide) (by decide) (by decide) (by decide) (by decide) (by omega) (by simp [MvT])))
    · -- 4
      obtain ⟨odst, oop, oty, opos, oaft, ogd⟩ := o
      simp only [key, MvK, List.getElem?_cons_zero, List.getElem?_cons_succ, Option.some.injEq, Prod.mk.injEq] at hk
      obtain ⟨rfl, rfl, rfl⟩ := hk
      have p3_ : D 3 = true := hdp _ rfl 3 (by decide)
      have s5 : a.eval (.tmp 5) = .pointer (some ⟨R, 0, none⟩) := hI.sl (3, 5, .pointer (some ⟨R, 0, none⟩)) (by simp [MvT]) p3_
      refine wpOp_of ho rfl (op_run (n := .value (.pointer (some ⟨R, 6, none⟩))) (w' := wr) ?_ (hI.step 4 6 (.pointer (some ⟨R, 6, none⟩)) (by decide) (by decide) (by decide) (by decide) (by decide) (by decide) (by omega) (by simp [MvT])))
      generalize a.eval = ev at *
      unfold execOp
      simp [go_sem, s5]
    · -- 5
      obtain ⟨odst, oop, oty, opos, oaft, ogd⟩ := o
      simp only [key, MvK, List.getElem?_cons_zero, List.getElem?_cons_succ, Option.some.injEq, Prod.mk.injEq] at hk
      obtain ⟨rfl, rfl, rfl⟩ := hk
      have p4_ : D 4 = true := hdp _ rfl 4 (by decide)
      have s6 : a.eval (.tmp 6) = .pointer (some ⟨R, 6, none⟩) := hI.sl (4, 6, .pointer (some ⟨R, 6, none⟩)) (by simp [MvT]) p4_
      have h12 : D 12 = false := by
        cases h : D 12 with
        | false => rfl
        | true =>
          exfalso
          have h5 := hI.b12 h
          rw [hD] at h5
          cases h5
      have h15 : D 15 = false := by
        cases h : D 15 with
        | false => rfl
        | true => rw [hI.e15 h] at h12; cases h12
      obtain ⟨ii, mm, hl6⟩ : ∃ ii mm, LxB wr R 124 s ii mm (tkC k1 S1 l1 [] ++ tkC k2 S2 l2 tl) := by
        cases h9 : D 9 with
        | false => exact ⟨_, _, hI.m0 h9⟩
        | true =>
          obtain ⟨j, m, k, ln, S, -, -, -, -, -, -, -, g⟩ := hI.m1 h9
          rw [h12, h15] at g
          exact ⟨j, m, g⟩
      have c6 := Blk.c hl6 6 rfl
      have c7 := Blk.c hl6 7 rfl
      have c8 := Blk.c hl6 8 rfl
      refine wpOp_of ho rfl (op_run (n := .value (tkV k2 S2 l2)) (w' := wr) ?_ (hI.step 5 7 (tkV k2 S2 l2) (by decide) (by decide) (by decide) (by decide) (by decide) (by decide) (by omega) (by simp [MvT])))
      generalize a.eval = ev at *
      unfold execOp
      simp [go_sem, s6, c6, c7, c8, tkV]
    · -- 6
      obtain ⟨odst, oop, oty, opos, oaft, ogd⟩ := o
      simp only [key, MvK, List.getElem?_cons_zero, List.getElem?_cons_succ, Option.some.injEq, Prod.mk.injEq] at hk
      obtain ⟨rfl, rfl, rfl⟩ := hk
      exact wpOp_of ho rfl (op_move rfl ((hI.fr.eval (by omega)).trans h0) (hI.step 6 8 (.pointer (some ⟨R, 0, none⟩)) (by decide) (by decide) (by decide) (by decide) (by decide) (by decide) (by omega) (by simp [MvT])))
    · -- 7
      obtain ⟨odst, oop, oty, opos, oaft, ogd⟩ := o
      simp only [key, MvK, List.getElem?_cons_zero, List.getElem?_cons_succ, Option.some.injEq, Prod.mk.injEq] at hk
      obtain ⟨rfl, rfl, rfl⟩ := hk
      have p6_ : D 6 = true := hdp _ rfl 6 (by decide)
      have s8 : a.eval (.tmp 8) = .pointer (some ⟨R, 0, none⟩) := hI.sl (6, 8, .pointer (some ⟨R, 0, none⟩)) (by simp [MvT]) p6_
      exact wpOp_of ho rfl (op_nilCheck rfl s8 (hI.step 7 9 (.pointer (some ⟨R, 0, none⟩)) (by decide) (by decide) (by decide) (by decide) (by decide) (by decide) (by omega) (by simp [MvT])))
    · -- 8
      obtain ⟨odst, oop, oty, opos, oaft, ogd⟩ := o
      simp only [key, MvK, List.getElem?_cons_zero, List.getElem?_cons_succ, Option.some.injEq, Prod.mk.injEq] at hk
      obtain ⟨rfl, rfl, rfl⟩ := hk
      have p7_ : D 7 = true := hdp _ rfl 7 (by decide)
      have s9 : a.eval (.tmp 9) = .pointer (some ⟨R, 0, none⟩) := hI.sl (7, 9, .pointer (some ⟨R, 0, none⟩)) (by simp [MvT]) p7_
      refine wpOp_of ho rfl (op_run (n := .value (.pointer (some ⟨R, 0, none⟩))) (w' := wr) ?_ (hI.step 8 10 (.pointer (some ⟨R, 0, none⟩)) (by decide) (by decide) (by decide) (by decide) (by decide) (by decide) (by omega) (by simp [MvT])))
      generalize a.eval = ev at *
      unfold execOp
      simp [go_sem, s9]
    · -- 9
      obtain ⟨odst, oop, oty, opos, oaft, ogd⟩ := o
      simp only [key, MvK, List.getElem?_cons_zero, List.getElem?_cons_succ, Option.some.injEq, Prod.mk.injEq] at hk
      obtain ⟨rfl, rfl, rfl⟩ := hk
      have p8_ : D 8 = true := hdp _ rfl 8 (by decide)
      have s10 : a.eval (.tmp 10) = .pointer (some ⟨R, 0, none⟩) := hI.sl (8, 10, .pointer (some ⟨R, 0, none⟩)) (by simp [MvT]) p8_
      have h12 : D 12 = false := by
        cases h : D 12 with
        | false => rfl
        | true => rw [hI.e12 h] at hD; cases hD
      have h15 : D 15 = false := by
        cases h : D 15 with
        | false => rfl
        | true => rw [hI.e15 h] at h12; cases h12
      refine wpOp_of ho rfl (op_run (n := .enter 48 #[.pointer (some ⟨R, 0, none⟩)]) (w' := wr) ?_ ?_)
      · have e1 : a.eval (.func 48) = .func (.func 48) #[] #[] := rfl
        generalize a.eval = ev at *
        unfold execOp
        simp [go_sem, s10, e1]
      · refine (token_any R 124 s i n _ wr (hI.m0 hD) hs hi hn hI.env hb3).mono ?_
        rintro e w1 ⟨hf, j, m, k, ln, S, rfl, g1, g2, g3, g4, g5, g6, g7⟩
        refine ⟨hI.fr.put (by omega) (by omega) _, hI.sl.put 9 11 _ (by omega) (by simp [MvT]), hI.ft.same hf, hI.env.fr hf (Ne.symm hb3), fun _ => upd_same D 9, fun h => by rw [upd_ne D (by decide)] at h ⊢; exact hI.b12 h, fun h => by rw [upd_ne D (by decide)] at h ⊢; exact hI.e15 h, fun h => (by rw [upd_same] at h; cases h), fun _ => ?_⟩
        refine ⟨j, m, k, ln, S, eval_put_same (by omega) _, g1, g2, g3, g6, g7, g5, ?_⟩
        rw [upd_ne D (by decide), upd_ne D (by decide), h12, h15]
        exact g4
    · -- 10
      obtain ⟨odst, oop, oty, opos, oaft, ogd⟩ := o
      simp only [key, MvK, List.getElem?_cons_zero, List.getElem?_cons_succ, Option.some.injEq, Prod.mk.injEq] at hk
      obtain ⟨rfl, rfl, rfl⟩ := hk
      have p0_ : D 0 = true := hdp _ rfl 0 (by decide)
      have s2 : a.eval (.tmp 2) = .pointer (some ⟨R, 0, none⟩) := hI.sl (0, 2, .pointer (some ⟨R, 0, none⟩)) (by simp [MvT]) p0_
      exact wpOp_of ho rfl (op_nilCheck rfl s2 (hI.step 10 12 (.pointer (some ⟨R, 0, none⟩)) (by decide) (by decide) (by decide) (by decide) (by decide) (by decide) (by omega) (by simp [MvT])))
    · -- 11
      obtain ⟨odst, oop, oty, opos, oaft, ogd⟩ := o
      simp only [key, MvK, List.getElem?_cons_zero, List.getElem?_cons_succ, Option.some.injEq, Prod.mk.injEq] at hk
      obtain ⟨rfl, rfl, rfl⟩ := hk
      have p10_ : D 10 = true := hdp _ rfl 10 (by decide)
      have s12 : a.eval (.tmp 12) = .pointer (some ⟨R, 0, none⟩) := hI.sl (10, 12, .pointer (some ⟨R, 0, none⟩)) (by simp [MvT]) p10_
      refine wpOp_of ho rfl (op_run (n := .value (.pointer (some ⟨R, 3, none⟩))) (w' := wr) ?_ (hI.step 11 13 (.pointer (some ⟨R, 3, none⟩)) (by decide) (by decide) (by decide) (by decide) (by decide) (by decide) (by omega) (by simp [MvT])))
      generalize a.eval = ev at *
      unfold execOp
      simp [go_sem, s12]
    · -- 12
      obtain ⟨odst, oop, oty, opos, oaft, ogd⟩ := o
      simp only [key, MvK, List.getElem?_cons_zero, List.getElem?_cons_succ, Option.some.injEq, Prod.mk.injEq] at hk
      obtain ⟨rfl, rfl, rfl⟩ := hk
      have p11_ : D 11 = true := hdp _ rfl 11 (by decide)
      have s13 : a.eval (.tmp 13) = .pointer (some ⟨R, 3, none⟩) := hI.sl (11, 13, .pointer (some ⟨R, 3, none⟩)) (by simp [MvT]) p11_
      have p5_ : D 5 = true := hdp _ rfl 5 (by decide)
      have s7 : a.eval (.tmp 7) = tkV k2 S2 l2 := hI.sl (5, 7, tkV k2 S2 l2) (by simp [MvT]) p5_
      have p9_ : D 9 = true := hdp _ rfl 9 (by decide)
      have h15 : D 15 = false := by
        cases h : D 15 with
        | false => rfl
        | true => rw [hI.e15 h] at hD; cases hD
      obtain ⟨j, m, k, ln, S, g1, g2, g3, g4, g5, g6, g7, hl6⟩ := hI.m1 p9_
      rw [hD, h15] at hl6
      have hl6 : LxB wr R 124 s j m (tkC k1 S1 l1 [] ++ tkC k2 S2 l2 tl) := hl6
      have c3 := Blk.c hl6 3 rfl
      have c4 := Blk.c hl6 4 rfl
      have c5 := Blk.c hl6 5 rfl
      have f3 := Blk.fz hl6 3
      have f4 := Blk.fz hl6 4
      have f5 := Blk.fz hl6 5
      refine wpOp_of ho rfl (op_run (n := .skip) (w' := ((wr.setCell ⟨R, 3, none⟩ (.int .i64 (k2 : Nat))).setCell ⟨R, 4, none⟩ (.string S2)).setCell ⟨R, 5, none⟩ (.int .i64 (l2 : Nat))) ?_ ?_)
      · generalize a.eval = ev at *
        unfold execOp
        simp [go_sem, s13, s7, c3, c4, c5, f3, f4, f5, tkV]
      · refine ⟨hI.fr, hI.sl.done 12 (by simp [MvT]), ((hI.ft.set 3 _).set 4 _).set 5 _, ((hI.env.fr (Fr.set (S := fun k => k = R) (.inl rfl)) (Ne.symm hb3)).fr (Fr.set (S := fun k => k = R) (.inl rfl)) (Ne.symm hb3)).fr (Fr.set (S := fun k => k = R) (.inl rfl)) (Ne.symm hb3), fun _ => by rw [upd_ne D (by decide)]; exact p9_, fun _ => by rw [upd_ne D (by decide)]; exact p5_, fun _ => upd_same D 12, fun h => (by rw [upd_ne D (by decide), p9_] at h; cases h), fun _ => ?_⟩
        refine ⟨j, m, k, ln, S, g1, g2, g3, g4, g5, g6, g7, ?_⟩
        rw [upd_same, upd_ne D (by decide), h15]
        exact Blk.set (Blk.set (Blk.set hl6 3 (.int .i64 (k2 : Nat))) 4 (.string S2)) 5 (.int .i64 (l2 : Nat))
    · -- 13
      obtain ⟨odst, oop, oty, opos, oaft, ogd⟩ := o
      simp only [key, MvK, List.getElem?_cons_zero, List.getElem?_cons_succ, Option.some.injEq, Prod.mk.injEq] at hk
      obtain ⟨rfl, rfl, rfl⟩ := hk
      have p1_ : D 1 = true := hdp _ rfl 1 (by decide)
      have s3 : a.eval (.tmp 3) = .pointer (some ⟨R, 0, none⟩) := hI.sl (1, 3, .pointer (some ⟨R, 0, none⟩)) (by simp [MvT]) p1_
      exact wpOp_of ho rfl (op_nilCheck rfl s3 (hI.step 13 14 (.pointer (some ⟨R, 0, none⟩)) (by decide) (by decide) (by decide) (by decide) (by decide) (by decide) (by omega) (by simp [MvT])))
    · -- 14
      obtain ⟨odst, oop, oty, opos, oaft, ogd⟩ := o
      simp only [key, MvK, List.getElem?_cons_zero, List.getElem?_cons_succ, Option.some.injEq, Prod.mk.injEq] at hk
      obtain ⟨rfl, rfl, rfl⟩ := hk
      have p13_ : D 13 = true := hdp _ rfl 13 (by decide)
      have s14 : a.eval (.tmp 14) = .pointer (some ⟨R, 0, none⟩) := hI.sl (13, 14, .pointer (some ⟨R, 0, none⟩)) (by simp [MvT]) p13_
      refine wpOp_of ho rfl (op_run (n := .value (.pointer (some ⟨R, 6, none⟩))) (w' := wr) ?_ (hI.step 14 15 (.pointer (some ⟨R, 6, none⟩)) (by decide) (by decide) (by decide) (by decide) (by decide) (by decide) (by omega) (by simp [MvT])))
      generalize a.eval = ev at *
      unfold execOp
      simp [go_sem, s14]
    · -- 15
      obtain ⟨odst, oop, oty, opos, oaft, ogd⟩ := o
      simp only [key, MvK, List.getElem?_cons_zero, List.getElem?_cons_succ, Option.some.injEq, Prod.mk.injEq] at hk
      obtain ⟨rfl, rfl, rfl⟩ := hk
      have p14_ : D 14 = true := hdp _ rfl 14 (by decide)
      have s15 : a.eval (.tmp 15) = .pointer (some ⟨R, 6, none⟩) := hI.sl (14, 15, .pointer (some ⟨R, 6, none⟩)) (by simp [MvT]) p14_
      have p12_ : D 12 = true := hdp _ rfl 12 (by decide)
      have p9_ : D 9 = true := hdp _ rfl 9 (by decide)
      obtain ⟨j, m, k, ln, S, g1, g2, g3, g4, g5, g6, g7, hl6⟩ := hI.m1 p9_
      rw [p12_, hD] at hl6
      have hl6 : LxB wr R 124 s j m (tkC k2 S2 l2 [] ++ tkC k2 S2 l2 tl) := hl6
      have c6 := Blk.c hl6 6 rfl
      have c7 := Blk.c hl6 7 rfl
      have c8 := Blk.c hl6 8 rfl
      have f6 := Blk.fz hl6 6
      have f7 := Blk.fz hl6 7
      have f8 := Blk.fz hl6 8
      have g1' := g1
      refine wpOp_of ho rfl (op_run (n := .skip) (w' := ((wr.setCell ⟨R, 6, none⟩ (.int .i64 (k : Nat))).setCell ⟨R, 7, none⟩ (.string S)).setCell ⟨R, 8, none⟩ (.int .i64 (ln : Nat))) ?_ ?_)
      · generalize a.eval = ev at *
        unfold execOp
        simp [go_sem, s15, g1, c6, c7, c8, f6, f7, f8, tkV]
      · refine ⟨hI.fr, hI.sl.done 15 (by simp [MvT]), ((hI.ft.set 6 _).set 7 _).set 8 _, ((hI.env.fr (Fr.set (S := fun k => k = R) (.inl rfl)) (Ne.symm hb3)).fr (Fr.set (S := fun k => k = R) (.inl rfl)) (Ne.symm hb3)).fr (Fr.set (S := fun k => k = R) (.inl rfl)) (Ne.symm hb3), fun h => by rw [upd_ne D (by decide)]; exact p9_, fun _ => by rw [upd_ne D (by decide)]; exact hI.b12 p12_, fun _ => by rw [upd_ne D (by decide)]; exact p12_, fun h => (by rw [upd_ne D (by decide), p9_] at h; cases h), fun _ => ?_⟩
        refine ⟨j, m, k, ln, S, g1', g2, g3, g4, g5, g6, g7, ?_⟩
        rw [upd_same, upd_ne D (by decide), p12_]
        exact Blk.set (Blk.set (Blk.set hl6 6 (.int .i64 (k : Nat))) 7 (.string S)) 8 (.int .i64 (ln : Nat))
  · intro D a W hI hall
    obtain ⟨j, m, k, ln, S, g1, g2, g3, g4, g5, g6, g7, hl6⟩ := hI.m1 (hall 9 (by rw [hsh.size]; decide))
    rw [hall 12 (by rw [hsh.size]; decide), hall 15 (by rw [hsh.size]; decide)] at hl6
    exact hQ a W j m k ln S hI.fr hI.ft hI.env g2 g3 g4 g5 g6 g7 hl6
end Go.Proofs.YtjendlnicbieoaaGreatDoor
