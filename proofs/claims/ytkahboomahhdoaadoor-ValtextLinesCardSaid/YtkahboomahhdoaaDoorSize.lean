/-
  Walks over the reference of layer 4: Size (a queue of values), Same, Right.
-/
import Derived.Test.YtkahboomahhdoaaDoorMore
import Derived.Test.YtkahboomahhdoaaDoorRefA
import Derived.Test.YtkahboomahhdoaaDoorText2
import Derived.Deep.Upon
namespace Go.Proofs.YtkahboomahhdoaaDoor
open Go.RowKit

/-- A row of values: its cells. -/
theorem IsV.cells {ok : Nat → Prop} {w : World} {t : VT} {v0 v1 v2 : Value} (h : IsV ok w t (.agg #[v0, v1, v2])) : v0.oneCell' = true ∧ v1.oneCell' = true ∧ v2.oneCell' = true := by
  obtain ⟨k, n, a, len, cap, he⟩ := h.form
  simp only [Value.agg.injEq, Array.mk.injEq, List.cons.injEq, and_true] at he
  obtain ⟨rfl, rfl, rfl⟩ := he
  exact ⟨rfl, rfl, rfl⟩
theorem IsR.kids {ok : Nat → Prop} {w : World} : ∀ {l : List VT} {a : Option Addr} {i : Nat}, IsR ok w l a i → ∃ xs : List Value, Kids ok w l xs ∧ (∀ u ∈ xs, u.oneCell' = true) ∧ ∀ j u, xs[j]? = some u → ∃ g o, a = some ⟨g, o, none⟩ ∧ ok g ∧ w.cell? ⟨g, o + i * 3 + j, none⟩ = some u
  | [], a, i, h => ⟨[], rfl, by simp, by simp⟩
  | t :: r, a, i, h => by
    rw [IsR] at h
    obtain ⟨⟨g, o, v0, v1, v2, h1, h2, h3, h4, h5, h6⟩, h7⟩ := h
    obtain ⟨xs, k1, k2, k3⟩ := IsR.kids h7
    have hc := h6.cells
    refine ⟨v0 :: v1 :: v2 :: xs, ⟨v0, v1, v2, xs, rfl, h6, k1⟩, ?_, ?_⟩
    · intro u hu
      simp only [List.mem_cons] at hu
      rcases hu with rfl | rfl | rfl | hu
      · exact hc.1
      · exact hc.2.1
      · exact hc.2.2
      · exact k2 u hu
    · intro j u hj
      match j, hj with
      | 0, hj => simp at hj; subst hj; exact ⟨g, o, h1, h2, h3⟩
      | 1, hj => simp at hj; subst hj; exact ⟨g, o, h1, h2, h4⟩
      | 2, hj => simp at hj; subst hj; exact ⟨g, o, h1, h2, h5⟩
      | j + 3, hj =>
        simp only [List.getElem?_cons_succ] at hj
        obtain ⟨g', o', e1, e2, e3⟩ := k3 j u hj
        refine ⟨g', o', e1, e2, ?_⟩
        rwa [show o' + i * 3 + (j + 3) = o' + (i + 1) * 3 + j from by omega]
theorem Kids.one {ok : Nat → Prop} {w : World} : ∀ {l : List VT} {xs : List Value}, Kids ok w l xs → ∀ u ∈ xs, u.oneCell' = true
  | [], xs, h => by rw [Kids] at h; subst h; simp
  | t :: r, xs, h => by
    obtain ⟨v0, v1, v2, ys, rfl, hv, hr⟩ := h
    have hc := hv.cells
    intro u hu
    simp only [List.mem_cons] at hu
    rcases hu with rfl | rfl | rfl | hu
    · exact hc.1
    · exact hc.2.1
    · exact hc.2.2
    · exact hr.one u hu
theorem Kids.append {ok : Nat → Prop} {w : World} {l' : List VT} {ys : List Value} (hy : Kids ok w l' ys) : ∀ {l : List VT} {xs : List Value}, Kids ok w l xs → Kids ok w (l ++ l') (xs ++ ys)
  | [], xs, h => by rw [Kids] at h; subst h; exact hy
  | t :: r, xs, h => by
    obtain ⟨v0, v1, v2, zs, rfl, hv, hr⟩ := h
    exact ⟨v0, v1, v2, zs ++ ys, rfl, hv, Kids.append hy hr⟩
theorem ndL_append : ∀ (l l' : List VT), ndL (l ++ l') = ndL l + ndL l'
  | [], l' => by rw [List.nil_append, ndL]; omega
  | t :: r, l' => by rw [List.cons_append, ndL, ndL, ndL_append r l']; omega
theorem len_ndL : ∀ (l : List VT), l.length ≤ ndL l
  | [] => Nat.zero_le _
  | t :: r => by
    have := len_ndL r
    rw [ndL, List.length_cons]
    have : 1 ≤ nd t := by cases t; rw [nd]; omega
    omega

section
variable {Q : Exit → Act → World → Prop} {K : Act → World → Prop} {a : Act} {w : World} {o : Oper}
theorem op_buildNone (h : o.op = .buildSlice 24 0 #[]) (hk : K (a.put o.dst (.slice (some ⟨w.heap.size, 0, none⟩) 0 0)) (w.alloc (.cells #[] 26))) : o.wp Tryd.prog a w K Q := by
  refine op_run (n := .value (.slice (some ⟨w.heap.size, 0, none⟩) 0 0)) (w' := w.alloc (.cells #[] 26)) ?_ hk
  unfold execOp
  simp only [h]
  simp [go_sem]
theorem op_tail {x : Operand} {g n c : Nat} (h : o.op = .slice 24 x (some (.const (.int .i64 1))) none none) (hx : a.eval x = .slice (some ⟨g, 0, none⟩) n c) (hn : 1 ≤ n) (hc : n ≤ c)
    (hk : ∀ p, (n ≠ 1 → p = ⟨g, 3, none⟩) → K (a.put o.dst (.slice (some p) (n - 1) (c - 1))) w) : o.wp Tryd.prog a w K Q := by
  have e1 : a.eval (.const (.int .i64 1)) = .int .i64 1 := rfl
  have h1n : (1 : Int) ≤ (n : Int) := by omega
  refine op_run (n := .value (.slice (some (if c = 1 then ⟨g, 0, none⟩ else ⟨g, 3, none⟩)) (n - 1) (c - 1))) (w' := w) ?_ (hk _ fun h => if_neg (by omega))
  generalize a.eval = ev at *
  unfold execOp
  simp only [h]
  simp [go_sem, hx, e1, h1n]
  split <;> rfl
theorem op_assign {x : Operand} {v : Value} (h : o.op = .assign x) (hx : a.eval x = v) (hk : K (a.put o.dst v) w) : o.wp Tryd.prog a w K Q := by
  subst hx
  unfold Oper.wp execOp
  simp only [h]
  exact hk
theorem run_append_none (w : World) (t ty e : TypeId) (i : TypeInfo) (ht : Tryd.prog.underlying t = some (.slice e)) (hi : Tryd.prog.info? e = some i) (base : Nat) (v : Value) (n c : Nat) (xs : List Value) (hown : w.ownsRow base e i.size v n xs) :
    (Builtin.append_ #[t, t] ty #[v, .slice none 0 c]).run Tryd.prog w = .ok v w := by
  rcases hown.2 with ⟨rfl, rfl⟩ | ⟨g, cap, cur, rfl, _, _, hnc, _⟩
  · simp [Builtin.append_, run_underlying ht, sizeOf, typeInfo, hi, Builtin.lenOf, Builtin.firstCells]
  · simp [Builtin.append_, run_underlying ht, sizeOf, typeInfo, hi, Builtin.lenOf, Builtin.firstCells, hnc, storeCells]
/-- The append of a row to one that is the call's own. -/
theorem op_appendRow {x y : Operand} {v : Value} {n m c lo : Nat} {xs news : List Value} {ao : Option Addr} (h : o.op = .call { callee := .builtin .append, args := #[x, y], argTypes := #[24, 24] })
    (hx : a.eval x = v) (hown : w.ownsRow lo 26 3 v n xs) (hv : v ≠ .slice none 0 0) (hy : a.eval y = .slice ao m c) (hl : news.length = m * 3) (hc : ∀ j u, news[j]? = some u → ∃ g o, ao = some ⟨g, o, none⟩ ∧ w.cell? ⟨g, o + j, none⟩ = some u) (h1 : ∀ u ∈ news, u.oneCell' = true)
    (hb : (n + m) * 40 ≤ 140737488355328) (hlo : lo ≤ w.heap.size)
    (hk : ∀ v' w', w'.ownsRow lo 26 3 v' (n + m) (xs ++ news) → v' ≠ .slice none 0 0 → w.grownBy w' v.ownBlock → K (a.put o.dst v') w') : o.wp Tryd.prog a w K Q := by
  obtain ⟨i0, hi0, hz0, hz1, hz2⟩ := info_parts val_info
  cases ao with
  | none =>
    have hm : m = 0 := by
      rcases Nat.eq_zero_or_pos m with h0 | h0
      · exact h0
      · obtain ⟨g, o, e, _⟩ := hc 0 (news[0]'(by omega)) (List.getElem?_eq_getElem _)
        cases e
    subst hm
    have hnil : news = [] := List.eq_nil_of_length_eq_zero (by omega)
    subst hnil
    have hrun := run_append_none w 24 o.type 26 i0 Tryd.underlying24 hi0 lo v n c xs (by rw [hz1]; exact hown)
    unfold Oper.wp execOp
    simp only [h, resolve, invoke, builtin, Sem.run_bind, Sem.run_pure, Result.andThen_ok, List.map_toArray, List.map_cons, List.map_nil, hx, hy, hrun]
    exact hk v w (by simpa using hown) hv ⟨rfl, rfl, rfl, Nat.le_refl _, fun _ _ _ => rfl⟩
  | some ad =>
    refine wp_append_own w x y 24 h lo 26 i0 _ 3 40 Tryd.underlying24 hi0 hz0 hz1 hz2 rfl (by decide) v n xs hx hown ad m c news hy hl ?_ h1 (by unfold maxLen; omega) hb hlo ?_
    · intro j u hj
      obtain ⟨g, o, e, hcell⟩ := hc j u hj
      rw [Option.some.inj e]
      exact (congrArg w.cell? (by simp [Addr.add])).trans hcell
    · intro v' w' h2 h3 h4
      exact hk v' w' h2 (fun e => hv (h4.1 e).1) h3
end

def SizeK : List Key := [(some 18, .buildSlice 24 0 #[], none),
    (some 19, .move (.tmp 3), none),
    (some 20, .slice 24 (.tmp 19) (some (.const (.int .i64 1))) none none, none),
    (some 21, .call { callee := .builtin .append, args := #[.tmp 18, .tmp 20], argTypes := #[24, 24] }, none),
    (some 22, .fieldAddr 26 (.tmp 5) 2, none),
    (some 23, .load 24 (.tmp 22), none),
    (some 24, .call { callee := .builtin .append, args := #[.tmp 21, .tmp 23], argTypes := #[24, 24] }, none),
    (some 3, .assign (.tmp 24), none)]
def SizeE : List (List Nat) := [[], [], [1], [0, 2], [], [4], [3, 5, 3], [6, 6, 0, 1, 2, 3, 4, 5, 6]]
theorem size_shape : Shape (ropsOf Tryd.f34 5) SizeK SizeE := ⟨by kernel_rfl, by kernel_rfl⟩

/-- Where the world stands in the region. -/
def SizeW (lo : Nat) (n1 n2 : Nat) (xs ys : List Value) (D : Nat → Bool) (a : Act) (w : World) : Prop :=
  (D 3 = false ∧ D 6 = false ∧ D 7 = false ∧ (D 0 = true → ∃ v, a.eval (.tmp 18) = v ∧ w.ownsRow lo 26 3 v 0 [] ∧ v ≠ .slice none 0 0)) ∨
  (D 0 = true ∧ D 2 = true ∧ D 3 = true ∧ D 6 = false ∧ D 7 = false ∧ ∃ v, a.eval (.tmp 21) = v ∧ w.ownsRow lo 26 3 v n1 xs ∧ v ≠ .slice none 0 0) ∨
  (D 0 = true ∧ D 2 = true ∧ D 3 = true ∧ D 5 = true ∧ D 6 = true ∧ D 7 = false ∧ ∃ v, a.eval (.tmp 24) = v ∧ w.ownsRow lo 26 3 v (n1 + n2) (xs ++ ys) ∧ v ≠ .slice none 0 0)
theorem ownsRow_keep {w w' : World} {lo n : Nat} {v : Value} {xs : List Value} (h : w.ownsRow lo 26 3 v n xs) (hb : Below w.heap.size w w') : w'.ownsRow lo 26 3 v n xs := by
  obtain ⟨h1, h2⟩ := h
  refine ⟨h1, ?_⟩
  rcases h2 with h2 | ⟨g, cap, cur, e1, e2, e3, e4⟩
  · exact .inl h2
  · exact .inr ⟨g, cap, cur, e1, e2, (hb.block g (lt_of_heap e3)).trans e3, e4⟩
theorem SizeW.pure {lo n1 n2 : Nat} {xs ys : List Value} {D : Nat → Bool} {a : Act} {w : World} (h : SizeW lo n1 n2 xs ys D a w) (j t : Nat) (u : Value)
    (h0 : j ≠ 0) (h3 : j ≠ 3) (h6 : j ≠ 6) (h7 : j ≠ 7) (t1 : 18 ≠ t) (t2 : 21 ≠ t) (t3 : 24 ≠ t) : SizeW lo n1 n2 xs ys (upd D j) (a.put (some t) u) w := by
  unfold SizeW at h ⊢
  simp only [upd_ne D (Ne.symm h0), upd_ne D (Ne.symm h3), upd_ne D (Ne.symm h6), upd_ne D (Ne.symm h7), eval_put_ne t1, eval_put_ne t2, eval_put_ne t3]
  rcases h with h | ⟨x1, x2, h⟩ | ⟨x1, x2, x3, x4, h⟩
  · exact .inl h
  · exact .inr (.inl ⟨x1, upd_mono x2, h⟩)
  · exact .inr (.inr ⟨x1, upd_mono x2, x3, upd_mono x4, h⟩)
theorem below_grown {B : Nat} {w w' : World} {row : Option Nat} (h : w.grownBy w' row) (hB : B ≤ w.heap.size) (hr : ∀ g, row = some g → B ≤ g) : Below B w w' :=
  ⟨h.os, h.tape, h.output, h.size, fun k hk => h.block k (by omega) (fun e => by have := hr k e.symm; omega)⟩

set_option maxRecDepth 100000 in
set_option maxHeartbeats 1000000 in
/-- The statement 'todo = append(append([]Val{}, todo[1:]...), x.L...)', in whatever order. -/
theorem Size_region {id g cap n b cap2 : Nat} {ao : Option Addr} {xs ys : List Value} {n2 : Nat} {ops : Array Oper} {Q : Exit → Act → World → Prop} {a0 : Act} {w0 : World}
    (hsh : Shape ops SizeK SizeE) (hsz : 25 ≤ a0.tmps.size) (h3 : a0.eval (.tmp 3) = .slice (some ⟨g, 0, none⟩) (n + 1) cap) (hcap : n + 1 ≤ cap) (h5 : a0.eval (.tmp 5) = .pointer (some ⟨b, 0, none⟩))
    (hL : w0.cell? ⟨b, 2, none⟩ = some (.slice ao n2 cap2)) (hbl : b < w0.heap.size)
    (hxs : xs.length = n * 3) (hxc : ∀ j u, xs[j]? = some u → g < w0.heap.size ∧ w0.cell? ⟨g, 3 + j, none⟩ = some u) (hx1 : ∀ u ∈ xs, u.oneCell' = true)
    (hys : ys.length = n2 * 3) (hyc : ∀ j u, ys[j]? = some u → ∃ g o, ao = some ⟨g, o, none⟩ ∧ g < w0.heap.size ∧ w0.cell? ⟨g, o + j, none⟩ = some u) (hy1 : ∀ u ∈ ys, u.oneCell' = true)
    (hbd : (n + n2) * 40 ≤ 140737488355328)
    (hQ : ∀ a g' cap' w, Upd a0 a 18 7 → n + n2 ≤ cap' → w.ownsRow w0.heap.size 26 3 (.slice (some ⟨g', 0, none⟩) (n + n2) cap') (n + n2) (xs ++ ys) → Below w0.heap.size w0 w → Q .normal (a.put (some 3) (.slice (some ⟨g', 0, none⟩) (n + n2) cap')) w) :
    (Code.region id ops true).wp Tryd.prog Q a0 w0 := by
  have hA : ∀ p : Addr, (n + 1 ≠ 1 → p = ⟨g, 3, none⟩) → ∀ w, Below w0.heap.size w0 w → ∀ j u, xs[j]? = some u → ∃ g o, some p = some ⟨g, o, none⟩ ∧ w.cell? ⟨g, o + j, none⟩ = some u := by
    intro p hp w hb j u hj
    obtain ⟨q1, q2⟩ := hxc j u hj
    have hjl := (List.getElem?_eq_some_iff.1 hj).1
    exact ⟨g, 3, by rw [hp (by omega)], (hb.cell (p := ⟨g, 3 + j, none⟩) q1).trans q2⟩
  have hB : ∀ w, Below w0.heap.size w0 w → ∀ j u, ys[j]? = some u → ∃ g o, ao = some ⟨g, o, none⟩ ∧ w.cell? ⟨g, o + j, none⟩ = some u := by
    intro w hb j u hj
    obtain ⟨g', o', q1, q2, q3⟩ := hyc j u hj
    exact ⟨g', o', q1, (hb.cell (p := ⟨g', o' + j, none⟩) q2).trans q3⟩
  refine wp_region_inv (by kernel_rfl) (hsh.edged (by decide)) (fun D a w =>
    (D 7 = false ∧ Upd a0 a 18 7 ∧ (D 1 = true → a.eval (.tmp 19) = .slice (some ⟨g, 0, none⟩) (n + 1) cap) ∧ (D 2 = true → ∃ p, (n + 1 ≠ 1 → p = ⟨g, 3, none⟩) ∧ a.eval (.tmp 20) = .slice (some p) n (cap - 1)) ∧
      (D 4 = true → a.eval (.tmp 22) = .pointer (some ⟨b, 2, none⟩)) ∧ (D 5 = true → a.eval (.tmp 23) = .slice ao n2 cap2) ∧ Below w0.heap.size w0 w ∧ SizeW w0.heap.size n n2 xs ys D a w) ∨
    (D 7 = true ∧ (∀ j, j < 7 → D j = true) ∧ ∃ a' g' cap', a = a'.put (some 3) (.slice (some ⟨g', 0, none⟩) (n + n2) cap') ∧ Upd a0 a' 18 7 ∧ n + n2 ≤ cap' ∧ w.ownsRow w0.heap.size 26 3 (.slice (some ⟨g', 0, none⟩) (n + n2) cap') (n + n2) (xs ++ ys) ∧ Below w0.heap.size w0 w)) ?_ ?_ ?_
  · exact .inl ⟨rfl, Upd.refl _ _ _, fun h => by simp at h, fun h => by simp at h, fun h => by simp at h, fun h => by simp at h, (Below.refl _ _).drew, .inl ⟨rfl, rfl, rfl, fun h => by simp at h⟩⟩
  · rintro D a w j o hI ho hD hdep
    have hk := hsh.key_at ho
    have hj : j < 8 := by
      rcases Nat.lt_or_ge j 8 with hlt | hge
      · exact hlt
      · rw [List.getElem?_eq_none (by simpa [SizeK] using hge)] at hk; cases hk
    have hdp := fun es => hsh.dep_at ho hdep (es := es)
    clear hdep
    rcases hI with ⟨h7, hU, s1, s2, s4, s5, hb, hW⟩ | ⟨h7, hall, _⟩
    rotate_left
    · rcases Nat.lt_or_ge j 7 with hlt | hge
      · rw [hall j hlt] at hD; cases hD
      · obtain rfl : j = 7 := by omega
        rw [h7] at hD; cases hD
    have hasz : a.tmps.size = a0.tmps.size := hU.size
    have hcases : j = 0 ∨ j = 1 ∨ j = 2 ∨ j = 3 ∨ j = 4 ∨ j = 5 ∨ j = 6 ∨ j = 7 := by omega
    rcases hcases with rfl | rfl | rfl | rfl | rfl | rfl | rfl | rfl
    all_goals
      obtain ⟨odst, oop, oty, opos, oaft, ogd⟩ := o
      simp only [key, SizeK, List.getElem?_cons_zero, List.getElem?_cons_succ, Option.some.injEq, Prod.mk.injEq] at hk
      obtain ⟨rfl, rfl, rfl⟩ := hk
    · -- the new row
      refine wpOp_of ho rfl (op_buildNone rfl ?_)
      refine .inl ⟨by rw [upd_ne _ (by decide)]; exact h7, hU.put (by omega) (by omega) _, ?_, ?_, ?_, ?_, hb.alloc hb.size _, ?_⟩
      · intro h; rw [upd_ne _ (by decide)] at h; rw [eval_put_ne (by decide)]; exact s1 h
      · intro h; rw [upd_ne _ (by decide)] at h; rw [eval_put_ne (by decide)]; exact s2 h
      · intro h; rw [upd_ne _ (by decide)] at h; rw [eval_put_ne (by decide)]; exact s4 h
      · intro h; rw [upd_ne _ (by decide)] at h; rw [eval_put_ne (by decide)]; exact s5 h
      · rcases hW with ⟨x1, x2, x3, x4⟩ | ⟨x1, _⟩ | ⟨x1, _⟩
        · refine .inl ⟨by rw [upd_ne _ (by decide)]; exact x1, by rw [upd_ne _ (by decide)]; exact x2, by rw [upd_ne _ (by decide)]; exact x3, fun _ => ⟨_, eval_put_same (by omega) _, ?_, by simp⟩⟩
          exact ⟨rfl, .inr ⟨w.heap.size, 0, #[], rfl, hb.size, heap_alloc_new w _, Nat.le_refl _, Nat.zero_le _, rfl, by simp⟩⟩
        · rw [x1] at hD; cases hD
        · rw [x1] at hD; cases hD
    · -- todo
      refine wpOp_of ho rfl (op_move rfl ((hU.eval (by omega)).trans h3) ?_)
      refine .inl ⟨by rw [upd_ne _ (by decide)]; exact h7, hU.put (by omega) (by omega) _, fun _ => eval_put_same (by omega) _, ?_, ?_, ?_, hb, hW.pure 1 19 _ (by decide) (by decide) (by decide) (by decide) (by decide) (by decide) (by decide)⟩
      · intro h; rw [upd_ne _ (by decide)] at h; rw [eval_put_ne (by decide)]; exact s2 h
      · intro h; rw [upd_ne _ (by decide)] at h; rw [eval_put_ne (by decide)]; exact s4 h
      · intro h; rw [upd_ne _ (by decide)] at h; rw [eval_put_ne (by decide)]; exact s5 h
    · -- todo[1:]
      have p1 : D 1 = true := hdp _ rfl 1 (by simp)
      refine wpOp_of ho rfl (op_tail rfl (s1 p1) (by omega) hcap ?_)
      intro p hp
      refine .inl ⟨by rw [upd_ne _ (by decide)]; exact h7, hU.put (by omega) (by omega) _, ?_, fun _ => ⟨p, hp, eval_put_same (by omega) _⟩, ?_, ?_, hb, hW.pure 2 20 _ (by decide) (by decide) (by decide) (by decide) (by decide) (by decide) (by decide)⟩
      · intro h; rw [upd_ne _ (by decide)] at h; rw [eval_put_ne (by decide)]; exact s1 h
      · intro h; rw [upd_ne _ (by decide)] at h; rw [eval_put_ne (by decide)]; exact s4 h
      · intro h; rw [upd_ne _ (by decide)] at h; rw [eval_put_ne (by decide)]; exact s5 h
    · -- the first append
      have p0 : D 0 = true := hdp _ rfl 0 (by simp)
      have p2 : D 2 = true := hdp _ rfl 2 (by simp)
      obtain ⟨p, hp, e20⟩ := s2 p2
      rcases hW with ⟨x1, x2, x3, x4⟩ | ⟨_, _, x1, _⟩ | ⟨_, _, x1, _⟩
      · obtain ⟨v, e18, hown, hv⟩ := x4 p0
        refine wpOp_of ho rfl (op_appendRow rfl e18 hown hv e20 hxs (hA p hp w hb) hx1 (by omega) hb.size ?_)
        intro v' w' hown' hv' hgr
        rw [Nat.zero_add, List.nil_append] at hown'
        refine .inl ⟨by rw [upd_ne _ (by decide)]; exact h7, hU.put (by omega) (by omega) _, ?_, ?_, ?_, ?_, hb.trans (below_grown hgr hb.size fun g hg => (hown.lt g hg).1), ?_⟩
        · intro h; rw [upd_ne _ (by decide)] at h; rw [eval_put_ne (by decide)]; exact s1 h
        · intro h; rw [upd_ne _ (by decide)] at h; rw [eval_put_ne (by decide)]; exact s2 h
        · intro h; rw [upd_ne _ (by decide)] at h; rw [eval_put_ne (by decide)]; exact s4 h
        · intro h; rw [upd_ne _ (by decide)] at h; rw [eval_put_ne (by decide)]; exact s5 h
        · exact .inr (.inl ⟨upd_mono p0, upd_mono p2, upd_same _ _, by rw [upd_ne _ (by decide)]; exact x2, by rw [upd_ne _ (by decide)]; exact x3, v', eval_put_same (by omega) _, hown', hv'⟩)
      · rw [x1] at hD; cases hD
      · rw [x1] at hD; cases hD
    · -- x.L's place
      refine wpOp_of ho rfl (op_valL rfl ((hU.eval (by omega)).trans h5) ?_)
      refine .inl ⟨by rw [upd_ne _ (by decide)]; exact h7, hU.put (by omega) (by omega) _, ?_, ?_, fun _ => eval_put_same (by omega) _, ?_, hb, hW.pure 4 22 _ (by decide) (by decide) (by decide) (by decide) (by decide) (by decide) (by decide)⟩
      · intro h; rw [upd_ne _ (by decide)] at h; rw [eval_put_ne (by decide)]; exact s1 h
      · intro h; rw [upd_ne _ (by decide)] at h; rw [eval_put_ne (by decide)]; exact s2 h
      · intro h; rw [upd_ne _ (by decide)] at h; rw [eval_put_ne (by decide)]; exact s5 h
    · -- x.L
      have p4 : D 4 = true := hdp _ rfl 4 (by simp)
      refine wpOp_of ho rfl (op_load1 rfl (s4 p4) (notAgg_slice w) ((hb.cell (p := ⟨b, 2, none⟩) hbl).trans hL) ?_)
      refine .inl ⟨by rw [upd_ne _ (by decide)]; exact h7, hU.put (by omega) (by omega) _, ?_, ?_, ?_, fun _ => eval_put_same (by omega) _, hb, hW.pure 5 23 _ (by decide) (by decide) (by decide) (by decide) (by decide) (by decide) (by decide)⟩
      · intro h; rw [upd_ne _ (by decide)] at h; rw [eval_put_ne (by decide)]; exact s1 h
      · intro h; rw [upd_ne _ (by decide)] at h; rw [eval_put_ne (by decide)]; exact s2 h
      · intro h; rw [upd_ne _ (by decide)] at h; rw [eval_put_ne (by decide)]; exact s4 h
    · -- the second append
      have p3 : D 3 = true := hdp _ rfl 3 (by simp)
      have p5 : D 5 = true := hdp _ rfl 5 (by simp)
      rcases hW with ⟨x1, _⟩ | ⟨y0, y2, y3, x2, x3, v, e21, hown, hv⟩ | ⟨_, _, _, _, x1, _⟩
      · rw [x1] at p3; cases p3
      · refine wpOp_of ho rfl (op_appendRow rfl e21 hown hv (s5 p5) hys (hB w hb) hy1 hbd hb.size ?_)
        intro v' w' hown' hv' hgr
        refine .inl ⟨by rw [upd_ne _ (by decide)]; exact h7, hU.put (by omega) (by omega) _, ?_, ?_, ?_, ?_, hb.trans (below_grown hgr hb.size fun g hg => (hown.lt g hg).1), ?_⟩
        · intro h; rw [upd_ne _ (by decide)] at h; rw [eval_put_ne (by decide)]; exact s1 h
        · intro h; rw [upd_ne _ (by decide)] at h; rw [eval_put_ne (by decide)]; exact s2 h
        · intro h; rw [upd_ne _ (by decide)] at h; rw [eval_put_ne (by decide)]; exact s4 h
        · intro h; rw [upd_ne _ (by decide)] at h; rw [eval_put_ne (by decide)]; exact s5 h
        · exact .inr (.inr ⟨upd_mono y0, upd_mono y2, upd_mono y3, upd_mono p5, upd_same _ _, by rw [upd_ne _ (by decide)]; exact x3, v', eval_put_same (by omega) _, hown', hv'⟩)
      · rw [x1] at hD; cases hD
    · -- the assignment
      have hall : ∀ j, j < 7 → D j = true := by
        intro j hj
        have hc : j = 0 ∨ j = 1 ∨ j = 2 ∨ j = 3 ∨ j = 4 ∨ j = 5 ∨ j = 6 := by omega
        rcases hc with rfl | rfl | rfl | rfl | rfl | rfl | rfl
        all_goals exact hdp _ rfl _ (by simp)
      rcases hW with ⟨_, x1, _⟩ | ⟨_, _, _, x1, _⟩ | ⟨_, _, _, _, _, _, v, e24, hown, hv⟩
      · rw [hall 6 (by omega)] at x1; cases x1
      · rw [hall 6 (by omega)] at x1; cases x1
      · refine wpOp_of ho rfl (op_assign rfl e24 ?_)
        refine .inr ⟨upd_same _ _, fun j hj => by rw [upd_ne _ (by omega)]; exact hall j hj, ?_⟩
        rcases hown.2 with ⟨rfl, h0⟩ | ⟨g', cap', cur, rfl, e2, e3, e4, _⟩
        · exact absurd rfl hv
        · exact ⟨a, g', cap', rfl, hU, e4, hown, hb⟩
  · rintro D a w hI hall
    have hN : ops.size = 8 := by rw [hsh.size]; rfl
    rcases hI with ⟨h7, _⟩ | ⟨_, _, a', g', cap', rfl, hU, hc, hown, hb⟩
    · rw [hall 7 (by omega)] at h7; cases h7
    · exact hQ a' g' cap' w hU hc hown hb
end Go.Proofs.YtkahboomahhdoaaDoor
