/-
 Walks over the reference of layer 4: Size (a queue of values), Same, Right.
-/
import Derived.Test.YtjldbbcdhdfliaaGreatDoorAppM
import Derived.Test.YtjldbbcdhdfliaaGreatDoorRefA
import Derived.Test.YtjldbbcdhdfliaaGreatDoorBText
import Derived.Deep.Upon
namespace Go.Proofs.YtjldbbcdhdfliaaGreatDoor
open Go.RowKit

/-- A row of values: its cells. -/
theorem IsV.cells {ok : Nat → Prop} {w : World} {t : VT} {v0 v1 v2 : Value} (h : IsV ok w t (.agg #[v0, v1, v2])) : v0.oneCell' = true ∧ v1.oneCell' = true ∧ v2.oneCell' = true := by
 obtain ⟨k, n, a, len, cap, he⟩ := h.form
 simp only [Value.agg.injEq, Array.mk.injEq, List.cons.injEq, and_true] at he
 obtain ⟨rfl, rfl, rfl⟩ := he
 exact ⟨rfl, rfl, rfl⟩
theorem IsR.kids {ok : Nat → Prop} {w : World} : ∀ {l : List VT} {a : Option Addr} {i : Nat}, IsR ok w l a i → ∃ xs : List Value, Kids ok w l xs ∧ (∀ u ∈ xs, u.oneCell' = true) ∧ ∀ j u, xs[j]? = some u → ∃ g o, a = some ⟨g, o, none⟩ ∧ ok g ∧ w.cell? ⟨g, o + i * 3 + j, none⟩ = some u
 | [], a, i, h => ⟨[], rfl, by simp, by simp⟩
 | t :: r, a, i, h => by
  rw [IsR] at h
  obtain ⟨⟨g, o, v0, v1, v2, h1, h2, h3, h4, h5, h6⟩, h7⟩ := h
  obtain ⟨xs, k1, k2, k3⟩ := IsR.kids h7
  have hc := h6.cells
  refine ⟨v0 :: v1 :: v2 :: xs, ⟨v0, v1, v2, xs, rfl, h6, k1⟩, ?_, ?_⟩
  ·intro u hu
   simp only [List.mem_cons] at hu
   rcases hu with rfl | rfl | rfl | hu
   ·exact hc.1
   ·exact hc.2.1
   ·exact hc.2.2
   ·exact k2 u hu
  ·intro j u hj
   match j, hj with
   | 0, hj => simp at hj; subst hj; exact ⟨g, o, h1, h2, h3⟩
   | 1, hj => simp at hj; subst hj; exact ⟨g, o, h1, h2, h4⟩
   | 2, hj => simp at hj; subst hj; exact ⟨g, o, h1, h2, h5⟩
   | j + 3, hj =>
    simp only [List.getElem?_cons_succ] at hj
    obtain ⟨g', o', e1, e2, e3⟩ := k3 j u hj
    refine ⟨g', o', e1, e2, ?_⟩
    rwa [show o' + i * 3 + (j + 3) = o' + (i + 1) * 3 + j from by omega]
theorem Kids.one {ok : Nat → Prop} {w : World} : ∀ {l : List VT} {xs : List Value}, Kids ok w l xs → ∀ u ∈ xs, u.oneCell' = true
 | [], xs, h => by rw [Kids] at h; subst h; simp
 | t :: r, xs, h => by
  obtain ⟨v0, v1, v2, ys, rfl, hv, hr⟩ := h
  have hc := hv.cells
  intro u hu
  simp only [List.mem_cons] at hu
  rcases hu with rfl | rfl | rfl | hu
  ·exact hc.1
  ·exact hc.2.1
  ·exact hc.2.2
  ·exact hr.one u hu
theorem Kids.append {ok : Nat → Prop} {w : World} {l' : List VT} {ys : List Value} (hy : Kids ok w l' ys) : ∀ {l : List VT} {xs : List Value}, Kids ok w l xs → Kids ok w (l ++ l') (xs ++ ys)
 | [], xs, h => by rw [Kids] at h; subst h; exact hy
 | t :: r, xs, h => by
  obtain ⟨v0, v1, v2, zs, rfl, hv, hr⟩ := h
  exact ⟨v0, v1, v2, zs ++ ys, rfl, hv, Kids.append hy hr⟩
theorem ndL_append : ∀ (l l' : List VT), ndL (l ++ l') = ndL l + ndL l'
 | [], l' => by rw [List.nil_append, ndL]; omega
 | t :: r, l' => by rw [List.cons_append, ndL, ndL, ndL_append r l']; omega
theorem len_ndL : ∀ (l : List VT), l.length ≤ ndL l
 | [] => Nat.zero_le _
 | t :: r => by
  have := len_ndL r
  rw [ndL, List.length_cons]
  have : 1 ≤ nd t := by cases t; rw [nd]; omega
  omega

section
variable {Q : Exit → Act → World → Prop} {K : Act → World → Prop} {a : Act} {w : World} {o : Oper}
theorem op_buildNone (h : o.op = .buildSlice 25 0 #[]) (hk : K (a.put o.dst (.slice (some ⟨w.heap.size, 0, none⟩) 0 0)) (w.alloc (.cells #[] 27))) : o.wp Tryz.prog a w K Q := by
 refine op_run (n := .value (.slice (some ⟨w.heap.size, 0, none⟩) 0 0)) (w' := w.alloc (.cells #[] 27)) ?_ hk
 unfold execOp
 simp only [h]
 simp [go_sem]
theorem op_tail {x : Operand} {g n c : Nat} (h : o.op = .slice 25 x (some (.const (.int .i64 1))) none none) (hx : a.eval x = .slice (some ⟨g, 0, none⟩) n c) (hn : 1 ≤ n) (hc : n ≤ c)
  (hk : ∀ p, (n ≠ 1 → p = ⟨g, 3, none⟩) → K (a.put o.dst (.slice (some p) (n - 1) (c - 1))) w) : o.wp Tryz.prog a w K Q := by
 have e1 : a.eval (.const (.int .i64 1)) = .int .i64 1 := rfl
 have h1n : (1 : Int) ≤ (n : Int) := by omega
 refine op_run (n := .value (.slice (some (if c = 1 then ⟨g, 0, none⟩ else ⟨g, 3, none⟩)) (n - 1) (c - 1))) (w' := w) ?_ (hk _ fun h => if_neg (by omega))
 generalize a.eval = ev at *
 unfold execOp
 simp only [h]
 simp [go_sem, hx, e1, h1n]
 split <;> rfl
theorem op_assign {x : Operand} {v : Value} (h : o.op = .assign x) (hx : a.eval x = v) (hk : K (a.put o.dst v) w) : o.wp Tryz.prog a w K Q := by
 subst hx
 unfold Oper.wp execOp
 simp only [h]
 exact hk
theorem run_append_none (w : World) (t ty e : TypeId) (i : TypeInfo) (ht : Tryz.prog.underlying t = some (.slice e)) (hi : Tryz.prog.info? e = some i) (base : Nat) (v : Value) (n c : Nat) (xs : List Value) (hown : w.ownsRow base e i.size v n xs) :
  (Builtin.append_ #[t, t] ty #[v, .slice none 0 c]).run Tryz.prog w = .ok v w := by
 rcases hown.2 with ⟨rfl, rfl⟩ | ⟨g, cap, cur, rfl, _, _, hnc, _⟩
 ·simp [Builtin.append_, run_underlying ht, sizeOf, typeInfo, hi, Builtin.lenOf, Builtin.firstCells]
 ·simp [Builtin.append_, run_underlying ht, sizeOf, typeInfo, hi, Builtin.lenOf, Builtin.firstCells, hnc, storeCells]
/-- The append of a row to one that is the call's own. -/
theorem op_appendRow {x y : Operand} {v : Value} {n m c lo : Nat} {xs news : List Value} {ao : Option Addr} (h : o.op = .call { callee := .builtin .append, args := #[x, y], argTypes := #[25, 25] })
  (hx : a.eval x = v) (hown : w.ownsRow lo 27 3 v n xs) (hv : v ≠ .slice none 0 0) (hy : a.eval y = .slice ao m c) (hl : news.length = m * 3) (hc : ∀ j u, news[j]? = some u → ∃ g o, ao = some ⟨g, o, none⟩ ∧ w.cell? ⟨g, o + j, none⟩ = some u) (h1 : ∀ u ∈ news, u.oneCell' = true)
  (hb : (n + m) * 40 ≤ 140737488355328) (hlo : lo ≤ w.heap.size)
  (hk : ∀ v' w', w'.ownsRow lo 27 3 v' (n + m) (xs ++ news) → v' ≠ .slice none 0 0 → w.grownBy w' v.ownBlock → K (a.put o.dst v') w') : o.wp Tryz.prog a w K Q := by
 obtain ⟨i0, hi0, hz0, hz1, hz2⟩ := info_parts val_info
 cases ao with
 | none =>
  have hm : m = 0 := by
   rcases Nat.eq_zero_or_pos m with h0 | h0
   ·exact h0
   ·obtain ⟨g, o, e, _⟩ := hc 0 (news[0]'(by omega)) (List.getElem?_eq_getElem _)
    cases e
  subst hm
  have hnil : news = [] := List.eq_nil_of_length_eq_zero (by omega)
  subst hnil
  have hrun := run_append_none w 25 o.type 27 i0 Tryz.underlying25 hi0 lo v n c xs (by rw [hz1]; exact hown)
  unfold Oper.wp execOp
  simp only [h, resolve, invoke, builtin, Sem.run_bind, Sem.run_pure, Result.andThen_ok, List.map_toArray, List.map_cons, List.map_nil, hx, hy, hrun]
  exact hk v w (by simpa using hown) hv ⟨rfl, rfl, rfl, Nat.le_refl _, fun _ _ _ => rfl⟩
 | some ad =>
  refine wp_append_own w x y 25 h lo 27 i0 _ 3 40 Tryz.underlying25 hi0 hz0 hz1 hz2 rfl (by decide) v n xs hx hown ad m c news hy hl ?_ h1 (by unfold maxLen; omega) hb hlo ?_
  ·intro j u hj
   obtain ⟨g, o, e, hcell⟩ := hc j u hj
   rw [Option.some.inj e]
   exact (congrArg w.cell? (by simp [Addr.add])).trans hcell
  ·intro v' w' h2 h3 h4
   exact hk v' w' h2 (fun e => hv (h4.1 e).1) h3
end

def SizeK : List Key := [(some 18, .buildSlice 25 0 #[], none),
  (some 19, .move (.tmp 3), none),
  (some 20, .slice 25 (.tmp 19) (some (.const (.int .i64 1))) none none, none),
  (some 21, .call { callee := .builtin .append, args := #[.tmp 18, .tmp 20], argTypes := #[25, 25] }, none),
  (some 22, .fieldAddr 27 (.tmp 5) 2, none),
  (some 23, .load 25 (.tmp 22), none),
  (some 24, .call { callee := .builtin .append, args := #[.tmp 21, .tmp 23], argTypes := #[25, 25] }, none),
  (some 3, .assign (.tmp 24), none)]
def SizeE : List (List Nat) := [[], [], [1], [0, 2], [], [4], [3, 5, 3], [6, 6, 0, 1, 2, 3, 4, 5, 6]]
theorem size_shape : Shape (ropsOf Tryz.f43 5) SizeK SizeE := ⟨by kernel_rfl, by kernel_rfl⟩

/-- Where the world stands in the region. -/
def SizeW (lo : Nat) (n1 n2 : Nat) (xs ys : List Value) (D : Nat → Bool) (a : Act) (w : World) : Prop :=
 (D 3 = false ∧ D 6 = false ∧ D 7 = false ∧ (D 0 = true → ∃ v, a.eval (.tmp 18) = v ∧ w.ownsRow lo 27 3 v 0 [] ∧ v ≠ .slice none 0 0)) ∨
 (D 0 = true ∧ D 2 = true ∧ D 3 = true ∧ D 6 = false ∧ D 7 = false ∧ ∃ v, a.eval (.tmp 21) = v ∧ w.ownsRow lo 27 3 v n1 xs ∧ v ≠ .slice none 0 0) ∨
 (D 0 = true ∧ D 2 = true ∧ D 3 = true ∧ D 5 = true ∧ D 6 = true ∧ D 7 = false ∧ ∃ v, a.eval (.tmp 24) = v ∧ w.ownsRow lo 27 3 v (n1 + n2) (xs ++ ys) ∧ v ≠ .slice none 0 0)
theorem SizeW.pure {lo n1 n2 : Nat} {xs ys : List Value} {D : Nat → Bool} {a : Act} {w : World} (h : SizeW lo n1 n2 xs ys D a w) (j t : Nat) (u : Value)
  (h0 : j ≠ 0) (h3 : j ≠ 3) (h6 : j ≠ 6) (h7 : j ≠ 7) (t1 : 18 ≠ t) (t2 : 21 ≠ t) (t3 : 24 ≠ t) : SizeW lo n1 n2 xs ys (upd D j) (a.put (some t) u) w := by
 unfold SizeW at h ⊢
 simp only [upd_ne D (Ne.symm h0), upd_ne D (Ne.symm h3), upd_ne D (Ne.symm h6), upd_ne D (Ne.symm h7), eval_put_ne t1, eval_put_ne t2, eval_put_ne t3]
 rcases h with h | ⟨x1, x2, h⟩ | ⟨x1, x2, x3, x4, h⟩
 ·exact .inl h
 ·exact .inr (.inl ⟨x1, upd_mono x2, h⟩)
 ·exact .inr (.inr ⟨x1, upd_mono x2, x3, upd_mono x4, h⟩)
theorem below_grown {B : Nat} {w w' : World} {row : Option Nat} (h : w.grownBy w' row) (hB : B ≤ w.heap.size) (hr : ∀ g, row = some g → B ≤ g) : Below B w w' :=
 ⟨h.os, h.tape, h.output, h.size, fun k hk => h.block k (by omega) (fun e => by have := hr k e.symm; omega)⟩

set_option maxRecDepth 100000 in
set_option maxHeartbeats 1000000 in
/-- The statement 'todo = append(append([]Val{}, todo[1:]...), x.L...)', in whatever order. -/
theorem Size_region {id g cap n b cap2 : Nat} {ao : Option Addr} {xs ys : List Value} {n2 : Nat} {ops : Array Oper} {Q : Exit → Act → World → Prop} {a0 : Act} {w0 : World}
  (hsh : Shape ops SizeK SizeE) (hsz : 25 ≤ a0.tmps.size) (h3 : a0.eval (.tmp 3) = .slice (some ⟨g, 0, none⟩) (n + 1) cap) (hcap : n + 1 ≤ cap) (h5 : a0.eval (.tmp 5) = .pointer (some ⟨b, 0, none⟩))
  (hL : w0.cell? ⟨b, 2, none⟩ = some (.slice ao n2 cap2)) (hbl : b < w0.heap.size)
  (hxs : xs.length = n * 3) (hxc : ∀ j u, xs[j]? = some u → g < w0.heap.size ∧ w0.cell? ⟨g, 3 + j, none⟩ = some u) (hx1 : ∀ u ∈ xs, u.oneCell' = true)
  (hys : ys.length = n2 * 3) (hyc : ∀ j u, ys[j]? = some u → ∃ g o, ao = some ⟨g, o, none⟩ ∧ g < w0.heap.size ∧ w0.cell? ⟨g, o + j, none⟩ = some u) (hy1 : ∀ u ∈ ys, u.oneCell' = true)
  (hbd : (n + n2) * 40 ≤ 140737488355328)
  (hQ : ∀ a g' cap' w, Upd a0 a 18 7 → n + n2 ≤ cap' → w.ownsRow w0.heap.size 27 3 (.slice (some ⟨g', 0, none⟩) (n + n2) cap') (n + n2) (xs ++ ys) → Below w0.heap.size w0 w → Q .normal (a.put (some 3) (.slice (some ⟨g', 0, none⟩) (n + n2) cap')) w) :
  (Code.region id ops true).wp Tryz.prog Q a0 w0 := by
 have hA : ∀ p : Addr, (n + 1 ≠ 1 → p = ⟨g, 3, none⟩) → ∀ w, Below w0.heap.size w0 w → ∀ j u, xs[j]? = some u → ∃ g o, some p = some ⟨g, o, none⟩ ∧ w.cell? ⟨g, o + j, none⟩ = some u := by
  intro p hp w hb j u hj
  obtain ⟨q1, q2⟩ := hxc j u hj
  have hjl := (List.getElem?_eq_some_iff.1 hj).1
  exact ⟨g, 3, by rw [hp (by omega)], (hb.cell (p := ⟨g, 3 + j, none⟩) q1).trans q2⟩
 have hB : ∀ w, Below w0.heap.size w0 w → ∀ j u, ys[j]? = some u → ∃ g o, ao = some ⟨g, o, none⟩ ∧ w.cell? ⟨g, o + j, none⟩ = some u := by
  intro w hb j u hj
  obtain ⟨g', o', q1, q2, q3⟩ := hyc j u hj
  exact ⟨g', o', q1, (hb.cell (p := ⟨g', o' + j, none⟩) q2).trans q3⟩
 refine wp_region_inv (by kernel_rfl) (hsh.edged (by decide)) (fun D a w =>
  (D 7 = false ∧ Upd a0 a 18 7 ∧ (D 1 = true → a.eval (.tmp 19) = .slice (some ⟨g, 0, none⟩) (n + 1) cap) ∧ (D 2 = true → ∃ p, (n + 1 ≠ 1 → p = ⟨g, 3, none⟩) ∧ a.eval (.tmp 20) = .slice (some p) n (cap - 1)) ∧
   (D 4 = true → a.eval (.tmp 22) = .pointer (some ⟨b, 2, none⟩)) ∧ (D 5 = true → a.eval (.tmp 23) = .slice ao n2 cap2) ∧ Below w0.heap.size w0 w ∧ SizeW w0.heap.size n n2 xs ys D a w) ∨
  (D 7 = true ∧ (∀ j, j < 7 → D j = true) ∧ ∃ a' g' cap', a = a'.put (some 3) (.slice (some ⟨g', 0, none⟩) (n + n2) cap') ∧ Upd a0 a' 18 7 ∧ n + n2 ≤ cap' ∧ w.ownsRow w0.heap.size 27 3 (.slice (some ⟨g', 0, none⟩) (n + n2) cap') (n + n2) (xs ++ ys) ∧ Below w0.heap.size w0 w)) ?_ ?_ ?_
 ·exact .inl ⟨rfl, Upd.refl _ _ _, fun h => by simp at h, fun h => by simp at h, fun h => by simp at h, fun h => by simp at h, (Below.refl _ _).drew, .inl ⟨rfl, rfl, rfl, fun h => by simp at h⟩⟩
 ·rintro D a w j o hI ho hD hdep
  have hk := hsh.key_at ho
  have hj : j < 8 := by
   rcases Nat.lt_or_ge j 8 with hlt | hge
   ·exact hlt
   ·rw [List.getElem?_eq_none (by simpa [SizeK] using hge)] at hk; cases hk
  have hdp := fun es => hsh.dep_at ho hdep (es := es)
  clear hdep
  rcases hI with ⟨h7, hU, s1, s2, s4, s5, hb, hW⟩ | ⟨h7, hall, _⟩
  rotate_left
  ·rcases Nat.lt_or_ge j 7 with hlt | hge
   ·rw [hall j hlt] at hD; cases hD
   ·obtain rfl : j = 7 := by omega
    rw [h7] at hD; cases hD
  have hasz : a.tmps.size = a0.tmps.size := hU.size
  have hcases : j = 0 ∨ j = 1 ∨ j = 2 ∨ j = 3 ∨ j = 4 ∨ j = 5 ∨ j = 6 ∨ j = 7 := by omega
  rcases hcases with rfl | rfl | rfl | rfl | rfl | rfl | rfl | rfl
  all_goals
   obtain ⟨odst, oop, oty, opos, oaft, ogd⟩ := o
   simp only [key, SizeK, List.getElem?_cons_zero, List.getElem?_cons_succ, Option.some.injEq, Prod.mk.injEq] at hk
   obtain ⟨rfl, rfl, rfl⟩ := hk
  ·
   refine wpOp_of ho rfl (op_buildNone rfl ?_)
   refine .inl ⟨by rw [upd_ne _ (by decide)]; exact h7, hU.put (by omega) (by omega) _, ?_, ?_, ?_, ?_, hb.alloc hb.size _, ?_⟩
   ·intro h; rw [upd_ne _ (by decide)] at h; rw [eval_put_ne (by decide)]; exact s1 h
   ·intro h; rw [upd_ne _ (by decide)] at h; rw [eval_put_ne (by decide)]; exact s2 h
   ·intro h; rw [upd_ne _ (by decide)] at h; rw [eval_put_ne (by decide)]; exact s4 h
   ·intro h; rw [upd_ne _ (by decide)] at h; rw [eval_put_ne (by decide)]; exact s5 h
   ·rcases hW with ⟨x1, x2, x3, x4⟩ | ⟨x1, _⟩ | ⟨x1, _⟩
    ·refine .inl ⟨by rw [upd_ne _ (by decide)]; exact x1, by rw [upd_ne _ (by decide)]; exact x2, by rw [upd_ne _ (by decide)]; exact x3, fun _ => ⟨_, eval_put_same (by omega) _, ?_, by simp⟩⟩
     exact ⟨rfl, .inr ⟨w.heap.size, 0, #[], rfl, hb.size, heap_alloc_new w _, Nat.le_refl _, Nat.zero_le _, rfl, by simp⟩⟩
    ·rw [x1] at hD; cases hD
    ·rw [x1] at hD; cases hD
  ·
   refine wpOp_of ho rfl (op_move rfl ((hU.eval (by omega)).trans h3) ?_)
   refine .inl ⟨by rw [upd_ne _ (by decide)]; exact h7, hU.put (by omega) (by omega) _, fun _ => eval_put_same (by omega) _, ?_, ?_, ?_, hb, hW.pure 1 19 _ (by decide) (by decide) (by decide) (by decide) (by decide) (by decide) (by decide)⟩
   ·intro h; rw [upd_ne _ (by decide)] at h; rw [eval_put_ne (by decide)]; exact s2 h
   ·intro h; rw [upd_ne _ (by decide)] at h; rw [eval_put_ne (by decide)]; exact s4 h
   ·intro h; rw [upd_ne _ (by decide)] at h; rw [eval_put_ne (by decide)]; exact s5 h
  ·
   have p1 : D 1 = true := hdp _ rfl 1 (by simp)
   refine wpOp_of ho rfl (op_tail rfl (s1 p1) (by omega) hcap ?_)
   intro p hp
   refine .inl ⟨by rw [upd_ne _ (by decide)]; exact h7, hU.put (by omega) (by omega) _, ?_, fun _ => ⟨p, hp, eval_put_same (by omega) _⟩, ?_, ?_, hb, hW.pure 2 20 _ (by decide) (by decide) (by decide) (by decide) (by decide) (by decide) (by decide)⟩
   ·intro h; rw [upd_ne _ (by decide)] at h; rw [eval_put_ne (by decide)]; exact s1 h
   ·intro h; rw [upd_ne _ (by decide)] at h; rw [eval_put_ne (by decide)]; exact s4 h
   ·intro h; rw [upd_ne _ (by decide)] at h; rw [eval_put_ne (by decide)]; exact s5 h
  ·
   have p0 : D 0 = true := hdp _ rfl 0 (by simp)
   have p2 : D 2 = true := hdp _ rfl 2 (by simp)
   obtain ⟨p, hp, e20⟩ := s2 p2
   rcases hW with ⟨x1, x2, x3, x4⟩ | ⟨_, _, x1, _⟩ | ⟨_, _, x1, _⟩
   ·obtain ⟨v, e18, hown, hv⟩ := x4 p0
    refine wpOp_of ho rfl (op_appendRow rfl e18 hown hv e20 hxs (hA p hp w hb) hx1 (by omega) hb.size ?_)
    intro v' w' hown' hv' hgr
    rw [Nat.zero_add, List.nil_append] at hown'
    refine .inl ⟨by rw [upd_ne _ (by decide)]; exact h7, hU.put (by omega) (by omega) _, ?_, ?_, ?_, ?_, hb.trans (below_grown hgr hb.size fun g hg => (hown.lt g hg).1), ?_⟩
    ·intro h; rw [upd_ne _ (by decide)] at h; rw [eval_put_ne (by decide)]; exact s1 h
    ·intro h; rw [upd_ne _ (by decide)] at h; rw [eval_put_ne (by decide)]; exact s2 h
    ·intro h; rw [upd_ne _ (by decide)] at h; rw [eval_put_ne (by decide)]; exact s4 h
    ·intro h; rw [upd_ne _ (by decide)] at h; rw [eval_put_ne (by decide)]; exact s5 h
    ·exact .inr (.inl ⟨upd_mono p0, upd_mono p2, upd_same _ _, by rw [upd_ne _ (by decide)]; exact x2, by rw [upd_ne _ (by decide)]; exact x3, v', eval_put_same (by omega) _, hown', hv'⟩)
   ·rw [x1] at hD; cases hD
   ·rw [x1] at hD; cases hD
  ·
   refine wpOp_of ho rfl (op_valL rfl ((hU.eval (by omega)).trans h5) ?_)
   refine .inl ⟨by rw [upd_ne _ (by decide)]; exact h7, hU.put (by omega) (by omega) _, ?_, ?_, fun _ => eval_put_same (by omega) _, ?_, hb, hW.pure 4 22 _ (by decide) (by decide) (by decide) (by decide) (by decide) (by decide) (by decide)⟩
   ·intro h; rw [upd_ne _ (by decide)] at h; rw [eval_put_ne (by decide)]; exact s1 h
   ·intro h; rw [upd_ne _ (by decide)] at h; rw [eval_put_ne (by decide)]; exact s2 h
   ·intro h; rw [upd_ne _ (by decide)] at h; rw [eval_put_ne (by decide)]; exact s5 h
  ·
   have p4 : D 4 = true := hdp _ rfl 4 (by simp)
   refine wpOp_of ho rfl (op_load1 rfl (s4 p4) (notAgg_slice w) ((hb.cell (p := ⟨b, 2, none⟩) hbl).trans hL) ?_)
   refine .inl ⟨by rw [upd_ne _ (by decide)]; exact h7, hU.put (by omega) (by omega) _, ?_, ?_, ?_, fun _ => eval_put_same (by omega) _, hb, hW.pure 5 23 _ (by decide) (by decide) (by decide) (by decide) (by decide) (by decide) (by decide)⟩
   ·intro h; rw [upd_ne _ (by decide)] at h; rw [eval_put_ne (by decide)]; exact s1 h
   ·intro h; rw [upd_ne _ (by decide)] at h; rw [eval_put_ne (by decide)]; exact s2 h
   ·intro h; rw [upd_ne _ (by decide)] at h; rw [eval_put_ne (by decide)]; exact s4 h
  ·
   have p3 : D 3 = true := hdp _ rfl 3 (by simp)
   have p5 : D 5 = true := hdp _ rfl 5 (by simp)
   rcases hW with ⟨x1, _⟩ | ⟨y0, y2, y3, x2, x3, v, e21, hown, hv⟩ | ⟨_, _, _, _, x1, _⟩
   ·rw [x1] at p3; cases p3
   ·refine wpOp_of ho rfl (op_appendRow rfl e21 hown hv (s5 p5) hys (hB w hb) hy1 hbd hb.size ?_)
    intro v' w' hown' hv' hgr
    refine .inl ⟨by rw [upd_ne _ (by decide)]; exact h7, hU.put (by omega) (by omega) _, ?_, ?_, ?_, ?_, hb.trans (below_grown hgr hb.size fun g hg => (hown.lt g hg).1), ?_⟩
    ·intro h; rw [upd_ne _ (by decide)] at h; rw [eval_put_ne (by decide)]; exact s1 h
    ·intro h; rw [upd_ne _ (by decide)] at h; rw [eval_put_ne (by decide)]; exact s2 h
    ·intro h; rw [upd_ne _ (by decide)] at h; rw [eval_put_ne (by decide)]; exact s4 h
    ·intro h; rw [upd_ne _ (by decide)] at h; rw [eval_put_ne (by decide)]; exact s5 h
    ·exact .inr (.inr ⟨upd_mono y0, upd_mono y2, upd_mono y3, upd_mono p5, upd_same _ _, by rw [upd_ne _ (by decide)]; exact x3, v', eval_put_same (by omega) _, hown', hv'⟩)
   ·rw [x1] at hD; cases hD
  ·
   have hall : ∀ j, j < 7 → D j = true := by
    intro j hj
    have hc : j = 0 ∨ j = 1 ∨ j = 2 ∨ j = 3 ∨ j = 4 ∨ j = 5 ∨ j = 6 := by omega
    rcases hc with rfl | rfl | rfl | rfl | rfl | rfl | rfl
    all_goals exact hdp _ rfl _ (by simp)
   rcases hW with ⟨_, x1, _⟩ | ⟨_, _, _, x1, _⟩ | ⟨_, _, _, _, _, _, v, e24, hown, hv⟩
   ·rw [hall 6 (by omega)] at x1; cases x1
   ·rw [hall 6 (by omega)] at x1; cases x1
   ·refine wpOp_of ho rfl (op_assign rfl e24 ?_)
    refine .inr ⟨upd_same _ _, fun j hj => by rw [upd_ne _ (by omega)]; exact hall j hj, ?_⟩
    rcases hown.2 with ⟨rfl, h0⟩ | ⟨g', cap', cur, rfl, e2, e3, e4, _⟩
    ·exact absurd rfl hv
    ·exact ⟨a, g', cap', rfl, hU, e4, hown, hb⟩
 ·rintro D a w hI hall
  have hN : ops.size = 8 := by rw [hsh.size]; rfl
  rcases hI with ⟨h7, _⟩ | ⟨_, _, a', g', cap', rfl, hU, hc, hown, hb⟩
  ·rw [hall 7 (by omega)] at h7; cases h7
  ·exact hQ a' g' cap' w hU hc hown hb
end Go.Proofs.YtjldbbcdhdfliaaGreatDoor
/-
 Walks over the reference of layer 4: Size, Same, Right.
-/
namespace Go.Proofs.YtjldbbcdhdfliaaGreatDoor
open Go.RowKit

theorem list7 {us : List Value} (h : us.length = 7) : ∃ u0 u1 u2 u3 u4 u5 u6, us = [u0, u1, u2, u3, u4, u5, u6] := by
 match us, h with
 | [u0, u1, u2, u3, u4, u5, u6], _ => exact ⟨u0, u1, u2, u3, u4, u5, u6, rfl⟩
theorem cnt_end {t : VT} {n : Nat} {todo : List VT} (h : n + ndL todo = nd t) (hn : n ≤ 257) (he : todo = [] ∨ n = 257) : cnt t 0 = n := by
 rw [cnt_nd t 0 (by omega)]
 rcases he with rfl | rfl
 ·rw [ndL] at h; omega
 ·omega

set_option maxRecDepth 100000 in
set_option maxHeartbeats 1000000 in
theorem rSize_any (t : VT) (v : Value) (w : World) (hv : IsV (· < w.heap.size) w t v) (hnd : nd t ≤ 2000000) :
  Calls Tryz.prog 43 #[v] w fun e w' => e = .returned (.int .i64 (cnt t 0 : Nat)) ∧ Below w.heap.size w w' := by
 obtain ⟨k, n, a, len, cap, rfl⟩ := hv.form
 go_enter Tryz.func43, Tryz.ntmps43
 go_wp2_with fail
 go_loopw [3, 4, 5] (fun td cn _ wr => ∃ (todo : List VT) (xs : List Value) (g c nn : Nat), td = .slice (some ⟨g, 0, none⟩) todo.length c ∧ todo.length ≤ c ∧ w.heap.size ≤ g ∧ Kids (· < w.heap.size) w todo xs ∧ (∀ j u, xs[j]? = some u → g < wr.heap.size ∧ wr.cell? ⟨g, j, none⟩ = some u) ∧ cn = .int .i64 nn ∧ nn ≤ 257 ∧ nn + ndL todo = nd t ∧ Below w.heap.size w wr) (fun _ cn _ _ => 257 - (intOf cn).toNat)
 case atStart =>
  have hkid : Kids (· < w.heap.size) w [t] [.int .i64 k, .int .i64 n, .slice a len cap] := ⟨_, _, _, [], rfl, hv, rfl⟩
  refine ⟨[t], [.int .i64 k, .int .i64 n, .slice a len cap], w.heap.size + 1, 1, 0, rfl, Nat.le_refl _, by omega, hkid, ?_, rfl, by omega, by rw [ndL, ndL]; omega, (below_alloc _ _).trans ((below_alloc _ _).mono (by simp))⟩
  intro j u hj
  refine ⟨by simp, ?_⟩
  match j, hj with
  | 0, hj => simp at hj; subst hj; simp [go_sem]
  | 1, hj => simp at hj; subst hj; simp [go_sem]
  | 2, hj => simp at hj; subst hj; simp [go_sem]
 case round =>
  obtain ⟨todo, xs, g, c, nn, rfl, hc, hg, hkid, hcell, rfl, hnn, hsum, hb⟩ := hrel
  have HS := Lib.hid hsum
  have hlen := len_ndL todo
  have hsz := hb.size
  by_cases h0 : todo = []
  ·have HE := Lib.hid (cnt_end hsum hnn (.inl h0))
   subst h0
   go_wp2_with fail
   go_ret
   exact ⟨ret_int (by rw [HE.out]), hb⟩
  ·obtain ⟨x, rest, rfl⟩ := List.exists_cons_of_ne_nil h0
   rw [List.length_cons] at hc hlen ⊢
   by_cases h257 : nn = 257
   ·have HE := Lib.hid (cnt_end hsum hnn (.inr h257))
    subst h257
    go_wp2_with fail
    go_ret
    exact ⟨ret_int (by rw [HE.out]), hb⟩
   ·obtain ⟨v0, v1, v2, ys, rfl, hx, hrest⟩ := hkid
    obtain ⟨k1, n1, a1, l1, c1, he⟩ := hx.form
    simp only [Value.agg.injEq, Array.mk.injEq, List.cons.injEq, and_true] at he
    obtain ⟨rfl, rfl, rfl⟩ := he
    obtain ⟨kk, nk, ll⟩ := x
    have hx2 := hx
    rw [IsV] at hx2
    obtain ⟨a2, c2, he, hkr, hnr, hl2, hc2, hrow⟩ := hx2
    simp only [Value.agg.injEq, Array.mk.injEq, List.cons.injEq, and_true, Value.int.injEq, true_and, Value.slice.injEq] at he
    obtain ⟨rfl, rfl, rfl, rfl, rfl⟩ := he
    have d0 := (hcell 0 _ rfl).2
    have d1 := (hcell 1 _ rfl).2
    have d2 := (hcell 2 _ rfl).2
    have hglt := (hcell 0 _ rfl).1
    have hcell2 : ∀ j u, ys[j]? = some u → g < wr.heap.size ∧ wr.cell? ⟨g, 3 + j, none⟩ = some u := fun j u hj => by
     have := hcell (j + 3) u (by simpa using hj)
     rwa [show j + 3 = 3 + j from by omega] at this
    have HC2 := Lib.hid hcell2
    clear hcell hcell2
    have hylen := hrest.len
    have hyone := hrest.one
    obtain ⟨zs, hz1, hz2, hz3⟩ := hrow.kids
    have hzlen := hz1.len
    have HZ3 := Lib.hid hz3
    clear hz3
    have hkid2 : Kids (· < w.heap.size) w (rest ++ ll) (ys ++ zs) := Kids.append hz1 hrest
    have hsum2 : nn + 1 + ndL (rest ++ ll) = nd t := by
     have := HS.out
     rw [ndL, nd] at this
     rw [ndL_append]
     omega
    have hlen2 := len_ndL (rest ++ ll)
    rw [List.length_append] at hlen2
    go_wp2_with fail
    have hbx := Bx.new wr 27 (.int .i64 k1) (.int .i64 n1) (.slice a1 ll.length c1)
    have hb2 := hb.trans ((below_alloc wr (.cells #[.int .i64 k1, .int .i64 n1, .slice a1 ll.length c1] 27)).mono hsz)
    have hba := below_alloc wr (.cells #[.int .i64 k1, .int .i64 n1, .slice a1 ll.length c1] 27)
    have hsz2 := hba.size
    refine Size_region (g := g) (cap := c) (n := rest.length) (b := wr.heap.size) (cap2 := c1) (ao := a1) (xs := ys) (ys := zs) (n2 := ll.length) size_shape (by simp) rfl hc rfl hbx.c2 hbx.lt hylen ?_ hyone hzlen ?_ hz2 (by omega) ?_
    ·intro j u hj
     obtain ⟨q1, q2⟩ := HC2.out j u hj
     exact ⟨by omega, (hba.cell (p := ⟨g, 3 + j, none⟩) q1).trans q2⟩
    ·intro j u hj
     obtain ⟨g', o', q1, q2, q3⟩ := HZ3.out j u hj
     rw [show o' + 0 * 3 + j = o' + j from by omega] at q3
     have h3 := hb2.size
     exact ⟨g', o', q1, by omega, (hb2.cell (p := ⟨g', o' + j, none⟩) q2).trans q3⟩
    ·intro a3 g3 cap3 w3 hU hcap3 hown3 hb3
     obtain ⟨us, hus, rfl⟩ := hU.list (by simp)
     obtain ⟨x0, x1, x2, x3, x4, x5, x6, rfl⟩ := list7 hus
     simp only [List.take_succ_cons, List.take_zero, List.drop_succ_cons, List.drop_zero, List.cons_append, List.nil_append]
     have hbf := hb2.trans (hb3.mono hb2.size)
     have hg3 := hown3.lt g3 rfl
     clear hus hU d0 d1 d2
     go_wp2_with fail
     go_roundw
     case rel =>
      refine ⟨rest ++ ll, ys ++ zs, g3, cap3, nn + 1, by rw [List.length_append], by rw [List.length_append]; exact hcap3, by have := hb2.size; omega, hkid2, ?_, by go_num, by omega, hsum2, hbf⟩
      intro j u hj
      refine ⟨hg3.2, ?_⟩
      have hjl := (List.getElem?_eq_some_iff.1 hj).1
      rw [hown3.cellAt j (by rw [List.length_append] at hjl; omega)]
      exact hj
     case measure => simp [intOf]; omega

set_option maxHeartbeats 1000000 in
theorem rSame_any (t t' : VT) (v v' : Value) (w : World) (hv : IsV (· < w.heap.size) w t v) (hv' : IsV (· < w.heap.size) w t' v') (hnd : nd t ≤ 2000000) (hnd' : nd t' ≤ 2000000) :
  Calls Tryz.prog 42 #[v, v'] w fun e w' => e = .returned (.bool (small t && small t' && eqT t t')) ∧ Below w.heap.size w w' := by
 obtain ⟨k, n, a, len, cap, rfl⟩ := hv.form
 obtain ⟨k', n', a', len', cap', rfl⟩ := hv'.form
 have hb0 : ∀ o1 o2, Below w.heap.size w ((w.alloc o1).alloc o2) := fun o1 o2 => (below_alloc _ _).trans ((below_alloc _ _).mono (by simp))
 have HB := Lib.hid hb0
 clear hb0
 obtain ⟨m1, hm1⟩ : ∃ m, cnt t 0 = m := ⟨_, rfl⟩
 obtain ⟨m2, hm2⟩ : ∃ m, cnt t' 0 = m := ⟨_, rfl⟩
 have hs1 : small t = decide (m1 ≤ 256) := by rw [← hm1]; rfl
 have hs2 : small t' = decide (m2 ≤ 256) := by rw [← hm2]; rfl
 rw [hs1, hs2]
 have hr1 := cnt_le t 0 (by omega)
 have hr2 := cnt_le t' 0 (by omega)
 rw [hm1] at hr1
 rw [hm2] at hr2
 have H1 := Lib.hid hm1
 have H2 := Lib.hid hm2
 clear hs1 hs2 hm1 hm2
 go_enter Tryz.func42, Tryz.ntmps42
 go_wp2_with fail
 refine (rSize_any t _ _ (hv.later (HB.out _ _)) hnd).mono ?_
 rintro e w1 ⟨rfl, hb1⟩
 rw [H1.out]
 obtain ⟨hc, hf⟩ := bcell hb1
 have c0 := (hc w.heap.size 0 (by simp; omega)).trans (by simp [go_sem] : _ = some (Value.int .i64 k))
 have c1 := (hc w.heap.size 1 (by simp; omega)).trans (by simp [go_sem] : _ = some (Value.int .i64 n))
 have c2 := (hc w.heap.size 2 (by simp; omega)).trans (by simp [go_sem] : _ = some (Value.slice a len cap))
 have d0 := (hc (w.heap.size + 1) 0 (by simp)).trans (by simp [go_sem] : _ = some (Value.int .i64 k'))
 have d1 := (hc (w.heap.size + 1) 1 (by simp)).trans (by simp [go_sem] : _ = some (Value.int .i64 n'))
 have d2 := (hc (w.heap.size + 1) 2 (by simp)).trans (by simp [go_sem] : _ = some (Value.slice a' len' cap'))
 have hbw : Below w.heap.size w w1 := (HB.out _ _).trans (hb1.mono (by simp; omega))
 have hsz : w.heap.size + 2 ≤ w1.heap.size := by have := hb1.size; simpa using this
 clear hc hf hb1
 rcases Nat.lt_or_ge 256 m1 with h256 | h256
 ·go_wp2_with fail
  go_ret
  exact ⟨ret_bool (by simp; omega), hbw⟩
 ·have hd : decide ((m1 : Int) ≤ 256) = true := by simp; omega
  go_wp2_with fail
  refine (rSize_any t' _ _ (hv'.later hbw) hnd').mono ?_
  rintro e w2 ⟨rfl, hb2⟩
  rw [H2.out]
  obtain ⟨hc, hf⟩ := bcell hb2
  have c0 := (hc w.heap.size 0 (by omega)).trans c0
  have c1 := (hc w.heap.size 1 (by omega)).trans c1
  have c2 := (hc w.heap.size 2 (by omega)).trans c2
  have d0 := (hc (w.heap.size + 1) 0 (by omega)).trans d0
  have d1 := (hc (w.heap.size + 1) 1 (by omega)).trans d1
  have d2 := (hc (w.heap.size + 1) 2 (by omega)).trans d2
  have hbw2 : Below w.heap.size w w2 := hbw.trans (hb2.mono hbw.size)
  clear hc hf hb2
  rcases Nat.lt_or_ge 256 m2 with h256' | h256'
  ·go_wp2_with fail
   go_ret
   exact ⟨ret_bool (by simp; omega), hbw2⟩
  ·have hd' : decide ((m2 : Int) ≤ 256) = true := by simp; omega
   go_wp2_with fail
   refine (rsame_any _ t t' _ _ _ (Nat.le_refl _) (hv.later hbw2) (hv'.later hbw2)).mono ?_
   rintro e w3 ⟨rfl, hb3⟩
   go_wp2_with fail
   go_ret
   exact ⟨ret_bool (by simp; omega), hbw2.trans (hb3.mono hbw2.size)⟩

set_option maxHeartbeats 1000000 in
theorem rRight_any (t : VT) (v : Value) (w : World) (hv : IsV (· < w.heap.size) w t v) (hnd : nd t ≤ 2000000) :
  Calls Tryz.prog 82 #[v] w fun e w' => e = .returned (.bool (right t)) ∧ Below w.heap.size w w' := by
 obtain ⟨k, n, a, len, cap, rfl⟩ := hv.form
 obtain ⟨m1, hm1⟩ : ∃ m, cnt t 0 = m := ⟨_, rfl⟩
 have hr1 := cnt_le t 0 (by omega)
 rw [hm1] at hr1
 have hs : right t = (decide (m1 ≤ 256) && shps t) := by rw [← hm1]; rfl
 rw [hs]
 have H1 := Lib.hid hm1
 clear hs hm1
 go_enter Tryz.func82, Tryz.ntmps82
 go_wp2_with fail
 refine (rSize_any t _ _ (hv.later (below_alloc _ _)) hnd).mono ?_
 rintro e w1 ⟨rfl, hb1⟩
 rw [H1.out]
 have hbx := (Bx.new w 27 (.int .i64 k) (.int .i64 n) (.slice a len cap)).belowAll hb1
 have c0 := hbx.c0
 have c1 := hbx.c1
 have c2 := hbx.c2
 have hbw : Below w.heap.size w w1 := (below_alloc _ _).trans (hb1.mono (by simp))
 clear hb1
 rcases Nat.lt_or_ge 256 m1 with h256 | h256
 ·go_wp2_with fail
  go_ret
  exact ⟨ret_bool (by simp; omega), hbw⟩
 ·have hd : decide ((m1 : Int) ≤ 256) = true := by simp; omega
  go_wp2_with fail
  refine (rshapes_any _ t _ _ (Nat.le_refl _) (hv.later hbw)).mono ?_
  rintro e w2 ⟨rfl, hb2⟩
  go_wp2_with fail
  go_ret
  exact ⟨ret_bool (by simp; omega), hbw.trans (hb2.mono hbw.size)⟩
end Go.Proofs.YtjldbbcdhdfliaaGreatDoor
