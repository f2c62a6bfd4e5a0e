/-
  Walks over package fun: Calls: the nodes that name functions, as an iterator.
-/
import Derived.Test.YtjendlnicbieoaaGreatDoorFunB
import Derived.Test.YtjendlnicbieoaaGreatDoorRg
import Derived.IntWalk
import Derived.Deep.AppendLies
import Derived.OwnWalkIn
import Derived.TacticsInMore
import Derived.LoopNIn
import Derived.LoopIn
import Derived.Test.YtjendlnicbieoaaGreatDoorPlB
import Derived.Laws.EntriesVeiled
import Derived.Shelf.Abstract
namespace Go.Proofs.YtjendlnicbieoaaGreatDoor
open Go.RowKit Go.Sort
attribute [local go_sem] Oper.semAt_some

theorem below_new (w : World) (o : Obj) : Below w.heap.size w (w.alloc o) := (Below.refl _ _).alloc (Nat.le_refl _) _
theorem wide_d (m : Nat) : Fence.wide.depth.isSome = true → 1 ≤ m := fun h => by simp [Fence.wide] at h
theorem grown_ofN {W W' : World} (h : Below W.heap.size W W') : W.grownBy W' none := ⟨h.os, h.tape, h.output, h.size, fun k hk _ => h.block k hk⟩
theorem belowN {B : Nat} {W W' : World} {row : Option Nat} (hg : W.grownBy W' row) (hB : B ≤ W.heap.size) (hr : ∀ g, row = some g → B ≤ g) : Below B W W' := ⟨hg.os, hg.tape, hg.output, hg.size, fun k hk => hg.block k (by omega) fun e => by have := hr k e.symm; omega⟩
theorem info_partsS {P : Program} {T : TypeId} {z : Value} {sz by_ : Nat} (h : (P.info? T).map (fun i => (i.zero, i.size, i.bytes)) = some (some z, sz, by_)) : ∃ i, P.info? T = some i ∧ i.zero = some z ∧ i.size = sz ∧ i.bytes = by_ := by
  obtain ⟨i, hi, hzz⟩ := Option.map_eq_some_iff.1 h
  simp only [Prod.mk.injEq] at hzz
  exact ⟨i, hi, hzz.1, hzz.2.1, hzz.2.2⟩
/-- append(row, x), x a value that lies in a block of its own. -/
theorem wpList_row {ops : Array Oper} {rest : List Oper} {o : Oper} {a : Act} {Q : Exit → Act → World → Prop} (w : World) (hgd : o.guard = none) (s x : Operand) (T E : TypeId) (z : Value) (sz by_ : Nat)
    (hu : Tryz.prog.underlying T = some (.slice E)) (hinfo : (Tryz.prog.info? E).map (fun i => (i.zero, i.size, i.bytes)) = some (some z, sz, by_)) (hzs : z.cells.size = sz) (h0 : 0 < sz) (hby : by_ ≤ 1000)
    (ho : o.op = .call { callee := .builtin .append, args := #[s, x], argTypes := #[T, T] })
    (B : Nat) (bv : Value) (n : Nat) (xs : List Value) (hs : a.eval s = bv) (hrow : w.ownsRow B E sz bv n xs) (g : Nat) (ys : List Value) (hx : a.eval x = .slice (some ⟨g, 0, none⟩) 1 1) (hg : w.heap[g]? = some (.cells ys.toArray E (0, 0)))
    (hyl : ys.length = sz) (hone : ∀ u ∈ ys, u.oneCell' = true) (hl : n ≤ 10000000000) (hB : B ≤ w.heap.size)
    (h : ∀ g' cap w', w'.ownsRow B E sz (.slice (some ⟨g', 0, none⟩) (n + 1) cap) (n + 1) (xs ++ ys) → w.grownBy w' bv.ownBlock → (bv.ownBlock = some g' ∨ g' = w.heap.size) → wpList Tryz.prog ops Q rest (a.put o.dst (.slice (some ⟨g', 0, none⟩) (n + 1) cap)) w') :
    wpList Tryz.prog ops Q (o :: rest) a w := by
  obtain ⟨i0, hi0, hz0, hz1, hz2⟩ := info_partsS hinfo
  refine wpList_append_lies w hgd s x T ho B E i0 z sz by_ hu hi0 hz0 hz1 hz2 hzs h0 bv n xs hs hrow ⟨g, 0, none⟩ 1 1 ys hx (by rw [hyl, Nat.one_mul]) (fun j u hj => ?_) hone (by omega) (by unfold maxLen; omega) ?_ hB _ rfl ?_
  · have := Blk.c (t := E) (cs := ys) hg j hj
    unfold Addr.add
    by_cases h : j = 0
    · subst h
      simpa using this
    · simpa [h] using this
  · calc (n + 1) * by_ ≤ 10000000001 * 1000 := Nat.mul_le_mul (by omega) hby
      _ ≤ 140737488355328 := by decide
  · intro g' cap w' h1 h2 h3 _
    exact h g' cap w' h1 h2 h3
/-- A growing row: nothing but what is new has turned. -/
theorem row_none (w : World) (B : Nat) (E : TypeId) (sz : Nat) : w.ownsRow B E sz (.slice none 0 0) 0 [] := ⟨by simp, .inl ⟨rfl, rfl⟩⟩
theorem row_base {w : World} {B : Nat} {E : TypeId} {sz n : Nat} {v : Value} {xs : List Value} (h : w.ownsRow B E sz v n xs) : ∀ g, v.ownBlock = some g → B ≤ g := fun g hg => (h.lt g hg).1
theorem row_form {w : World} {B : Nat} {E : TypeId} {sz n : Nat} {v : Value} {xs : List Value} (h : w.ownsRow B E sz v n xs) : ∃ (a : Option Addr) (cap : Nat), v = .slice a n cap ∧ n ≤ cap ∧ cap ≤ maxLen ∧ ∀ (j : Nat) (u : Value), xs[j]? = some u → ∃ g, a = some ⟨g, 0, none⟩ ∧ B ≤ g ∧ g < w.heap.size ∧ w.cell? ⟨g, j, none⟩ = some u := by
  have hxl := h.1
  rcases h.2 with ⟨rfl, h0⟩ | ⟨g, cap, cur, rfl, e2, e3, e4, e5, e6, e7⟩
  · subst h0
    have : xs = [] := List.eq_nil_of_length_eq_zero (by simpa using hxl)
    subst this
    exact ⟨none, 0, rfl, Nat.le_refl _, Nat.zero_le _, fun j u hj => by simp at hj⟩
  · refine ⟨some ⟨g, 0, none⟩, cap, rfl, e4, e5, fun j u hj => ?_⟩
    have hlt := (h.lt g rfl).2
    have hjl : j < n * sz := by
      have := (List.getElem?_eq_some_iff.1 hj).1
      rwa [hxl] at this
    exact ⟨g, rfl, e2, hlt, by rw [h.cellAt j hjl]; exact hj⟩
/-- What does not touch a row leaves it. -/
theorem row_keep {w w' : World} {B : Nat} {E : TypeId} {sz n : Nat} {v : Value} {xs : List Value} (h : w.ownsRow B E sz v n xs) (hk : ∀ g, v.ownBlock = some g → g < w.heap.size → w'.heap[g]? = w.heap[g]?) : w'.ownsRow B E sz v n xs := by
  obtain ⟨h1, h2⟩ := h
  refine ⟨h1, ?_⟩
  rcases h2 with h2 | ⟨g, cap, cur, e1, e2, e3, e4⟩
  · exact .inl h2
  · exact .inr ⟨g, cap, cur, e1, e2, (hk g (by rw [e1]; rfl) (lt_of_heap e3)).trans e3, e4⟩

abbrev CV := Nat × Int
def callsF : Nat → List Nd → List CV
  | _, [] => []
  | i, x :: r => (if namesOp x.op = true then [(i, x.n)] else []) ++ callsF (i + 1) r
def callsC : List CV → List Value
  | [] => []
  | x :: r => .int .i64 (x.1 : Int) :: .int .i64 x.2 :: callsC r
theorem callsC_app : ∀ a b, callsC (a ++ b) = callsC a ++ callsC b
  | [], _ => rfl
  | x :: r, b => by rw [List.cons_append, callsC, callsC, callsC_app r b]; rfl
theorem callsC_at : ∀ (l : List CV) (j : Nat) (x : CV), l[j]? = some x → (callsC l)[j * 2]? = some (.int .i64 (x.1 : Int)) ∧ (callsC l)[j * 2 + 1]? = some (.int .i64 x.2)
  | [], j, x, h => by simp at h
  | y :: r, 0, x, h => by
    obtain rfl : y = x := by simpa using h
    exact ⟨rfl, rfl⟩
  | y :: r, j + 1, x, h => by
    have := callsC_at r j x (by simpa using h)
    rw [show (j + 1) * 2 = j * 2 + 1 + 1 by omega]
    exact this
theorem callsF_len : ∀ (l : List Nd) (i : Nat), (callsF i l).length ≤ l.length
  | [], _ => Nat.le_refl _
  | x :: r, i => by
    have := callsF_len r (i + 1)
    rw [callsF]
    split <;> simp <;> omega
theorem int2_info : (Tryz.prog.info? 180).map (fun i => (i.zero, i.size, i.bytes)) = some (some (.agg #[.int .i64 0, .int .i64 0]), 2, 16) := by kernel_rfl
/-- What Calls hands back. -/
structure IsC (w : World) (lb : Nat) (l : List CV) (v : Value) : Prop where
  cell : Blk w lb 178 [v]
  row : w.ownsRow (lb + 1) 180 2 v l.length (callsC l)
theorem IsC.belowAll {w w' : World} {lb : Nat} {l : List CV} {v : Value} (h : IsC w lb l v) (hb : Below w.heap.size w w') : IsC w' lb l v := ⟨h.cell.belowAll hb, row_keep h.row fun g _ hg => hb.block g hg⟩
set_option maxRecDepth 100000 in
set_option maxHeartbeats 4000000 in
theorem Calls_any (f : Fn) (hok : okF f = true) (na : Option Addr) (cap : Nat) (w : World) (hf : FnAt (· < w.heap.size) w f na cap) :
    Calls Tryz.prog 91 #[fnV f na cap] w fun e w' => ∃ lb v, e = .returned (.func (.func 108) #[] #[.pointer (some ⟨lb, 0, none⟩)]) ∧ w.heap.size < lb ∧ Below w.heap.size w w' ∧ IsC w' lb (callsF 0 f.ns) v := by
  have hw1 : Below w.heap.size w (w.alloc (.cells #[.int .i64 f.ps, .slice na f.ns.length cap] 46)) := (Below.refl _ _).alloc (Nat.le_refl _) _
  have hb := Blk.new w 46 [.int .i64 f.ps, .slice na f.ns.length cap]
  have hf1 := hf.later hw1
  have c0 := hb.c 0 rfl
  have c1 := hb.c 1 rfl
  have hL := fcheck_any f na cap _ hf1
  rw [if_pos hok] at hL
  have h200 : f.ns.length ≤ 200 := by
    unfold okF at hok
    simp only [Bool.and_eq_true, decide_eq_true_eq] at hok
    exact hok.1.2.2.2
  unfold fnV at hL ⊢
  obtain ⟨cl, hcl⟩ : ∃ cl, callsF 0 f.ns = cl := ⟨_, rfl⟩
  rw [hcl]
  have HCL := Lib.hid hcl
  clear hcl hok
  go_enter Tryz.func91, Tryz.ntmps91
  go_upto_region 3 with (go_at_call 105; refine hL.mono ?_; rintro e w2 ⟨rfl, hb2⟩)
  have hw2 := hw1.trans (hb2.mono (by simp))
  have hbx := hb.belowAll hb2
  have hsz : w.heap.size < w2.heap.size := Nat.lt_of_lt_of_le (by simp) hb2.size
  have hns := hf.ns.below hw2
  clear hb hf1 c0 c1 hL hw1 hb2
  have hl0 := Blk.new w2 178 [.slice none 0 0]
  have hw3 : Below w.heap.size w (w2.alloc (.cells #[.slice none 0 0] 178)) := hw2.alloc (by omega) _
  have hbx3 := hbx.alloc (.cells #[.slice none 0 0] 178)
  have c1 := hbx3.c 1 rfl
  go_wp2_with fail
  have hns3 : IsNs (· < w.heap.size) (w2.alloc (.cells #[.slice none 0 0] 178)) f.ns na := hns.fr (S := fun _ => False) (Fr.alloc _) fun g hg => ⟨by omega, id⟩
  have hlb : ∃ lb, w2.heap.size = lb := ⟨_, rfl⟩
  obtain ⟨lb, hlb⟩ := hlb
  have hsl : lb < (w2.alloc (.cells #[.slice none 0 0] 178)).heap.size := by rw [← hlb]; simp
  rw [hlb] at hl0 hsz ⊢
  clear hbx hns c1 hw2
  generalize w2.alloc (.cells #[.slice none 0 0] 178) = w3 at *
  go_loopw [4, 5, 12] (fun _ _ ix wr => ∃ (k : Nat) (dn : List CV) (v : Value), ix = .int .i64 (k : Nat) ∧ k ≤ f.ns.length ∧ dn ++ callsF k (f.ns.drop k) = cl ∧ dn.length ≤ k ∧ IsC wr lb dn v ∧ Below lb w3 wr) (fun _ _ ix _ => f.ns.length - (intOf ix).toNat)
  case atStart => exact ⟨0, [], _, rfl, Nat.zero_le _, HCL.out, Nat.le_refl _, ⟨hl0, row_none _ _ _ _⟩, Below.refl _ _⟩
  case round =>
    obtain ⟨k, dn, v, rfl, hk, hcl, hdl, hC, hbr⟩ := hrel
    have hzr := hbr.size
    by_cases hlt : k < f.ns.length
    case' neg =>
      have hkd : decide (k < f.ns.length) = false := by simpa using hlt
      rw [List.drop_of_length_le (by omega), callsF, List.append_nil] at hcl
      subst hcl
      have hww : Below w.heap.size w wr := hw3.trans (hbr.mono (by omega))
      clear hl0 hbx3 hns3
      go_wp2_with fail
      go_ret
      exact ⟨lb, v, rfl, hsz, hww, hC⟩
    case' pos =>
      have hkd : decide (k < f.ns.length) = true := by simpa using hlt
      have hms := sub_lt hlt
      have hx : f.ns[k]? = some f.ns[k] := List.getElem?_eq_getElem hlt
      obtain ⟨x, hxe⟩ : ∃ x, f.ns[k] = x := ⟨_, rfl⟩
      rw [hxe] at hx
      rw [List.drop_eq_getElem_cons hlt, hxe, callsF] at hcl
      clear hxe
      obtain ⟨g, o, la, lc, rfl, hg, q0, q1, q2, hlc, hcm, hLI, r1, r2⟩ := hns3 k x hx
      have y0 := (hbr.cell (p := ⟨g, o + k * 3, none⟩) (by dsimp only; omega)).trans q0
      have y1 := (hbr.cell (p := ⟨g, o + k * 3 + 1, none⟩) (by dsimp only; omega)).trans q1
      have y2 := (hbr.cell (p := ⟨g, o + k * 3 + 2, none⟩) (by dsimp only; omega)).trans q2
      have hN := Blk.new wr 59 [.int .i64 x.op, .int .i64 x.n, .slice la x.l.length lc]
      have hbn : Below wr.heap.size wr (wr.alloc (.cells #[.int .i64 x.op, .int .i64 x.n, .slice la x.l.length lc] 59)) := (Below.refl _ _).alloc (Nat.le_refl _) _
      have HCL2 := Lib.hid hcl
      clear hcl hx q0 q1 q2 hLI
      go_upto_region 7 with fail
      have hC4 := hC.belowAll hbn
      have hb4 := hbr.trans (hbn.mono (by omega))
      have hz4 := hbn.size
      clear y0 y1 y2 hC hbn
      generalize wr.alloc (.cells #[.int .i64 x.op, .int .i64 x.n, .slice la x.l.length lc] 59) = w4 at *
      have hnl := hN.lt
      generalize wr.heap.size = nb at *
      have n0 := hN.c 0 rfl
      have n1 := hN.c 1 rfl
      obtain ⟨nm, hnm⟩ : ∃ nm, namesOp x.op = nm := ⟨_, rfl⟩
      have hNM := fnames_any x.op
      rw [hnm] at hNM
      have HNM := Lib.hid hnm
      clear hnm
      cases nm with
      | false =>
        have HC3 : Hid (dn ++ callsF (k + 1) (f.ns.drop (k + 1)) = cl) := by
          show _ = _
          rw [← HCL2.out, if_neg (by rw [HNM.out]; simp)]
          rfl
        go_wp2_with (go_at_call 107; refine (hNM _).mono ?_; rintro e w5 ⟨rfl, rfl⟩)
        go_roundw
        case' rel => exact ⟨k + 1, dn, v, by go_num, hlt, HC3.out, by omega, hC4, hb4⟩
        case' measure => exact meas_lt hms
      | true =>
        have HC3 : Hid ((dn ++ [(k, x.n)]) ++ callsF (k + 1) (f.ns.drop (k + 1)) = cl) := by
          show _ = _
          rw [← HCL2.out, if_pos HNM.out]
          simp
        have lc0 := hC4.cell.c 0 rfl
        have lfz := hC4.cell.fz 0
        have hb5 := below_new w4 (.cells #[.int .i64 (k : Nat), .int .i64 x.n] 180)
        have hC5 := hC4.belowAll hb5
        have hz5 : (w4.alloc (.cells #[.int .i64 (k : Nat), .int .i64 x.n] 180)).heap.size = w4.heap.size + 1 := by simp
        have hnw := heap_alloc_new w4 (.cells #[.int .i64 (k : Nat), .int .i64 x.n] 180)
        have hll := hC5.cell.lt
        go_wp2_with first
          | (go_at_call 107; refine (hNM _).mono ?_; rintro e w5 ⟨rfl, rfl⟩)
          | (at_builtin; refine wpList_row _ rfl (.tmp 20) (.tmp 25) 178 180 _ 2 16 Tryz.underlying178 int2_info rfl (by decide) (by decide) rfl (lb + 1) v dn.length (callsC dn) rfl hC5.row w4.heap.size [.int .i64 (k : Nat), .int .i64 x.n] rfl hnw rfl (by intro u hu; simp at hu; rcases hu with rfl | rfl <;> rfl) (by omega) (by omega) ?_; intro g' cap' w6 hr6 hg6 ha6; have hbl6 : Blk w6 lb 178 [v] := (hg6.block lb hll (fun e => by have := row_base hC5.row lb e.symm; omega)).trans hC5.cell; have d0 := hbl6.c 0 rfl; have d1 := hbl6.fz 0; have hgl := row_base hr6 g' rfl; have hb6 := hb4.trans ((hb5.mono (by omega)).trans (belowN hg6 (B := lb) (by omega) (fun g hg => by have := row_base hC5.row g hg.symm.symm; omega))); clear hC5 hC4 hb5 hnw hg6 lc0 lfz ha6 n0 n1 hN hb4)
        go_roundw
        case' rel =>
          refine ⟨k + 1, dn ++ [(k, x.n)], _, by go_num, hlt, HC3.out, by simp; omega, ⟨hbl6.set 0 _, ?_⟩, hb6.setCell (Nat.le_refl _) _⟩
          rw [callsC_app, List.length_append]
          exact row_keep hr6 fun g hg _ => Below.heap_setCell _ _ _ _ (by have := row_base hr6 g hg; dsimp only; omega)
        case' measure => exact meas_lt hms
def encC (x : CV) : Array Value := #[.int .i64 (x.1 : Int), .int .i64 x.2]
/-- What has come and what comes next stand at the head of a list. -/
def GL {α : Type} (l : List α) (pre : List α) (x : α) (_ : World) : Prop := ∃ r, l = pre ++ x :: r
def SL {α : Type} (l : List α) (xs : List α) : Prop := xs = l
def SpL {α : Type} (l : List α) (pre : List α) : Prop := ∃ r, l = pre ++ r
theorem gl_of {α : Type} {l pre : List α} {x : α} {k : Nat} (hp : pre = l.take k) (hx : l[k]? = some x) : l = pre ++ x :: l.drop (k + 1) := by
  obtain ⟨h1, h2⟩ := List.getElem?_eq_some_iff.1 hx
  rw [hp, ← h2, ← List.drop_eq_getElem_cons h1, List.take_append_drop]
theorem take_snoc {α : Type} {l pre : List α} {x : α} {k : Nat} (hp : pre = l.take k) (hx : l[k]? = some x) : pre ++ [x] = l.take (k + 1) := by
  obtain ⟨h1, h2⟩ := List.getElem?_eq_some_iff.1 hx
  rw [hp, List.take_succ_eq_append_getElem h1, h2]
set_option maxRecDepth 100000 in
set_option maxHeartbeats 4000000 in
theorem calls_iter (m : Nat) (l : List CV) (hll : l.length ≤ 1000) (lb : Nat) (v : Value) (w : World) (hC : IsC w lb l v) :
    IterG Tryz.prog m 108 #[.pointer (some ⟨lb, 0, none⟩)] encC (GL l) (SL l) (SpL l) (fun W => Below w.heap.size w W) w := by
  intro y J Jx W hW hJ hJx hJE hY h0
  obtain ⟨a, cap, rfl, hlc, hcm, hrow⟩ := row_form hC.row
  have hc1 := (hC.belowAll hW).cell.c 0 rfl
  have HROW : Hid (∀ (j : Nat) (x : CV), l[j]? = some x → ∃ g, a = some ⟨g, 0, none⟩ ∧ g < w.heap.size ∧ w.cell? ⟨g, j * 2, none⟩ = some (.int .i64 (x.1 : Int)) ∧ w.cell? ⟨g, j * 2 + 1, none⟩ = some (.int .i64 x.2)) := by
    intro j x hx
    obtain ⟨h1, h2⟩ := callsC_at l j x hx
    obtain ⟨g, e1, e2, e3, e4⟩ := hrow _ _ h1
    obtain ⟨g2, e5, e6, e7, e8⟩ := hrow _ _ h2
    rw [e1] at e5
    injection e5 with e5
    injection e5 with e5 _ _
    subst e5
    exact ⟨g, e1, e3, e4, e8⟩
  have HJ := Lib.hid hJ
  have HJX := Lib.hid hJx
  have HJE := Lib.hid hJE
  have HY := Lib.hid hY
  clear hJ hJx hJE hY hrow hC
  refine callsIn_of_wp Tryz.func108 rfl trivial ?_ rfl
  simp only [Tryz.ntmps108, List.size_toArray, List.length_cons, List.length_nil, Nat.reduceAdd, Nat.reduceSub, Array.replicate_succ, Array.replicate_zero, List.push_toArray, List.append_toArray, List.nil_append, List.cons_append]
  gi_wp2
  gi_loopw [4, 7] (fun _ i wr => ∃ (k : Nat) (pre : List CV), i = .int .i64 (k : Nat) ∧ k ≤ l.length ∧ pre = l.take k ∧ J pre wr) (fun _ i _ => l.length - (intOf i).toNat)
  case atStart => exact ⟨0, [], rfl, Nat.zero_le _, rfl, h0⟩
  case round =>
    clear h0 hc1 hW
    obtain ⟨k, pre, rfl, hk, hpre, hj⟩ := hrel
    have HPRE := Lib.hid hpre
    clear hpre
    by_cases hlt : k < l.length
    · obtain ⟨x, hx⟩ : ∃ x, l[k]? = some x := ⟨l[k], List.getElem?_eq_getElem hlt⟩
      obtain ⟨g, rfl, hg, q0, q1⟩ := HROW.out k x hx
      have hbw := HJE.out pre wr hj
      have e0 : wr.cell? ⟨g, k * 2, none⟩ = some (.int .i64 (x.1 : Int)) := (hbw.cell (p := ⟨g, k * 2, none⟩) hg).trans q0
      have e1 : wr.cell? ⟨g, k * 2 + 1, none⟩ = some (.int .i64 x.2) := (hbw.cell (p := ⟨g, k * 2 + 1, none⟩) hg).trans q1
      have hd1 : decide (k < l.length) = true := by simpa using hlt
      have hms := sub_lt hlt
      have hb2 := below_new wr (.cells #[.int .i64 (x.1 : Int), .int .i64 x.2] 180)
      have hN := Blk.new wr 180 [.int .i64 (x.1 : Int), .int .i64 x.2]
      have hj2 := HJ.out pre _ _ hj (grown_ofN hb2)
      have n0 := hN.c 0 rfl
      have n1 := hN.c 1 rfl
      obtain ⟨fn, tmps, assign, body, hy, hR⟩ := HY.out pre x _ hj2 ⟨_, gl_of HPRE.out hx⟩
      have HS := Lib.hid (take_snoc HPRE.out hx)
      have HX := Lib.hid hx
      dsimp only [encC] at hy
      clear q0 q1 hx hj hbw hb2
      gi_wp2
      refine ⟨wide_d _, hR.mono ?_⟩
      rintro e w5 (⟨rfl, hj5⟩ | ⟨rfl, hj5⟩)
      · gi_wp2
        go_roundw
        case rel => exact ⟨k + 1, pre ++ [x], by go_num, hlt, HS.out, hj5⟩
        case measure => exact meas_lt hms
      · gi_wp2
        refine bodyPost_ret (results_none rfl _ _ _) rfl ?_
        exact ⟨⟨_, rfl⟩, .inr ⟨_, ⟨l.drop (k + 1), by rw [HS.out, List.take_append_drop]⟩, hj5⟩⟩
    · have hd1 : decide (k < l.length) = false := by simpa using hlt
      obtain rfl : k = l.length := by omega
      have HP2 := Lib.hid (HPRE.out.trans (List.take_length ..))
      gi_wp2
      go_end0
      exact ⟨⟨_, rfl⟩, .inl ⟨pre, HP2.out, hj⟩⟩
end Go.Proofs.YtjendlnicbieoaaGreatDoor
/-
  Walks over package program: misnames: the first node that names a function which it does not fit.
-/
namespace Go.Proofs.YtjendlnicbieoaaGreatDoor
open Go.RowKit Go.Sort Go.Shelf
attribute [local go_sem] Oper.semAt_some

/-- A block of one cell. -/
abbrev B1 (w : World) (g : Nat) (t : TypeId) (v : Value) : Prop := Blk w g t [v]
/-- What a program's value rests on. -/
structure PAt (ok : Nat → Prop) (w : World) (p : List Fn) (pa : Option Addr) (cap : Nat) : Prop where
  fs : IsFs ok w p pa
  le : p.length ≤ cap
  cap : cap ≤ maxLen
theorem PAt.later {w w' : World} {p : List Fn} {pa : Option Addr} {cap : Nat} (h : PAt (· < w.heap.size) w p pa cap) (hb : Below w.heap.size w w') : PAt (· < w'.heap.size) w' p pa cap := ⟨(h.fs.below hb).more fun _ hg => Nat.lt_of_lt_of_le hg hb.size, h.le, h.cap⟩
def prV (p : List Fn) (pa : Option Addr) (cap : Nat) : Value := .agg #[.slice pa p.length cap]
def badC (p : List Fn) (f : Fn) (x : CV) : Bool := decide ((p.length : Int) ≤ x.2) || !(match f.ns[x.1]?, p[x.2.toNat]? with
  | some nd, some g => fitN nd g.ps
  | _, _ => false)
def firstC (p : List Fn) (f : Fn) (l : List CV) : Option Nat := (l.find? (badC p f)).map (·.1)
def misV (r : Option Nat) : Value := match r with
  | some k => .tuple #[.int .i64 (k : Nat), .bool true]
  | none => .tuple #[.int .i64 0, .bool false]
theorem firstC_none {p : List Fn} {f : Fn} {l : List CV} (h : ∀ x ∈ l, badC p f x = false) : firstC p f l = none := by
  unfold firstC
  rw [List.find?_eq_none.2 fun x hx => by rw [h x hx]; simp]
  rfl
theorem firstC_some {p : List Fn} {f : Fn} {l pre r : List CV} {x : CV} (hl : l = pre ++ x :: r) (h : ∀ y ∈ pre, badC p f y = false) (hx : badC p f x = true) : firstC p f l = some x.1 := by
  unfold firstC
  rw [hl, List.find?_append, List.find?_eq_none.2 (fun y hy => by rw [h y hy]; simp), Option.none_or, List.find?_cons, hx]
  rfl
theorem callsF_mem : ∀ (l : List Nd) (i : Nat) (x : CV), x ∈ callsF i l → ∃ nd, l[x.1 - i]? = some nd ∧ i ≤ x.1 ∧ namesOp nd.op = true ∧ nd.n = x.2
  | [], i, x, h => by simp [callsF] at h
  | y :: r, i, x, h => by
    rw [callsF, List.mem_append] at h
    rcases h with h | h
    · split at h
      · rename_i hn
        obtain rfl := List.mem_singleton.1 h
        exact ⟨y, by simp, Nat.le_refl _, hn, rfl⟩
      · simp at h
    · obtain ⟨nd, h1, h2, h3, h4⟩ := callsF_mem r (i + 1) x h
      refine ⟨nd, ?_, by omega, h3, h4⟩
      rw [show x.1 - i = x.1 - (i + 1) + 1 by omega, List.getElem?_cons_succ]
      exact h1
/-- The nodes of a valid function that name functions. -/
theorem callsF_ok {f : Fn} (hok : okF f = true) : ∀ x ∈ callsF 0 f.ns, ∃ nd, f.ns[x.1]? = some nd ∧ nd.l.length ≤ 16 ∧ 0 ≤ x.2 ∧ x.2 ≤ 63 := by
  intro x hx
  obtain ⟨nd, h1, -, h3, h4⟩ := callsF_mem _ _ _ hx
  rw [Nat.sub_zero] at h1
  obtain ⟨q, hq⟩ := okF_good hok
  obtain ⟨k1, k2, -⟩ := hq.to_.fit _ nd (List.getElem?_eq_some_iff.1 h1).1 h1
  have := num_named k2 h3
  rw [h4] at this
  exact ⟨nd, h1, kids16 k1, this⟩
theorem wp_weak {P : Program} {c : Code} {K : Act → World → Prop} {Q : Exit → Act → World → Prop} {a : Act} {w : World} (h : c.wp P (Exit.then K (fun _ _ _ => False)) a w) : c.wp P (Exit.then K Q) a w :=
  Code.wp_mono (fun e a w h => by cases e <;> first | exact h | exact h.elim) h
theorem Blk.far2 {w : World} {g : Nat} {t : TypeId} {cs : List Value} (h : Blk w g t cs) {k : Nat} {o : Obj} (hk : g ≠ k) : Blk (w.putObj k o) g t cs := (World.putObj_heap_other hk).trans h
/-- A node of a row of nodes, its cells in a later world. -/
theorem IsNs.cells {B : Nat} {w W : World} {l : List Nd} {a : Option Addr} (h : IsNs (· < B) w l a) (hb : Below B w W) {j : Nat} {x : Nd} (hx : l[j]? = some x) : ∃ (g o : Nat) (la : Option Addr) (cap : Nat), a = some ⟨g, o, none⟩ ∧ g < B ∧
    W.cell? ⟨g, o + j * 3, none⟩ = some (.int .i64 x.op) ∧ W.cell? ⟨g, o + j * 3 + 1, none⟩ = some (.int .i64 x.n) ∧ W.cell? ⟨g, o + j * 3 + 2, none⟩ = some (.slice la x.l.length cap) ∧ x.l.length ≤ cap ∧ cap ≤ maxLen ∧ IsI (· < B) W x.l la ∧ Rng x.op ∧ Rng x.n := by
  obtain ⟨g, o, la, cap, h1, h2, h3, h4, h5, h6, h7, h8, h9⟩ := h j x hx
  exact ⟨g, o, la, cap, h1, h2, (hb.cell (p := ⟨g, _, none⟩) h2).trans h3, (hb.cell (p := ⟨g, _, none⟩) h2).trans h4, (hb.cell (p := ⟨g, _, none⟩) h2).trans h5, h6, h7, h8.below hb, h9⟩
theorem IsFs.cells {B : Nat} {w W : World} {l : List Fn} {a : Option Addr} (h : IsFs (· < B) w l a) (hb : Below B w W) {j : Nat} {f : Fn} (hx : l[j]? = some f) : ∃ (g o : Nat) (na : Option Addr) (cap : Nat), a = some ⟨g, o, none⟩ ∧ g < B ∧
    W.cell? ⟨g, o + j * 2, none⟩ = some (.int .i64 f.ps) ∧ W.cell? ⟨g, o + j * 2 + 1, none⟩ = some (.slice na f.ns.length cap) ∧ f.ns.length ≤ cap ∧ cap ≤ maxLen ∧ IsNs (· < B) W f.ns na ∧ Rng f.ps := by
  obtain ⟨g, o, la, cap, h1, h2, h3, h4, h6, h7, h8, h9⟩ := h j f hx
  exact ⟨g, o, la, cap, h1, h2, (hb.cell (p := ⟨g, _, none⟩) h2).trans h3, (hb.cell (p := ⟨g, _, none⟩) h2).trans h4, h6, h7, h8.below hb, h9⟩
set_option maxRecDepth 100000 in
set_option maxHeartbeats 8000000 in
theorem misnames_any (p : List Fn) (pa : Option Addr) (pc : Nat) (f : Fn) (hok : okF f = true) (na : Option Addr) (cap : Nat) (w : World) (hP : PAt (· < w.heap.size) w p pa pc) (hf : FnAt (· < w.heap.size) w f na cap) :
    Calls Tryz.prog 66 #[prV p pa pc, fnV f na cap] w fun e w' => e = .returned (misV (firstC p f (callsF 0 f.ns))) ∧ Below w.heap.size w w' := by
  have hcok := callsF_ok hok
  have hll := callsF_len f.ns 0
  have h200 : f.ns.length ≤ 200 := by
    unfold okF at hok
    simp only [Bool.and_eq_true, decide_eq_true_eq] at hok
    exact hok.1.2.2.2
  obtain ⟨l, hl⟩ : ∃ l, callsF 0 f.ns = l := ⟨_, rfl⟩
  rw [hl] at hcok hll ⊢
  have HCOK := Lib.hid hcok
  -- the boxes: the program, the function, the two results
  have hq0 := ((((Blk.new w 24 [.slice pa p.length pc]).alloc (.cells #[.int .i64 f.ps, .slice na f.ns.length cap] 46)).alloc (.cells #[.int .i64 0] 3)).alloc (.cells #[.bool false] 4))
  have hq1 := (((Blk.new (w.alloc (.cells #[.slice pa p.length pc] 24)) 46 [.int .i64 f.ps, .slice na f.ns.length cap]).alloc (.cells #[.int .i64 0] 3)).alloc (.cells #[.bool false] 4))
  have hq2 := ((Blk.new ((w.alloc (.cells #[.slice pa p.length pc] 24)).alloc (.cells #[.int .i64 f.ps, .slice na f.ns.length cap] 46)) 3 [.int .i64 0]).alloc (.cells #[.bool false] 4))
  have hq3 := (Blk.new (((w.alloc (.cells #[.slice pa p.length pc] 24)).alloc (.cells #[.int .i64 f.ps, .slice na f.ns.length cap] 46)).alloc (.cells #[.int .i64 0] 3)) 4 [.bool false])
  have hbw : Below w.heap.size w ((((w.alloc (.cells #[.slice pa p.length pc] 24)).alloc (.cells #[.int .i64 f.ps, .slice na f.ns.length cap] 46)).alloc (.cells #[.int .i64 0] 3)).alloc (.cells #[.bool false] 4)) := (((below_new _ _).alloc (by simp) _).alloc (by simp; omega) _).alloc (by simp; omega) _
  simp only [World.size_alloc] at hq1 hq2 hq3
  unfold prV fnV
  refine callsIn_wide.1 (callsIn_of_wp_marks (n := 4) Tryz.func66 rfl trivial ?_ rfl)
  simp only [Tryz.ntmps66, List.size_toArray, List.length_cons, List.length_nil, Nat.reduceAdd, Nat.reduceSub, Array.replicate_succ, Array.replicate_zero, List.push_toArray, List.append_toArray, List.nil_append, List.cons_append]
  refine wpIn_wide.2 ?_
  go_upto_region 1 with fail
  generalize (((w.alloc (.cells #[.slice pa p.length pc] 24)).alloc (.cells #[.int .i64 f.ps, .slice na f.ns.length cap] 46)).alloc (.cells #[.int .i64 0] 3)).alloc (.cells #[.bool false] 4) = w1 at *
  have hf1 := hf.later hbw
  have hs1 := hq3.lt
  have hCL := Calls_any f hok na cap w1 hf1
  rw [hl] at hCL
  have HL := Lib.hid hl
  unfold fnV at hCL
  have c0 := hq1.c 0 rfl
  have c1 := hq1.c 1 rfl
  clear hl hcok
  go_wp2_with (go_at_call 91; refine hCL.mono ?_; rintro e w2 ⟨lb, lv, rfl, hlb, hb2, hC⟩)
  have hr0 := hq0.belowAll hb2
  have hr1 := hq1.belowAll hb2
  have hr2 := hq2.belowAll hb2
  have hr3 := hq3.belowAll hb2
  have hbw2 := hbw.trans (hb2.mono (by omega))
  have hs2 : w.heap.size + 1 + 1 + 1 < w2.heap.size := hr3.lt
  clear hq0 hq1 hq2 hq3 c0 c1 hf1 hCL hb2 hbw
  have hwl : lb < w2.heap.size := hC.cell.lt
  refine wpIn_wide.1 (wp_range (n := 4) (gf := 108) (lb := #[.pointer (some ⟨lb, 0, none⟩)]) rfl (enters_of Tryz.func108 (by kernel_rfl) rfl) (calls_iter _ l (by omega) lb lv w2 hC) (fun _ => rfl)
    (fun pre W => Below w2.heap.size w2 W ∧ ∀ y ∈ pre, badC p f y = false)
    (fun c pre W => c = .ret ∧ ∃ k, firstC p f l = some k ∧ B1 W (w.heap.size + 1 + 1) 3 (.int .i64 (k : Nat)) ∧ B1 W (w.heap.size + 1 + 1 + 1) 4 (.bool true) ∧ Below w.heap.size w W) ?_ ?_ (fun _ _ h => h.1) ?_ ?_ ?_ ?_)
  · rintro pre W W' ⟨h1, h2⟩ hg
    exact ⟨h1.trans (belowN hg h1.size fun g hg => by injection hg; omega), h2⟩
  · rintro c pre W W' ⟨h0, k, h1, h5, h6, h7⟩ hg
    exact ⟨h0, k, h1, (hg.block _ h5.lt (fun e => by injection e; omega)).trans h5, (hg.block _ h6.lt (fun e => by injection e; omega)).trans h6, h7.trans (belowN hg h7.size fun g hg => by injection hg; omega)⟩
  · intro W hg
    exact ⟨belowN hg (Nat.le_refl _) (fun g hg => by cases hg), fun y hy => by simp at hy⟩
  · rintro pre x W ⟨hbp, hfp⟩ ⟨rr, hlx⟩ hWl
-- ROUND
    obtain ⟨nd, hnd, hl16, hn0, hn63⟩ := HCOK.out x (by rw [hlx]; simp)
    obtain ⟨m, hm⟩ := Int.eq_ofNat_of_zero_le hn0
    have HFP := Lib.hid hfp
    have HLX := Lib.hid hlx
    have hEx : encC x = #[.int .i64 (x.1 : Int), .int .i64 (m : Nat)] := by unfold encC; rw [hm]
    rw [hEx]
    clear hfp hlx hEx
    gi_wp2
    refine ⟨World.grownBy.refl _ _, ?_⟩
    intro w3 hg3 hl3 hr3'
    have hb3 := hbp.trans (belowN hg3 hbp.size fun g hg => by injection hg; omega)
    have hbw3 := hbw2.trans (hb3.mono hbw2.size)
    have hP3 := hP.fs
    obtain ⟨ng, no, nla, nlc, rfl, hng, n0, n1, n2, -, -, -, -, -⟩ := hf.ns.cells hbw3 hnd
    have p0 := fun d os => cell_regrown ((hr0.belowAll hb3).c 0 rfl) d os
    have f0 := fun d os => cell_regrown ((hr1.belowAll hb3).c 1 rfl) d os
    have hnl : x.1 < f.ns.length := (List.getElem?_eq_some_iff.1 hnd).1
    have hnd1 : decide (x.1 < f.ns.length) = true := by simpa using hnl
    have m0 := fun d os => cell_regrown n0 d os
    have m1 := fun d os => cell_regrown n1 d os
    have m2 := fun d os => cell_regrown n2 d os
    have hsz3 := hb3.size
    clear n0 n1 n2 hbp hg3 hr3' hWl
    by_cases hpm : p.length ≤ m
    · have q1 : decide ((p.length : Int) ≤ (m : Int)) = true := by simpa using hpm
      have q2 : decide (p.length ≤ m) = true := by simpa using hpm
      have HB : Hid (firstC p f l = some x.1) := by
        show _ = _
        refine firstC_some HLX.out HFP.out ?_
        unfold badC
        rw [hm]
        simp only [q1, Bool.true_or]
      gi_wp2
      refine round_quiet (C := fun w' => ∃ p : Regrown, w' = grow (redrawn w3 p.d) p.os) (by kernel_rfl) (by kernel_rfl) (by kernel_rfl) (by rintro ⟨_, _, h⟩; exact h) ⟨⟨w3.drawn + 1, #[]⟩, by rw [grow_empty]; rfl⟩ ?_
      repeat (go_big_quiet_step (fail))
      refine wpQuiet_nil ?_
      intro _ hw'
      obtain ⟨⟨dq, osq⟩, hw''⟩ := hw'
      subst hw''
      have hb4 := below_regrown w3 dq osq
      have hgl := hb4.block _ hl3
      have hz4 := hb4.size
      have hgd := hb4.block w2.heap.size (by omega)
      have hb5 := hb3.trans (hb4.mono hb3.size)
      have hu2 := hr2.belowAll hb5
      have hu3 := hr3.belowAll hb5
      clear p0 f0 m0 m1 m2
      generalize grow (redrawn w3 dq) osq = w4 at *
      have u2 := hu2.c 0 rfl
      have f2 := hu2.fz 0
      have u3 := hu3.c 0 rfl
      have f3 := hu3.fz 0
      gi_wp2
      refine ⟨⟨?_, ?_⟩, rfl, x.1, HB.out, (hu2.set 0 _).far (by dsimp only; omega) _, (hu3.far (by dsimp only; omega) _).set 0 _, ?_⟩
      · rw [Below.heap_setCell _ _ _ _ (by dsimp only; omega), Below.heap_setCell _ _ _ _ (by dsimp only; omega)]
        exact hgl
      · rw [Below.heap_setCell _ _ _ _ (by dsimp only; omega), Below.heap_setCell _ _ _ _ (by dsimp only; omega)]
        exact hgd
      · exact ((hbw2.trans (hb5.mono hbw2.size)).setCell (p := ⟨w.heap.size + 1 + 1, 0, none⟩) (by dsimp only; omega) _).setCell (p := ⟨w.heap.size + 1 + 1 + 1, 0, none⟩) (by dsimp only; omega) _
    · have q1 : decide ((p.length : Int) ≤ (m : Int)) = false := by simp; omega
      have q2 : decide (p.length ≤ m) = false := by simp; omega
      have hpl : m < p.length := by omega
      obtain ⟨gg, go, gna, gcap, rfl, hgg, g0, g1, -, -, -, -⟩ := hP3.cells hbw3 (List.getElem?_eq_getElem hpl)
      have y0 := fun d os => cell_regrown g0 d os
      have hpd1 : decide (m < p.length) = true := by simpa using hpl
      obtain ⟨b, hb⟩ : ∃ b, fitN nd p[m].ps = b := ⟨_, rfl⟩
      have cF : ∀ d os, Calls Tryz.prog 92 #[.agg #[.int .i64 nd.op, .int .i64 nd.n, .slice nla nd.l.length nlc], .int .i64 p[m].ps] (grow (redrawn w3 d) os) fun e w'' => e = .returned (.bool b) ∧ ∃ p : Regrown, w'' = grow (redrawn w3 p.d) p.os := fun d os => by
        have := fits_any nd (by omega) nla nlc p[m].ps (grow (redrawn w3 d) os)
        rw [hb] at this
        exact Calls.regrown_of this
      have hbc : badC p f x = !b := by
        unfold badC
        rw [hnd, hm, Int.toNat_natCast, List.getElem?_eq_getElem hpl]
        simp only [q1, Bool.false_or, hb]
      clear hb g0 g1
      cases b with
      | true =>
        have HB : Hid (badC p f x = false) := hbc
        clear hbc
        gi_wp2
        refine round_quiet (C := fun w' => ∃ p : Regrown, w' = grow (redrawn w3 p.d) p.os) (by kernel_rfl) (by kernel_rfl) (by kernel_rfl) (by rintro ⟨_, _, h⟩; exact h) ⟨⟨w3.drawn + 1, #[]⟩, by rw [grow_empty]; rfl⟩ ?_
        repeat (go_big_quiet_step (exact cF _ _))
        refine wpQuiet_nil ?_
        intro _ hw'
        obtain ⟨⟨dq, osq⟩, hw''⟩ := hw'
        subst hw''
        have hb4 := below_regrown w3 dq osq
        have hgl := hb4.block _ hl3
        have hz4 := hb4.size
        have hgd := hb4.block w2.heap.size (by omega)
        have hb5 := hb3.trans (hb4.mono hb3.size)
        have hu2 := hr2.belowAll hb5
        have hu3 := hr3.belowAll hb5
        clear p0 f0 m0 m1 m2 y0 cF
        generalize grow (redrawn w3 dq) osq = w4 at *
        gi_wp2
        refine ⟨⟨hgl, hgd⟩, hb5, fun y hy => ?_⟩
        rcases List.mem_append.1 hy with hy | hy
        · exact HFP.out y hy
        · obtain rfl := List.mem_singleton.1 hy
          exact HB.out
      | false =>
        have HB : Hid (firstC p f l = some x.1) := firstC_some HLX.out HFP.out hbc
        clear hbc
        gi_wp2
        refine round_quiet (C := fun w' => ∃ p : Regrown, w' = grow (redrawn w3 p.d) p.os) (by kernel_rfl) (by kernel_rfl) (by kernel_rfl) (by rintro ⟨_, _, h⟩; exact h) ⟨⟨w3.drawn + 1, #[]⟩, by rw [grow_empty]; rfl⟩ ?_
        repeat (go_big_quiet_step (exact cF _ _))
        refine wpQuiet_nil ?_
        intro _ hw'
        obtain ⟨⟨dq, osq⟩, hw''⟩ := hw'
        subst hw''
        have hb4 := below_regrown w3 dq osq
        have hgl := hb4.block _ hl3
        have hz4 := hb4.size
        have hgd := hb4.block w2.heap.size (by omega)
        have hb5 := hb3.trans (hb4.mono hb3.size)
        have hu2 := hr2.belowAll hb5
        have hu3 := hr3.belowAll hb5
        clear p0 f0 m0 m1 m2 y0 cF
        generalize grow (redrawn w3 dq) osq = w4 at *
        have u2 := hu2.c 0 rfl
        have f2 := hu2.fz 0
        have u3 := hu3.c 0 rfl
        have f3 := hu3.fz 0
        gi_wp2
        refine ⟨⟨?_, ?_⟩, rfl, x.1, HB.out, (hu2.set 0 _).far (by dsimp only; omega) _, (hu3.far (by dsimp only; omega) _).set 0 _, ?_⟩
        · rw [Below.heap_setCell _ _ _ _ (by dsimp only; omega), Below.heap_setCell _ _ _ _ (by dsimp only; omega)]
          exact hgl
        · rw [Below.heap_setCell _ _ _ _ (by dsimp only; omega), Below.heap_setCell _ _ _ _ (by dsimp only; omega)]
          exact hgd
        · exact ((hbw2.trans (hb5.mono hbw2.size)).setCell (p := ⟨w.heap.size + 1 + 1, 0, none⟩) (by dsimp only; omega) _).setCell (p := ⟨w.heap.size + 1 + 1 + 1, 0, none⟩) (by dsimp only; omega) _
-- DONE
  · rintro xs W hS ⟨hbp, hfp⟩ hD
    have HF := Lib.hid (firstC_none (p := p) (f := f) (l := l) fun y hy => hfp y (by rw [hS]; exact hy))
    have hu2 := hr2.belowAll hbp
    have hu3 := hr3.belowAll hbp
    have hb3 := hbw2.trans (hbp.mono hbw2.size)
    have c0 := hu2.c 0 rfl
    have f0 := hu2.fz 0
    have c1 := hu3.c 0 rfl
    have f1 := hu3.fz 0
    clear hfp hS
    go_wp2_with fail
    have hD9 : ((W.setCell ⟨w.heap.size + 1 + 1, 0, none⟩ (.int .i64 0)).setCell ⟨w.heap.size + 1 + 1 + 1, 0, none⟩ (.bool false)).heap[w2.heap.size]? = some (.deferred (some [])) := ((Below.heap_setCell _ _ _ _ (by dsimp only; omega)).trans (Below.heap_setCell _ _ _ _ (by dsimp only; omega))).trans hD
    have hu2' := (hu2.set 0 (.int .i64 0)).far (q := ⟨w.heap.size + 1 + 1 + 1, 0, none⟩) (by dsimp only; omega) (.bool false)
    have hu3' := (hu3.far (q := ⟨w.heap.size + 1 + 1, 0, none⟩) (by dsimp only; omega) (.int .i64 0)).set 0 (.bool false)
    have hb9 := (hb3.setCell (p := ⟨w.heap.size + 1 + 1, 0, none⟩) (by dsimp only; omega) (.int .i64 0)).setCell (p := ⟨w.heap.size + 1 + 1 + 1, 0, none⟩) (by dsimp only; omega) (.bool false)
    generalize (W.setCell ⟨w.heap.size + 1 + 1, 0, none⟩ (.int .i64 0)).setCell ⟨w.heap.size + 1 + 1 + 1, 0, none⟩ (.bool false) = W9 at *
    have ha9 := hu2'.far2 (k := w2.heap.size) (o := .deferred none) (by omega)
    have hw9 := hu3'.far2 (k := w2.heap.size) (o := .deferred none) (by omega)
    refine ⟨by simp, .inl ⟨_, _, rfl, run_takeDeferred hD9, ?_⟩⟩
    exact ⟨.tuple #[(.int .i64 0), (.bool false)], by simp [results, Tryz.results66, go_sem, ha9.c 0 rfl, hw9.c 0 rfl], by rw [HF.out]; rfl, ⟨hb9.os, hb9.tape, hb9.output, by simpa using hb9.size, fun j hj => (World.putObj_heap_other (by omega)).trans (hb9.block j hj)⟩⟩
  · rintro c pre W hSp ⟨rfl, k, h1, h5, h6, h7⟩ hD
    have HF := Lib.hid h1
    have ha9 := h5.far2 (k := w2.heap.size) (o := .deferred none) (by omega)
    have hw9 := h6.far2 (k := w2.heap.size) (o := .deferred none) (by omega)
    gi_wp2
    refine ⟨by simp, .inl ⟨_, _, rfl, run_takeDeferred hD, ?_⟩⟩
    exact ⟨.tuple #[(.int .i64 (k : Nat)), (.bool true)], by simp [results, Tryz.results66, go_sem, ha9.c 0 rfl, hw9.c 0 rfl], by rw [HF.out]; rfl, ⟨h7.os, h7.tape, h7.output, by simpa using h7.size, fun j hj => (World.putObj_heap_other (by omega)).trans (h7.block j hj)⟩⟩
end Go.Proofs.YtjendlnicbieoaaGreatDoor
/-
  Walks over package program: Where, Check: may a program be?
-/
namespace Go.Proofs.YtjendlnicbieoaaGreatDoor
open Go.RowKit Go.Sort

theorem okP_iff {p : List Fn} : okP p = true ↔ (1 ≤ p.length ∧ p.length ≤ 64) ∧ (∀ f ∈ p, okF f = true) ∧ (∃ f r, p = f :: r ∧ f.ps = 0) ∧ ∀ f ∈ p, f.ns.all (nameOk p) = true := by
  unfold okP
  simp only [Bool.and_eq_true, decide_eq_true_eq, List.all_eq_true]
  constructor
  · rintro ⟨⟨⟨h1, h2⟩, h3⟩, h4⟩
    refine ⟨h1, h2, ?_, h4⟩
    match p, h3 with
    | [], h3 => cases h3
    | f :: r, h3 => exact ⟨f, r, rfl, by simpa using h3⟩
  · rintro ⟨h1, h2, ⟨f, r, rfl, h3⟩, h4⟩
    exact ⟨⟨⟨h1, h2⟩, by simpa using h3⟩, h4⟩
theorem firstC_all {p : List Fn} {f : Fn} (hok : okF f = true) : firstC p f (callsF 0 f.ns) = none ↔ f.ns.all (nameOk p) = true := by
  have hc := callsF_ok hok
  unfold firstC
  rw [Option.map_eq_none_iff, List.find?_eq_none, List.all_eq_true]
  have key : ∀ x : CV, x ∈ callsF 0 f.ns → ∀ nd, f.ns[x.1]? = some nd → namesOp nd.op = true → nd.n = x.2 → ((¬ badC p f x = true) ↔ nameOk p nd = true) := by
    intro x hx nd h1 h2 h3
    obtain ⟨-, -, -, h5, h6⟩ := hc x hx
    unfold badC nameOk
    rw [h1, if_pos h2, h3]
    cases hg : p[x.2.toNat]? with
    | none =>
      have := List.getElem?_eq_none_iff.1 hg
      simp
    | some g =>
      dsimp only
      have hl := (List.getElem?_eq_some_iff.1 hg).1
      have : ¬ (p.length : Int) ≤ x.2 := by omega
      simp [this]
      omega
  constructor
  · intro h y hy
    cases hn : namesOp y.op with
    | false => unfold nameOk; rw [if_neg (by rw [hn]; simp)]
    | true =>
      obtain ⟨j, hj⟩ := List.mem_iff_getElem?.1 hy
      have hm : ∀ (l : List Nd) (i j : Nat), l[j]? = some y → (i + j, y.n) ∈ callsF i l := by
        intro l
        induction l with
        | nil => intro i j h; simp at h
        | cons z r ih =>
          intro i j h
          rw [callsF]
          cases j with
          | zero =>
            obtain rfl : z = y := by simpa using h
            rw [if_pos hn]
            simp
          | succ j =>
            have := ih (i + 1) j (by simpa using h)
            rw [show i + 1 + j = i + (j + 1) by omega] at this
            exact List.mem_append_right _ this
      have hmem := hm f.ns 0 j hj
      rw [Nat.zero_add] at hmem
      exact (key _ hmem y hj hn rfl).1 (h _ hmem)
  · intro h x hx
    obtain ⟨nd, h1, -, h3, h4⟩ := callsF_mem _ _ _ hx
    rw [Nat.sub_zero] at h1
    exact (key x hx nd h1 h3 h4).2 (h nd (List.mem_of_getElem? h1))
def PwE (p : List Fn) (w : World) (e : Ending) (w' : World) : Prop := Below w.heap.size w w' ∧ ∃ a b : Int, e = .returned (.tuple #[.int .i64 a, .int .i64 b, .int .i64 (if okP p = true then 0 else 70)])
theorem PwE.no {p : List Fn} {w w' : World} {a b : Int} (h : Hid (okP p = false)) (hb : Below w.heap.size w w') : PwE p w (.returned (.tuple #[.int .i64 a, .int .i64 b, .int .i64 70])) w' := by
  refine ⟨hb, a, b, ?_⟩
  rw [if_neg (by rw [h.out]; simp)]
set_option maxRecDepth 100000 in
set_option maxHeartbeats 8000000 in
theorem pwhere_any (p : List Fn) (pa : Option Addr) (cap : Nat) (w : World) (hP : PAt (· < w.heap.size) w p pa cap) : Calls Tryz.prog 38 #[prV p pa cap] w (PwE p w) := by
  have hb := Blk.new w 24 [.slice pa p.length cap]
  have hw1 := below_new w (.cells #[.slice pa p.length cap] 24)
  have c0 := hb.c 0 rfl
  have hno : ∀ P : Prop, ((okP p = true) → P) → ¬ P → Hid (okP p = false) := fun P h1 h2 => Bool.eq_false_iff.2 fun h => h2 (h1 h)
  have HIFF := Lib.hid (@okP_iff p)
  have hle := hP.le
  have hcm := hP.cap
  unfold prV
  by_cases hlen : 1 ≤ p.length ∧ p.length ≤ 64
  case' neg =>
    have HR : Hid (okP p = false) := hno _ (fun h => (HIFF.out.1 h).1) hlen
    clear hno
    by_cases h1 : p.length < 1
    case' pos =>
      have q1 : decide (p.length < 1) = true := decide_eq_true h1
    case' neg =>
      have q1 : decide (p.length < 1) = false := decide_eq_false h1
      have q2 : 64 < p.length := by omega
    all_goals
      go_enter Tryz.func38, Tryz.ntmps38
      go_wp2_with fail
      go_ret3
      exact PwE.no HR hw1
  case' pos =>
    obtain ⟨h1, h64⟩ := hlen
    have HNO := Lib.hid hno
    clear hno
    have q1 : decide (p.length < 1) = false := decide_eq_false (by omega)
    have q2 : decide (64 < p.length) = false := decide_eq_false (by omega)
    go_enter Tryz.func38, Tryz.ntmps38
    go_wp2_with fail
    have hz1 : w.heap.size < (w.alloc (.cells #[.slice pa p.length cap] 24)).heap.size := by simp
    clear c0
    generalize w.alloc (.cells #[.slice pa p.length cap] 24) = w1 at *
    go_loopw [5, 6, 7, 8, 26] (fun _ _ _ _ ix wr => ∃ k : Nat, ix = .int .i64 (k : Nat) ∧ k ≤ p.length ∧ (∀ f ∈ p.take k, okF f = true) ∧ Below w1.heap.size w1 wr) (fun _ _ _ _ ix _ => p.length - (intOf ix).toNat)
    case atStart => exact ⟨0, rfl, Nat.zero_le _, by simp, Below.refl _ _⟩
    case round =>
      obtain ⟨k, rfl, hk, hall, hbr⟩ := hrel
      have HALL := Lib.hid hall
      clear hall
      by_cases hlt : k < p.length
      case' pos =>
        have hkd : decide (k < p.length) = true := by simpa using hlt
        have hms := sub_lt hlt
        obtain ⟨f, hf⟩ : ∃ f, p[k]? = some f := ⟨p[k], List.getElem?_eq_getElem hlt⟩
        have hbw := hw1.trans (hbr.mono hw1.size)
        obtain ⟨g, o, na, fc, rfl, hg, g0, g1, hfl, hfc, hfn, hfr⟩ := hP.fs.cells hbw hf
        have hbf := below_new wr (.cells #[.int .i64 f.ps, .slice na f.ns.length fc] 46)
        have hNf := Blk.new wr 46 [.int .i64 f.ps, .slice na f.ns.length fc]
        have n0 := hNf.c 0 rfl
        have n1 := hNf.c 1 rfl
        have hAt : FnAt (· < (wr.alloc (.cells #[.int .i64 f.ps, .slice na f.ns.length fc] 46)).heap.size) (wr.alloc (.cells #[.int .i64 f.ps, .slice na f.ns.length fc] 46)) f na fc :=
          ⟨(hfn.below (hbf.mono hbw.size)).more fun j hj => Nat.lt_of_lt_of_le hj (Nat.le_trans hbw.size hbf.size), hfl, hfc, hfr⟩
        have hW := fwhere_any f na fc _ hAt
        rw [whereF_ok] at hW
        unfold fnV at hW
        have HF := Lib.hid hf
        have hbz := hbr.size
        cases hok : okF f with
        | true =>
          rw [if_pos hok] at hW
          have HA2 : Hid (∀ f ∈ p.take (k + 1), okF f = true) := by
            intro y hy
            rw [List.take_succ_eq_append_getElem hlt, List.mem_append] at hy
            rcases hy with hy | hy
            · exact HALL.out y hy
            · rw [List.mem_singleton.1 hy]
              have := HF.out
              rw [List.getElem?_eq_getElem hlt] at this
              rw [Option.some.inj this]
              exact hok
          clear hf hok hAt
          go_wp2_with (go_at_call 65; refine hW.mono ?_; rintro e w3 ⟨rfl, hb3⟩)
          go_roundw
          case' rel => exact ⟨k + 1, by go_num, hlt, HA2.out, hbr.trans ((hbf.mono hbz).trans (hb3.mono (by simp; omega)))⟩
          case' measure => exact meas_lt hms
        | false =>
          rw [if_neg (by rw [hok]; simp)] at hW
          have HR : Hid (okP p = false) := HNO.out _ (fun h => (HIFF.out.1 h).2.1) fun h => by
            have := h f (List.mem_of_getElem? hf)
            rw [hok] at this
            cases this
          clear hf hok hAt
          go_wp2_with (go_at_call 65; refine hW.mono ?_; rintro e w3 ⟨rfl, hb3⟩)
          go_ret3
          exact PwE.no HR (hbw.trans ((hbf.mono hbw.size).trans (hb3.mono (by simp; omega))))
      case' neg =>
        have hkd : decide (k < p.length) = false := by simpa using hlt
        have HA : Hid (∀ f ∈ p, okF f = true) := by
          have := HALL.out
          rwa [List.take_of_length_le (by omega)] at this
        have hb2 := hb.belowAll hbr
        have hbw := hw1.trans (hbr.mono hw1.size)
        have hz2 := hbr.size
        obtain ⟨f0, hf0⟩ : ∃ f, p[0]? = some f := ⟨p[0], List.getElem?_eq_getElem (by omega)⟩
        have hf0p : 0 ≤ f0.ps := by
          obtain ⟨q, hq⟩ := okF_good (HA.out f0 (List.mem_of_getElem? hf0))
          exact hq.ps0
        obtain ⟨g, o, na, fc, hpa, hg, g0, g1, -, -, -, -⟩ := hP.fs.cells hbw hf0
        rw [Nat.zero_mul, Nat.add_zero] at g0
        subst hpa
        have c0 := hb2.c 0 rfl
        have hp0 : 0 < p.length := by omega
        have q3 : decide (0 < p.length) = true := decide_eq_true hp0
        have hhd : ∀ f r, p = f :: r → f = f0 := fun f r h => by
          rw [h] at hf0
          simpa using hf0
        have HHD := Lib.hid hhd
        have HF0 := Lib.hid hf0
        clear hb g1 hhd hf0 hbr
        by_cases h0 : 0 < f0.ps
        case' pos =>
          have q4 : decide (0 < f0.ps) = true := decide_eq_true h0
          have HR : Hid (okP p = false) := HNO.out _ (fun h => (HIFF.out.1 h).2.2.1) fun ⟨f, r, e, h⟩ => by
            rw [HHD.out f r e] at h
            omega
          go_wp2_with fail
          go_ret3
          exact PwE.no HR hbw
        case' neg =>
          have q4 : decide (0 < f0.ps) = false := decide_eq_false h0
          have HH : Hid (∃ f r, p = f :: r ∧ f.ps = 0) := by
            have h9 := HF0.out
            match p, h9 with
            | [], h9 => simp at h9
            | f :: r, h9 =>
              obtain rfl : f = f0 := by simpa using h9
              exact ⟨f, r, rfl, by omega⟩
          go_wp2_with fail
          go_loopw [9, 10, 11, 12, 50] (fun _ _ _ _ ix ws => ∃ k : Nat, ix = .int .i64 (k : Nat) ∧ k ≤ p.length ∧ (∀ f ∈ p.take k, f.ns.all (nameOk p) = true) ∧ Below wr.heap.size wr ws) (fun _ _ _ _ ix _ => p.length - (intOf ix).toNat)
          case atStart => exact ⟨0, rfl, Nat.zero_le _, by simp, Below.refl _ _⟩
          case round =>
            obtain ⟨k2, rfl, hk2, hall2, hbs⟩ := hrel
            have HALL2 := Lib.hid hall2
            clear hall2 g0 c0
            by_cases hlt2 : k2 < p.length
            case' pos =>
              have hkd2 : decide (k2 < p.length) = true := by simpa using hlt2
              have hms2 := sub_lt hlt2
              obtain ⟨f, hf⟩ : ∃ f, p[k2]? = some f := ⟨p[k2], List.getElem?_eq_getElem hlt2⟩
              have hbw2 := hbw.trans (hbs.mono hbw.size)
              obtain ⟨g2, o2, na2, fc2, hpa2, hg2, g3, g4, hfl, hfc, hfn, hfr⟩ := hP.fs.cells hbw2 hf
              injection hpa2 with hpa2
              injection hpa2 with e1 e2 _
              subst e1 e2
              have hok := HA.out f (List.mem_of_getElem? hf)
              have hbf := below_new wr (.cells #[.int .i64 f.ps, .slice na2 f.ns.length fc2] 46)
              have hNf := Blk.new wr 46 [.int .i64 f.ps, .slice na2 f.ns.length fc2]
              have n0 := hNf.c 0 rfl
              have n1 := hNf.c 1 rfl
              have c0 := ((hb2.belowAll hbs).alloc (.cells #[.int .i64 f.ps, .slice na2 f.ns.length fc2] 46)).c 0 rfl
              have hbz := hbs.size
              have hAt : FnAt (· < (wr.alloc (.cells #[.int .i64 f.ps, .slice na2 f.ns.length fc2] 46)).heap.size) (wr.alloc (.cells #[.int .i64 f.ps, .slice na2 f.ns.length fc2] 46)) f na2 fc2 :=
                ⟨(hfn.below (hbf.mono hbw2.size)).more fun j hj => Nat.lt_of_lt_of_le hj (Nat.le_trans hbw2.size hbf.size), hfl, hfc, hfr⟩
              have hPt := hP.later (hbw2.trans (hbf.mono hbw2.size))
              have hM := misnames_any p _ cap f hok na2 fc2 _ hPt hAt
              unfold prV fnV at hM
              have hiff := @firstC_all p f hok
              obtain ⟨rr, hrr⟩ : ∃ rr, firstC p f (callsF 0 f.ns) = rr := ⟨_, rfl⟩
              rw [hrr] at hM hiff
              have HF := Lib.hid hf
              have HIF := Lib.hid hiff
              clear hrr hiff hf hAt hPt hok
              cases rr with
              | none =>
                simp only [misV] at hM
                have HA2 : Hid (∀ f ∈ p.take (k2 + 1), f.ns.all (nameOk p) = true) := by
                  intro y hy
                  rw [List.take_succ_eq_append_getElem hlt2, List.mem_append] at hy
                  rcases hy with hy | hy
                  · exact HALL2.out y hy
                  · rw [List.mem_singleton.1 hy]
                    have := HF.out
                    rw [List.getElem?_eq_getElem hlt2] at this
                    rw [Option.some.inj this]
                    exact HIF.out.1 rfl
                go_wp2_with (go_at_call 66; refine hM.mono ?_; rintro e w3 ⟨rfl, hb3⟩)
                go_roundw
                case' rel => exact ⟨k2 + 1, by go_num, hlt2, HA2.out, hbs.trans ((hbf.mono hbz).trans (hb3.mono (by simp; omega)))⟩
                case' measure => exact meas_lt hms2
              | some i =>
                simp only [misV] at hM
                have HR : Hid (okP p = false) := HNO.out _ (fun h => (HIFF.out.1 h).2.2.2) fun h => by
                  have := HIF.out.2 (h f (List.mem_of_getElem? HF.out))
                  cases this
                go_wp2_with (go_at_call 66; refine hM.mono ?_; rintro e w3 ⟨rfl, hb3⟩)
                go_ret3
                exact PwE.no HR (hbw2.trans ((hbf.mono hbw2.size).trans (hb3.mono (by simp; omega))))
            case' neg =>
              have hkd2 : decide (k2 < p.length) = false := by simpa using hlt2
              have HOK : Hid (okP p = true) := by
                refine HIFF.out.2 ⟨⟨h1, h64⟩, HA.out, HH.out, ?_⟩
                have := HALL2.out
                rwa [List.take_of_length_le (by omega)] at this
              have hbw2 := hbw.trans (hbs.mono hbw.size)
              go_wp2_with fail
              go_ret3
              refine ⟨hbw2, 0, 0, ?_⟩
              rw [if_pos HOK.out]
              rfl
set_option maxRecDepth 100000 in
set_option maxHeartbeats 1000000 in
theorem pcheck_any (p : List Fn) (pa : Option Addr) (cap : Nat) (w : World) (hP : PAt (· < w.heap.size) w p pa cap) : Calls Tryz.prog 17 #[prV p pa cap] w fun e w' => e = .returned (.int .i64 (if okP p = true then 0 else 70)) ∧ Below w.heap.size w w' := by
  have hb := Blk.new w 24 [.slice pa p.length cap]
  have hw1 := below_new w (.cells #[.slice pa p.length cap] 24)
  have c0 := hb.c 0 rfl
  have hL := pwhere_any p pa cap _ (hP.later hw1)
  unfold PwE prV at hL
  unfold prV
  obtain ⟨z, hz⟩ : ∃ z : Int, (if okP p = true then 0 else 70) = z := ⟨_, rfl⟩
  rw [hz] at hL ⊢
  clear hz
  go_enter Tryz.func17, Tryz.ntmps17
  go_wp2_with (go_at_call 38; refine hL.mono ?_; rintro e w2 ⟨hb2, a, b, rfl⟩)
  go_ret
  exact ⟨rfl, hw1.trans (hb2.mono (by simp))⟩
end Go.Proofs.YtjendlnicbieoaaGreatDoor
