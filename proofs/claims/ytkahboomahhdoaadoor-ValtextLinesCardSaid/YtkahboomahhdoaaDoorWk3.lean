/-
  Lemmas for the statements' function works.
-/
import Derived.Test.YtkahboomahhdoaaDoorEach
import Derived.Deep.RegionWith
namespace Go.Proofs.YtkahboomahhdoaaDoor
open Go.RowKit Go.Shelf Go.Sort

theorem IsV_lf {ok : Nat → Prop} {w : World} {k n : Int} (hk : Rng k) (hn : Rng n) : IsV ok w (.mk k n []) (.agg #[.int .i64 k, .int .i64 n, .slice none 0 0]) := by
  rw [IsV]
  exact ⟨none, 0, rfl, hk, hn, Nat.le_refl _, Nat.zero_le _, by rw [IsR]; trivial⟩
theorem IsV_two {ok : Nat → Prop} {w : World} {k n : Int} (hk : Rng k) (hn : Rng n) {t1 t2 : VT} {u0 u1 u2 u3 u4 u5 : Value} {z : Nat} {ty : TypeId} {fr : Nat × Nat} (hz : ok z) (hb : w.heap[z]? = some (.cells #[u0, u1, u2, u3, u4, u5] ty fr))
    (h1 : IsV ok w t1 (.agg #[u0, u1, u2])) (h2 : IsV ok w t2 (.agg #[u3, u4, u5])) : IsV ok w (.mk k n [t1, t2]) (.agg #[.int .i64 k, .int .i64 n, .slice (some ⟨z, 0, none⟩) 2 2]) := by
  rw [IsV]
  refine ⟨some ⟨z, 0, none⟩, 2, rfl, hk, hn, Nat.le_refl _, by unfold maxLen; simp, ?_⟩
  rw [IsR, IsR, IsR]
  exact ⟨⟨z, 0, u0, u1, u2, rfl, hz, by simp [World.cell?, hb], by simp [World.cell?, hb], by simp [World.cell?, hb], h1⟩, ⟨z, 0, u3, u4, u5, rfl, hz, by simp [World.cell?, hb], by simp [World.cell?, hb], by simp [World.cell?, hb], h2⟩, trivial⟩
theorem IsV_one {ok : Nat → Prop} {w : World} {k n : Int} (hk : Rng k) (hn : Rng n) {t1 : VT} {u0 u1 u2 : Value} {z : Nat} {ty : TypeId} {fr : Nat × Nat} (hz : ok z) (hb : w.heap[z]? = some (.cells #[u0, u1, u2] ty fr))
    (h1 : IsV ok w t1 (.agg #[u0, u1, u2])) : IsV ok w (.mk k n [t1]) (.agg #[.int .i64 k, .int .i64 n, .slice (some ⟨z, 0, none⟩) 1 1]) := by
  rw [IsV]
  refine ⟨some ⟨z, 0, none⟩, 1, rfl, hk, hn, Nat.le_refl _, by unfold maxLen; simp, ?_⟩
  rw [IsR, IsR]
  exact ⟨⟨z, 0, u0, u1, u2, rfl, hz, by simp [World.cell?, hb], by simp [World.cell?, hb], by simp [World.cell?, hb], h1⟩, trivial⟩
theorem wp_weaken {P : Program} {c : Code} {K : Act → World → Prop} {Q : Exit → Act → World → Prop} {a : Act} {w : World} (h : c.wp P (Exit.then K (fun _ _ _ => False)) a w) : c.wp P (Exit.then K Q) a w :=
  wp_mono h (fun e a w h => by cases e <;> first | exact h | exact h.elim)
theorem rng_small {n : Int} (h : -100 ≤ n ∧ n ≤ 100) : Rng n := by unfold Rng; omega
theorem wrap_isV {W : World} {g z : Nat} {ty ty' : TypeId} {fr fr' : Nat × Nat} (hg : W.heap[g]? = some (.cells #[.int .i64 4, .int .i64 3, .slice none 0 0] ty fr)) (hz : W.heap[z]? = some (.cells #[.int .i64 6, .int .i64 0, .slice (some ⟨g, 0, none⟩) 1 1, .int .i64 2, .int .i64 1, .slice none 0 0] ty' fr')) :
    IsV (· < W.heap.size) W tWrap (.agg #[.int .i64 10, .int .i64 7, .slice (some ⟨z, 0, none⟩) 2 2]) :=
  IsV_two (rng_small (by decide)) (rng_small (by decide)) (lt_of_heap hz) hz (IsV_one (rng_small (by decide)) (rng_small (by decide)) (lt_of_heap hg) hg (IsV_lf (rng_small (by decide)) (rng_small (by decide)))) (IsV_lf (rng_small (by decide)) (rng_small (by decide)))
/-- What stands throughout works. -/
structure WkSt (w wr : World) : Prop where
  res : B1 wr w.heap.size 4 (.bool false)
  chan : Bx wr (w.heap.size + 1) 26 (.int .i64 4) (.int .i64 3) (.slice none 0 0)
  b : Below w.heap.size w wr
  env : Env wr
  sz : 5 ≤ w.heap.size
theorem WkSt.below {w wr w2 : World} (h : WkSt w wr) (hb : Below wr.heap.size wr w2) : WkSt w w2 :=
  ⟨h.res.belowAll hb, h.chan.belowAll hb, h.b.trans (hb.mono h.b.size), h.env.below hb h.env.size, h.sz⟩
theorem WkSt.drew {w wr : World} (h : WkSt w wr) : WkSt w wr.drew := h.below ⟨rfl, rfl, rfl, Nat.le_refl _, fun _ _ => rfl⟩

theorem two_new (w : World) (o o' : Obj) : ((w.alloc o).alloc o').heap[w.heap.size + 1]? = some o' := by
  have h := heap_alloc_new (w.alloc o) o'
  have hs : (w.alloc o).heap.size = w.heap.size + 1 := by simp
  rwa [hs] at h
theorem two_old (w : World) (o o' : Obj) : ((w.alloc o).alloc o').heap[w.heap.size]? = some o := (Below.heap_alloc _ _ _ (by simp)).trans (heap_alloc_new w o)
theorem text_wrap_call {W : World} {g z : Nat} {ty ty' : TypeId} {fr fr' : Nat × Nat} (hz : W.heap[z]? = some (.cells #[.int .i64 6, .int .i64 0, .slice (some ⟨g, 0, none⟩) 1 1, .int .i64 2, .int .i64 1, .slice none 0 0] ty' fr')) (hg : W.heap[g]? = some (.cells #[.int .i64 4, .int .i64 3, .slice none 0 0] ty fr)) (hE : Env W) :
    Calls Tryd.prog 20 #[.agg #[.int .i64 10, .int .i64 7, .slice (some ⟨z, 0, none⟩) 2 2]] W fun e w' => e = .returned (.tuple #[.string ⟨#[119, 114, 97, 112, 40, 55, 44, 114, 101, 99, 118, 40, 99, 104, 97, 110, 40, 51, 41, 41, 44, 49, 41]⟩, .int .i64 0]) ∧ Below W.heap.size W w' := by
  have h := Text_any tWrap _ W (wrap_isV hg hz) hE
  rw [text_wrap] at h
  exact h

theorem same_send_call {W : World} {v : Value} {z : Nat} {ty : TypeId} {fr : Nat × Nat} (hv : IsV (· < W.heap.size) W tSend v) (hz : W.heap[z]? = some (.cells #[.int .i64 4, .int .i64 3, .slice none 0 0, .int .i64 2, .int .i64 5, .slice none 0 0] ty fr)) :
    Calls Tryd.prog 12 #[v, .agg #[.int .i64 5, .int .i64 0, .slice (some ⟨z, 0, none⟩) 2 2]] W fun e w' => e = .returned (.bool true) ∧ Below W.heap.size W w' := by
  have h := rSame_any tSend tSend v _ W hv (IsV_two (rng_small (by decide)) (rng_small (by decide)) (lt_of_heap hz) hz (IsV_lf (rng_small (by decide)) (rng_small (by decide))) (IsV_lf (rng_small (by decide)) (rng_small (by decide)))) (by decide) (by decide)
  rw [same_send] at h
  exact h

theorem func_nil (bs : Nat) (w : World) : (binOp .eql 37 (.func (.func 36) #[] #[.pointer (some ⟨bs, 0, none⟩)]) Value.nilFunc).run Tryd.prog w = .ok (.bool false) w := by kernel_rfl
def txt4 : ByteArray := ⟨#[49, 10, 117, 110, 105, 116, 10, 120, 10, 50]⟩
theorem each_txt4 : eachV txt4 = [.mk 2 1 [], .mk 1 0 []] := by kernel_rfl
theorem WkSt.near {w W W' : World} (h : WkSt w W) {l : Nat} (hl : w.heap.size + 1 < l) (hg : W.grownBy W' (some l)) : WkSt w W' := by
  have hk : ∀ k, k ≤ w.heap.size + 1 → W'.heap[k]? = W.heap[k]? := fun k hk => hg.block k (by have := h.chan.lt; omega) (fun e => by injection e; omega)
  have hb : Below w.heap.size W W' := ⟨hg.os, hg.tape, hg.output, hg.size, fun k hk' => hk k (by omega)⟩
  exact ⟨(hk _ (by omega)).trans h.res, (hk _ (by omega)).trans h.chan, h.b.trans hb, h.env.below hb h.sz, h.sz⟩

theorem pre_two {pre : List EV} {x : EV} (h : (pre ++ [x]).map (fun y => y.2.1) <+: eachV txt4) : (pre.length = 0 ∧ x.2.1 = .mk 2 1 []) ∨ (pre.length = 1 ∧ x.2.1 = .mk 1 0 []) := by
  rw [each_txt4] at h
  match pre, h with
  | [], h =>
    obtain ⟨r, hr⟩ := h
    simp at hr
    exact .inl ⟨rfl, hr.1⟩
  | [p0], h =>
    obtain ⟨r, hr⟩ := h
    simp at hr
    exact .inr ⟨rfl, hr.2.1⟩
  | p0 :: p1 :: r, h =>
    have := h.length_le
    simp at this
theorem leaf_form {ok : Nat → Prop} {w : World} {k n kk nn : Int} {aa : Option Addr} {len cap : Nat} (h : IsV ok w (.mk k n []) (.agg #[.int .i64 kk, .int .i64 nn, .slice aa len cap])) : kk = k ∧ nn = n ∧ len = 0 ∧ cap ≤ maxLen := by
  rw [IsV] at h
  obtain ⟨a, c, he, _, _, _, hc, _⟩ := h
  simp only [Value.agg.injEq, Array.mk.injEq, List.cons.injEq, Value.int.injEq, Value.slice.injEq, true_and, and_true, List.length_nil] at he
  obtain ⟨rfl, rfl, rfl, rfl, rfl⟩ := he
  exact ⟨rfl, rfl, rfl, hc⟩
theorem same_leaf (w : World) {k n : Int} (hk : Rng k) (hn : Rng n) {aa : Option Addr} {cap : Nat} (hc : cap ≤ maxLen) :
    Calls Tryd.prog 12 #[.agg #[.int .i64 k, .int .i64 n, .slice aa 0 cap], .agg #[.int .i64 k, .int .i64 n, .slice none 0 0]] w fun e w' => e = .returned (.bool true) ∧ Below w.heap.size w w' := by
  have hl : IsV (· < w.heap.size) w (.mk k n []) (.agg #[.int .i64 k, .int .i64 n, .slice aa 0 cap]) := by
    rw [IsV]
    exact ⟨aa, cap, rfl, hk, hn, Nat.zero_le _, hc, by rw [IsR]; trivial⟩
  have hnd : nd (.mk k n []) ≤ 2000000 := by rw [nd, ndL]; omega
  refine (rSame_any (.mk k n []) (.mk k n []) _ _ w hl (IsV_lf hk hn) hnd hnd).mono ?_
  rintro e w' ⟨rfl, hb⟩
  refine ⟨ret_bool ?_, hb⟩
  rw [small_nd, nd, ndL, eqT, eqL]
  simp
theorem WkSt.setN {w W : World} (h : WkSt w W) {nb : Nat} (hnb : w.heap.size + 1 < nb) (u : Value) : WkSt w (W.setCell ⟨nb, 0, none⟩ u) := by
  have hb : Below w.heap.size W (W.setCell ⟨nb, 0, none⟩ u) := (Below.refl _ _).setCell (p := ⟨nb, 0, none⟩) (by simp; omega) _
  exact ⟨h.res.far (by simp; omega) _, h.chan.far (by simp; omega) _, h.b.trans hb, h.env.below hb h.sz, h.sz⟩

theorem word4 : (Value.tuple #[.string (wordT 4), .bool (hasW 4)]) = .tuple #[.string ⟨#[99, 104, 97, 110]⟩, .bool true] := by kernel_rfl
theorem kind_never : kindV (kindT ⟨#[110, 101, 118, 101, 114]⟩) = .tuple #[.int .i64 8, .bool true] := by kernel_rfl
theorem kind_int : kindV (kindT ⟨#[105, 110, 116]⟩) = .tuple #[.int .i64 0, .bool false] := by kernel_rfl

end Go.Proofs.YtkahboomahhdoaaDoor
