/-
  ValtextLines: for every string and every number the call returns true, and the arguments read as they did: the row and its card.
-/
import Derived.Test.YtkahboomahhdoaaDoorREach
import Derived.Test.YtkahboomahhdoaaDoorWk7
import Derived.Test.YtkahboomahhdoaaDoorNd
import Derived.LoopN
import Derived.Test.YtkahboomahhdoaaDoorTop0
namespace Go.Proofs.YtkahboomahhdoaaDoor
open Go.RowKit Go.Shelf Go.Sort
attribute [local go_sem] Oper.semAt_some

section
variable {P : Program} {n : Nat} {α : Type} {g : Operand} {ps : Array Tmp} {assign body : Code} {Q : Exit → Act → World → Prop} {a : Act} {w : World}
/-- wp_range, where a round is told too that the loop's record stands. -/
theorem wp_range2 {gf : Nat} {lb : Array Value} (hg : a.eval g = .func (.func gf) #[] lb) (eg : ∀ args w, (callFunc gf args).run P w = .ok (.enter gf args) w)
    {encs : α → Array Value} {G : List α → α → World → Prop} {S Sp : List α → Prop} {E : World → Prop} (hseq : IterG P (n - 1) gf lb encs G S Sp E w) (hps : ∀ x, (encs x).size = ps.size)
    (I : List α → World → Prop) (Ix : Code → List α → World → Prop) (hI : ∀ pre W W', I pre W → W.grownBy W' (some (w.heap.size + 1)) → I pre W') (hIx : ∀ c pre W W', Ix c pre W → W.grownBy W' (some (w.heap.size + 1)) → Ix c pre W')
    (hIE : ∀ pre W, I pre W → E W) (h0 : ∀ W, w.grownBy W none → I [] W)
    (hround : ∀ pre x W, I pre W → G pre x W → w.heap.size + 1 < W.heap.size → (∃ r, W.heap[w.heap.size + 1]? = some (.loop r)) → assign.wpIn (Fence.wide.inRound (w.heap.size + 1)) (n - 1 - 1) P (Exit.then (fun a₁ w₁ => W.grownBy w₁ none ∧ ∀ w₂, w₁.grownBy w₂ (some (w.heap.size + 1)) → w.heap.size + 1 < w₂.heap.size → (∃ r, w₂.heap[w.heap.size + 1]? = some (.loop r)) →
      body.wpIn (Fence.wide.inRound (w.heap.size + 1)) (n - 1 - 1) P (RPost w.heap.size I Ix (pre ++ [x]) w₂) a₁ w₂) (fun _ _ _ => False)) { tmps := (ps.zip (encs x)).foldl (fun t (p, v) => t.setIfInBounds p v) a.tmps, defers := [] } W)
    (hdone : ∀ (xs : List α) (W : World), S xs → I xs W → W.heap[w.heap.size]? = some (.deferred (some [])) → Q .normal { a with defers := { target := .collected w.heap.size, args := #[] } :: a.defers } W)
    (hstop : ∀ (c : Code) (pre : List α) (W : World), Sp pre → Ix c pre W → W.heap[w.heap.size]? = some (.deferred (some [])) → c.wpIn Fence.wide n P Q { a with defers := { target := .collected w.heap.size, args := #[] } :: a.defers } W) :
    (Code.rangeFunc g ps assign body).wpIn Fence.wide n P Q a w := by
  obtain ⟨b, hb⟩ : ∃ b, w.heap.size = b := ⟨_, rfl⟩
  rw [hb] at hI hIx hround hdone hstop
  refine wpIn_rangeFunc fun fn hfn => ?_
  -- the loop's record, in whatever state
  let rc : LoopState → Option Code → Obj := fun st pe => .loop { state := st, pending := pe, fn, tmps := a.tmps, params := ps, assign, body, defers := b }
  have hW1 : ∃ W1, (w.alloc (.deferred (some []))).alloc (rc .ready none) = W1 ∧ W1.heap[b + 1]? = some (rc .ready none) ∧ W1.heap[b]? = some (.deferred (some [])) ∧ w.grownBy W1 none ∧ Below w.heap.size w W1 := by
    refine ⟨_, rfl, ?_, ?_, ?_, ?_⟩
    · have h := World.alloc_heap_new (w.alloc (.deferred (some []))) (rc .ready none)
      rwa [World.size_alloc, hb] at h
    · rw [Below.heap_alloc _ _ _ (by simp; omega)]
      have h := World.alloc_heap_new w (.deferred (some []))
      rwa [hb] at h
    · exact ⟨rfl, rfl, rfl, by simp; omega, fun k hk _ => by rw [Below.heap_alloc _ _ _ (by simp; omega), Below.heap_alloc _ _ _ hk]⟩
    · exact ⟨rfl, rfl, rfl, by simp; omega, fun k hk => by rw [Below.heap_alloc _ _ _ (by simp; omega), Below.heap_alloc _ _ _ hk]⟩
  obtain ⟨W1, e1, hl1, hd1, hg1, hb1⟩ := hW1
  have hle : b + 1 < W1.heap.size := (Array.getElem?_eq_some_iff.1 hl1).1
  refine ⟨b + 1, [{ target := .collected b, args := #[] }], W1, { target := .fn (.func gf) lb, args := #[.func (.yield (b + 1)) #[] #[]] }, W1, gf, #[.func (.yield (b + 1)) #[] #[]] ++ lb, W1, ?_, ?_, fun _ _ => trivial, ?_, fun h => absurd h (by decide), ?_⟩
  · rw [← e1]
    have h := run_enterLoop_outer (P := P) (w := w) fn a.tmps ps assign body
    rw [hb] at h
    exact h
  · simp only [resolve, hg]
    simp [go_sem]
  · simp [invoke, go_sem, eg]
  -- the iterator, over the caller's invariant and the two blocks of the loop
  refine (hseq (b + 1) (fun pre W => I pre W ∧ W.heap[b + 1]? = some (rc .ready none) ∧ W.heap[b]? = some (.deferred (some [])))
    (fun pre W => ∃ c, Ix c pre W ∧ W.heap[b + 1]? = some (rc .done (some c)) ∧ W.heap[b]? = some (.deferred (some []))) W1 hb1 ?_ ?_ (fun pre W h => hIE pre W h.1) ?_ ⟨h0 W1 hg1, hl1, hd1⟩).mono ?_
  · rintro pre A B ⟨hi, hl, hd⟩ hAB
    exact ⟨hI pre A B hi ⟨hAB.os, hAB.tape, hAB.output, hAB.size, fun k hk _ => hAB.block k hk (by simp)⟩, grown_lt hAB hl (by simp), grown_lt hAB hd (by simp)⟩
  · rintro pre A B ⟨c, hi, hl, hd⟩ hAB
    exact ⟨c, hIx c pre A B hi ⟨hAB.os, hAB.tape, hAB.output, hAB.size, fun k hk _ => hAB.block k hk (by simp)⟩, grown_lt hAB hl (by simp), grown_lt hAB hd (by simp)⟩
  · rintro pre x W ⟨hi, hl, hd⟩ hG
    refine ⟨fn, _, assign, body, run_yield (P := P) (args := encs x) hl (hps x), roundIn_of_wpIn hfn (wpIn_mono (hround pre x W hi hG (Array.getElem?_eq_some_iff.1 hl).1 ⟨_, hl⟩) ?_)⟩
    intro e a1 w1 he
    cases e with
    | normal =>
      obtain ⟨hg, hbody⟩ := he
      have hlw := grown_lt hg hl (by simp)
      have hdw := grown_lt hg hd (by simp)
      have hlt : b + 1 < w1.heap.size := (Array.getElem?_eq_some_iff.1 hlw).1
      refine ⟨_, run_beginRound hlw rfl, ?_⟩
      have hl2 : (w1.putObj (b + 1) (rc .busy none)).heap[b + 1]? = some (rc .busy none) := World.putObj_heap_same hlt
      have hd2 : (w1.putObj (b + 1) (rc .busy none)).heap[b]? = some (.deferred (some [])) := (World.putObj_heap_other (by omega)).trans hdw
      refine wpIn_mono (hbody (w1.putObj (b + 1) (rc .busy none)) (grownBy_putObj' _ _ _) (by simpa using hlt) ⟨_, hl2⟩) ?_
      have fin : ∀ (j : Option Code) (W3 : World), W3.heap[b + 1]? = (w1.putObj (b + 1) (rc .busy none)).heap[b + 1]? → W3.heap[b]? = (w1.putObj (b + 1) (rc .busy none)).heap[b]? →
          (Instr.endRound (b + 1) j).run P W3 = .ok (.bool j.isNone) (W3.putObj (b + 1) (rc (if j.isNone then .ready else .done) j)) ∧ (W3.putObj (b + 1) (rc (if j.isNone then .ready else .done) j)).heap[b + 1]? = some (rc (if j.isNone then .ready else .done) j) ∧
          (W3.putObj (b + 1) (rc (if j.isNone then .ready else .done) j)).heap[b]? = some (.deferred (some [])) := by
        intro j W3 h1 h2
        have h3 := h1.trans hl2
        exact ⟨run_endRound (P := P) j h3, World.putObj_heap_same (Array.getElem?_eq_some_iff.1 h3).1, (World.putObj_heap_other (by omega)).trans (h2.trans hd2)⟩
      intro e a3 W3 hp
      cases e with
      | normal =>
        obtain ⟨⟨k1, k2⟩, hi3⟩ := hp
        obtain ⟨r1, r2, r3⟩ := fin none W3 k1 k2
        exact ⟨_, _, r1, .inl ⟨rfl, hI _ _ _ hi3 (grownBy_putObj' _ _ _), r2, r3⟩⟩
      | ret =>
        obtain ⟨⟨k1, k2⟩, hi3⟩ := hp
        obtain ⟨r1, r2, r3⟩ := fin (some .ret) W3 k1 k2
        exact ⟨_, _, r1, .inr ⟨rfl, .ret, hIx _ _ _ _ hi3 (grownBy_putObj' _ _ _), r2, r3⟩⟩
      | exit id =>
        obtain ⟨⟨k1, k2⟩, hi3⟩ := hp
        obtain ⟨r1, r2, r3⟩ := fin (some (.exit id)) W3 k1 k2
        exact ⟨_, _, r1, .inr ⟨rfl, .exit id, hIx _ _ _ _ hi3 (grownBy_putObj' _ _ _), r2, r3⟩⟩
      | goto t => exact hp.elim
      | panic ch => exact hp.elim
      | outgrown => exact hp.elim
    | ret => exact he.elim
    | exit id => exact he.elim
    | goto t => exact he.elim
    | panic ch => exact he.elim
    | outgrown => exact he.elim
  · rintro e W2 ⟨⟨v, rfl⟩, (⟨xs, hS, hi, hl, hd⟩ | ⟨pre, hSp, c, hi, hl, hd⟩)⟩
    · exact ⟨none, _, run_endLoop (P := P) hl (by simp), hdone xs _ hS (hI _ _ _ hi (grownBy_putObj' _ _ _)) ((World.putObj_heap_other (by omega)).trans hd)⟩
    · exact ⟨some c, _, run_endLoop (P := P) hl (by simp), hstop c pre _ hSp (hIx _ _ _ _ hi (grownBy_putObj' _ _ _)) ((World.putObj_heap_other (by omega)).trans hd)⟩
end
theorem wp_turn {P : Program} {id : Nat} {c : Code} {Q : Exit → Act → World → Prop} {a : Act} {w : World} (R : World → Prop) (d : List Deferred) (h : c.wp P (fun e a' W => (e = .normal ∨ e = .exit id) ∧ a' = { a with defers := d } ∧ R W) a w)
    (hq : ∀ W, R W → Q .normal { a with defers := d } W) : c.wp P (Exit.inBlock id Q) a w := by
  refine Code.wp_mono ?_ h
  rintro e a' W ⟨(rfl | rfl), rfl, hR⟩
  · exact hq W hR
  · show (if _ then _ else _)
    rw [if_pos rfl]
    exact hq W hR
theorem isV_round {W w2 : World} {l : Nat} {t : VT} {v : Value} (hv : IsV (· < W.heap.size) W t v) (h1 : ∃ r, W.heap[l]? = some (.loop r)) (h2 : ∃ r, w2.heap[l]? = some (.loop r)) (hk : ∀ g, g < W.heap.size → g ≠ l → w2.heap[g]? = W.heap[g]?) (hs : W.heap.size ≤ w2.heap.size) : IsV (· < w2.heap.size) w2 t v := by
  refine (hv.keep ?_).lift hs
  intro g hg o
  by_cases e : g = l
  · subst e
    obtain ⟨r1, h1⟩ := h1
    obtain ⟨r2, h2⟩ := h2
    simp [World.cell?, h1, h2]
  · exact World.cell?_of_block (hk g hg e)
theorem each_memF : ∀ (f : Nat) (s : ByteArray) (t : VT), t ∈ eachF f s → ∃ x, parse x = .ok t
  | 0, _, _, h => by rw [eachF] at h; cases h
  | f + 1, s, t, h => by
    rw [eachF] at h
    split at h
    · cases h
    · split at h
      · cases h
      · rename_i t' hp
        rcases List.mem_cons.1 h with rfl | h
        · exact ⟨_, hp⟩
        · exact each_memF f _ t h
theorem each_nd {s : ByteArray} {t : VT} (h : t ∈ eachV s) : nd t ≤ 256 := by
  obtain ⟨x, hx⟩ := each_memF _ _ _ h
  exact parse_nd hx
/-- What stays in ValtextLines. -/
structure LnSt (s : ByteArray) (many : Int) (l : List VT) (a : Option Addr) (cap : Nat) (w : World) (wb bs tb : Nat) (T : Int) (ds : List Nat) (hi : Nat) (W : World) : Prop where
  m : B1 W w.heap.size 3 (.int .i64 many)
  r : B1 W (w.heap.size + 1) 4 (.bool false)
  wt : B1 W wb 24 (.slice a l.length cap)
  row : IsR (· < wb) W l a 0
  str : B1 W bs 9 (.string s)
  tn : B1 W tb 3 (.int .i64 T)
  dd : ∀ k ∈ ds, k < hi ∧ W.heap[k]? = some (.deferred (some []))
  b : Below w.heap.size w W
  env : Env W
  sz : 5 ≤ w.heap.size
  l1 : w.heap.size + 1 < wb
  l2 : wb < bs
  l3 : bs < hi
  l4 : tb < hi
  l5 : bs < tb
  l6 : hi ≤ W.heap.size
section
variable {s : ByteArray} {many : Int} {l : List VT} {a : Option Addr} {cap : Nat} {w : World} {wb bs tb : Nat} {T : Int} {ds : List Nat} {hi : Nat} {W W' : World}
theorem LnSt.below (h : LnSt s many l a cap w wb bs tb T ds hi W) (hb : Below hi W W') : LnSt s many l a cap w wb bs tb T ds hi W' := by
  have h1 := h.l1
  have h2 := h.l2
  have h3 := h.l3
  have h4 := h.l4
  have h6 := h.l6
  have hbw : Below w.heap.size W W' := hb.mono (by omega)
  exact ⟨(hb.block _ (by omega)).trans h.m, (hb.block _ (by omega)).trans h.r, (hb.block _ (by omega)).trans h.wt, h.row.below (hb.mono (by omega)), (hb.block _ (by omega)).trans h.str, (hb.block _ (by omega)).trans h.tn,
    fun k hk => ⟨(h.dd k hk).1, (hb.block _ (h.dd k hk).1).trans (h.dd k hk).2⟩, h.b.trans hbw, h.env.below hbw h.sz, h.sz, h1, h2, h3, h4, h.l5, Nat.le_trans h6 hb.size⟩
theorem LnSt.near (h : LnSt s many l a cap w wb bs tb T ds hi W) {q : Nat} (hq : hi ≤ q) (hg : W.grownBy W' (some q)) : LnSt s many l a cap w wb bs tb T ds hi W' :=
  h.below (below_grown hg h.l6 fun g hg => by injection hg; omega)
theorem LnSt.set (h : LnSt s many l a cap w wb bs tb T ds hi W) {q : Nat} (hq : hi ≤ q) (u : Value) : LnSt s many l a cap w wb bs tb T ds hi (W.setCell ⟨q, 0, none⟩ u) :=
  h.below ((Below.refl _ _).setCell (p := ⟨q, 0, none⟩) hq _)
end

/-- A turn's rounds: where one is told to leave, and how many there are at the end. -/
def TInv (T many : Int) (k : Nat) : Prop := T = 0 → k = 0 ∨ (k : Int) < many
def TStop (T many : Int) (k : Nat) : Prop := T = 0 ∧ 1 ≤ k ∧ many ≤ (k : Int) ∧ (k = 1 ∨ (k : Int) - 1 < many)
def TEnd (T many : Int) (len N : Nat) : Prop := (T = 0 → (N : Int) = min (len : Int) (max 1 many)) ∧ (T = 1 → N = len)
theorem t_done {T many : Int} {len : Nat} (h : TInv T many len) : TEnd T many len len := by
  refine ⟨fun h0 => ?_, fun _ => rfl⟩
  have := h h0
  omega
theorem t_stop {T many : Int} {len k : Nat} (h : TStop T many k) (hk : k ≤ len) : TEnd T many len k := by
  obtain ⟨h0, h1, h2, h3⟩ := h
  refine ⟨fun _ => ?_, fun h9 => ?_⟩ <;> omega
theorem LnSt.more {s : ByteArray} {many : Int} {l : List VT} {a : Option Addr} {cap : Nat} {w : World} {wb bs tb : Nat} {T : Int} {ds : List Nat} {hi : Nat} {W : World} (h : LnSt s many l a cap w wb bs tb T ds hi W) {d : Nat} (hd : hi ≤ d) (hW : W.heap[d]? = some (.deferred (some []))) : LnSt s many l a cap w wb bs tb T (d :: ds) (d + 1) W := by
  have h3 := h.l3
  have h4 := h.l4
  have h9 := lt_of_heap hW
  refine ⟨h.m, h.r, h.wt, h.row, h.str, h.tn, fun k hk => ?_, h.b, h.env, h.sz, h.l1, h.l2, by omega, by omega, h.l5, by omega⟩
  rcases List.mem_cons.1 hk with rfl | hk
  · exact ⟨by omega, hW⟩
  · have := h.dd k hk
    exact ⟨by omega, this.2⟩
theorem LnSt.next {s : ByteArray} {many : Int} {l : List VT} {a : Option Addr} {cap : Nat} {w : World} {wb bs tb : Nat} {T : Int} {ds : List Nat} {hi : Nat} {W : World} (h : LnSt s many l a cap w wb bs tb T ds hi W) (T' : Int) : LnSt s many l a cap w wb bs W.heap.size T' ds (W.heap.size + 1) (W.alloc (.cells #[.int .i64 T'] 3)) := by
  have h3 := h.l3
  have h6 := h.l6
  have h2 := h.below ((below_alloc W (.cells #[.int .i64 T'] 3)).mono h6)
  exact ⟨h2.m, h2.r, h2.wt, h2.row, h2.str, B1.new W _ _, fun k hk => ⟨by have := (h2.dd k hk).1; omega, (h2.dd k hk).2⟩, h2.b, h2.env, h2.sz, h2.l1, h2.l2, by omega, by omega, by omega, by simp⟩
theorem same_any {t : VT} (hnd : nd t ≤ 256) {v v' : Value} {w : World} (hv : IsV (· < w.heap.size) w t v) (hv' : IsV (· < w.heap.size) w t v') : Calls Tryd.prog 12 #[v, v'] w fun e w' => e = .returned (.bool true) ∧ Below w.heap.size w w' := by
  have h := rSame_any t t v v' w hv hv' (by omega) (by omega)
  rw [same_refl hnd] at h
  exact h
theorem pre_at {s : ByteArray} {l : List VT} (hl : eachV s = l) {pre : List EV} {x : EV} (h : (pre ++ [x]).map (fun y => y.2.1) <+: eachV s) : ∃ hlt : pre.length < l.length, l[pre.length] = x.2.1 := by
  rw [hl] at h
  obtain ⟨r, hr⟩ := h
  have hlt : pre.length < l.length := by rw [← hr]; simp
  refine ⟨hlt, ?_⟩
  have : l[pre.length]? = some x.2.1 := by rw [← hr]; simp
  rw [List.getElem?_eq_getElem hlt] at this
  injection this

set_option maxRecDepth 100000 in
set_option maxHeartbeats 4000000 in
theorem lines_law (s : ByteArray) (hs : s.size ≤ maxLen) (many : Int) (w : World) (hE : Env w) : Calls Tryd.prog 4 #[.string s, .int .i64 many] w fun e w' => e = .returned (.bool true) ∧ Below w.heap.size w w' := by
  have hs2 := hs
  unfold maxLen at hs2
  refine callsIn_wide.1 (callsIn_of_wp_marks (n := 4) Tryd.func4 rfl trivial ?_ rfl)
  simp only [Tryd.ntmps4, List.size_toArray, List.length_cons, List.length_nil, Nat.reduceAdd, Nat.reduceSub, Array.replicate_succ, Array.replicate_zero, List.push_toArray, List.append_toArray, List.nil_append, List.cons_append]
  refine wpIn_wide.2 ?_
  have hm1 : B1 ((w.alloc (.cells #[.int .i64 many] 3)).alloc (.cells #[.bool false] 4)) w.heap.size 3 (.int .i64 many) := (B1.new w 3 (.int .i64 many)).alloc _
  have hr1 : B1 ((w.alloc (.cells #[.int .i64 many] 3)).alloc (.cells #[.bool false] 4)) (w.heap.size + 1) 4 (.bool false) := two_new _ _ _
  have hb1 : Below w.heap.size w ((w.alloc (.cells #[.int .i64 many] 3)).alloc (.cells #[.bool false] 4)) := two_alloc _ _ _
  have hs1 : ((w.alloc (.cells #[.int .i64 many] 3)).alloc (.cells #[.bool false] 4)).heap.size = w.heap.size + 1 + 1 := by simp
  have hE1 := hE.below hb1 hE.size
  go_upto_region 1 with fail
  generalize (w.alloc (.cells #[.int .i64 many] 3)).alloc (.cells #[.bool false] 4) = w1 at *
  by_cases hl : 600 < s.size
  · have hd : decide (600 < (s.size : Int)) = true := by simp; omega
    have hdn : decide (600 < s.size) = true := by simpa using hl
    go_wp2_with fail
    refine (works_any _ hE1).mono ?_
    rintro e w2 ⟨rfl, hb2⟩
    have hr2 := hr1.belowAll hb2
    have r0 := hr2.c
    have rf := hr2.fz
    have hb3 := hb1.trans (hb2.mono hb1.size)
    go_wp2_with fail
    have hr3 := hr2.set (.bool true)
    exact ⟨.bool true, by simp [results, Tryd.results4, go_sem, hr3.c], rfl, hb3.setCell (p := ⟨w.heap.size + 1, 0, none⟩) (by simp) _⟩
  · have hd : decide (600 < (s.size : Int)) = false := by simp; omega
    have hdn : decide (600 < s.size) = false := by simpa using hl
    go_wp2_with fail
    refine (rEach_any s (by omega) _).mono ?_
    rintro e w2 ⟨a, cap, rfl, hlc, hcm, hrow, hb2⟩
    unfold maxLen at hcm
    have hmem : ∀ t ∈ eachV s, nd t ≤ 256 := fun t ht => each_nd ht
    have HMEM := Lib.hid hmem
    obtain ⟨l, hl9⟩ : ∃ l, eachV s = l := ⟨_, rfl⟩
    have HL := Lib.hid hl9
    rw [hl9] at hrow hlc ⊢
    clear hl9 hmem
    have hm2 := hm1.belowAll hb2
    have hr2 := hr1.belowAll hb2
    have hE2 := hE1.below hb2 hE1.size
    have hbw2 := hb1.trans (hb2.mono hb1.size)
    have hrow2 : IsR (· < w2.heap.size) w2 l a 0 := hrow.more fun g hg => hg.2
    have hsz2 : w.heap.size + 1 < w2.heap.size := by have := hb2.size; omega
    clear hm1 hr1 hE1 hb1 hb2 hrow hs1
    go_upto_region 4 with fail
    have hb3 := below_alloc w2 (.cells #[.slice a l.length cap] 24)
    have hm3 := hm2.belowAll hb3
    have hr3 := hr2.belowAll hb3
    have hw3 := B1.new w2 24 (.slice a l.length cap)
    have hE3 := hE2.below hb3 hE2.size
    have hbw3 := hbw2.trans (hb3.mono hbw2.size)
    have hrow3 := hrow2.below hb3
    have hsz3 : w2.heap.size < (w2.alloc (.cells #[.slice a l.length cap] 24)).heap.size := by simp
    clear hm2 hr2 hE2 hbw2 hrow2 hb3
    generalize w2.alloc (.cells #[.slice a l.length cap] 24) = w3 at *
    generalize w2.heap.size = wb at *
    go_wp2_with fail
    refine (Each_any s _).mono ?_
    rintro e w4 ⟨rfl, rfl⟩
    have hb4 := below_alloc w3 (.cells #[.string s] 9)
    have hst4 := B1.new w3 9 (.string s)
    have hm4 := hm3.belowAll hb4
    have hr4 := hr3.belowAll hb4
    have hw4 := hw3.belowAll hb4
    have hE4 := hE3.below hb4 hE3.size
    have hbw4 := hbw3.trans (hb4.mono hbw3.size)
    have hrow4 := hrow3.below (hb4.mono (by omega))
    have hsz4 : w3.heap.size < (w3.alloc (.cells #[.string s] 9)).heap.size := by simp
    clear hm3 hr3 hw3 hE3 hbw3 hrow3 hb4
    generalize w3.alloc (.cells #[.string s] 9) = w4 at *
    generalize w3.heap.size = bs at *
    have hfn := func_nil bs w4
    go_wp2_with fail
    have hb5 := below_alloc w4 (.cells #[.int .i64 0] 3)
    have ht5 := B1.new w4 3 (.int .i64 0)
    have hst5 : LnSt s many l a cap w wb bs w4.heap.size 0 [] (w4.alloc (.cells #[.int .i64 0] 3)).heap.size (w4.alloc (.cells #[.int .i64 0] 3)) :=
      ⟨hm4.belowAll hb5, hr4.belowAll hb5, hw4.belowAll hb5, hrow4.below (hb5.mono (by omega)), hst4.belowAll hb5, ht5, (fun k hk => by cases hk), hbw4.trans (hb5.mono hbw4.size), hE4.below hb5 hE4.size, hE.size, hsz2, hsz3, by simp; omega, by simp, hsz4, Nat.le_refl _⟩
    clear hm4 hr4 hw4 hrow4 hst4 ht5 hbw4 hE4 hb5 hfn
    obtain ⟨hi0, hhi0⟩ : ∃ hi0, (w4.alloc (.cells #[.int .i64 0] 3)).heap.size = hi0 := ⟨_, rfl⟩
    rw [hhi0] at hst5
    clear hhi0
    generalize w4.alloc (.cells #[.int .i64 0] 3) = w5 at *
    generalize w4.heap.size = tb0 at *
    refine wp_loop_rounds 3 ?_
    rw [rounds_succ]
    have t0 := hst5.tn.c
    go_wp2_with fail
    have hbn := below_alloc w5 (.cells #[.int .i64 0] 3)
    have hn6 := B1.new w5 3 (.int .i64 0)
    have hs6 := hst5.below (hbn.mono hst5.l6)
    have hhi := hst5.l6
    have hnl : w5.heap.size < (w5.alloc (.cells #[.int .i64 0] 3)).heap.size := by simp
    clear hbn hst5 t0
    generalize w5.alloc (.cells #[.int .i64 0] 3) = w6 at *
    generalize w5.heap.size = nb0 at *
    have hcs := hs6.str.c
    have hl3 := hs6.l3
    refine wp_turn (fun W => ∃ N : Nat, TEnd 0 many l.length N ∧ B1 W nb0 3 (.int .i64 (N : Int)) ∧ LnSt s many l a cap w wb bs tb0 0 (w6.heap.size :: []) (w6.heap.size + 1) W) ([{ target := .collected w6.heap.size, args := #[] }]) ?_ ?_
    · refine wpIn_wide.1 (wp_range2 (n := 4) (gf := 36) (lb := #[.pointer (some ⟨bs, 0, none⟩)]) rfl (enters_of Tryd.func36 (by kernel_rfl) rfl) (each_iter _ s (by omega) bs w6 hcs) (fun _ => rfl)
        (fun pre W => B1 W nb0 3 (.int .i64 (pre.length : Int)) ∧ LnSt s many l a cap w wb bs tb0 0 ([]) hi0 W ∧ TInv 0 many pre.length) (fun c pre W => c = .exit 2 ∧ B1 W nb0 3 (.int .i64 (pre.length : Int)) ∧ LnSt s many l a cap w wb bs tb0 0 ([]) hi0 W ∧ TStop 0 many pre.length) ?_ ?_ (fun _ _ h => h.2.1.env) ?_ ?_ ?_ ?_)
      · rintro pre W W' ⟨h1, h2, h3⟩ hg
        exact ⟨(hg.block _ h1.lt (fun e => by injection e; omega)).trans h1, h2.near (by omega) hg, h3⟩
      · rintro c pre W W' ⟨h0, h1, h2, h3⟩ hg
        exact ⟨h0, (hg.block _ h1.lt (fun e => by injection e; omega)).trans h1, h2.near (by omega) hg, h3⟩
      · intro W hg
        have hb : Below w6.heap.size w6 W := ⟨hg.os, hg.tape, hg.output, hg.size, fun k hk => hg.block k hk (by simp)⟩
        exact ⟨hn6.belowAll hb, hs6.below (hb.mono hs6.l6), fun _ => .inl rfl⟩
      · clear hn6 hs6 hcs
        rintro pre ⟨i, t, v⟩ W ⟨hn, hst, hti⟩ ⟨hi0, hpre, hv⟩ hWl hrec
        dsimp only at hi0 hv
        subst hi0
        obtain ⟨hlt, htl⟩ := pre_at HL.out hpre
        dsimp only at htl
        have hndt : nd t ≤ 256 := HMEM.out t (by rw [HL.out, ← htl]; exact List.getElem_mem _)
        clear hpre
        obtain ⟨kk2, nn2, aa2, len2, cap2, rfl⟩ := hv.form
        simp only [encE]
        gi_wp2
        refine ⟨World.grownBy_alloc W _ none, ?_⟩
        intro w2 hg2 hl2 hr2
        have hx2 : Bx w2 W.heap.size 26 (.int .i64 kk2) (.int .i64 nn2) (.slice aa2 len2 cap2) := (hg2.block W.heap.size (by simp) (fun e => by injection e; omega)).trans (Bx.new W 26 (.int .i64 kk2) (.int .i64 nn2) (.slice aa2 len2 cap2))
        have hn2 : B1 w2 nb0 3 (.int .i64 (pre.length : Int)) := (hg2.block nb0 (by have := hn.lt; simp; omega) (fun e => by injection e; omega)).trans (hn.alloc _)
        have hst2 : LnSt s many l a cap w wb bs tb0 0 ([]) hi0 w2 := (hst.below ((below_alloc W _).mono hst.l6)).near (by omega) hg2
        have hv2 : IsV (· < w2.heap.size) w2 t (.agg #[.int .i64 kk2, .int .i64 nn2, .slice aa2 len2 cap2]) := isV_round (hv.later (below_alloc W (.cells #[.int .i64 kk2, .int .i64 nn2, .slice aa2 len2 cap2] 26))) (by obtain ⟨r, hr⟩ := hrec; exact ⟨r, (Below.heap_alloc _ _ _ (lt_of_heap hr)).trans hr⟩) hr2 (fun g hg hne => hg2.block g hg (fun e => hne (by injection e))) hg2.size
        obtain ⟨ke, ne, le, ge, oe, ae, ce, hlj, hae, hge, e0, e1, e2, hte⟩ := hst2.row.at_ hlt
        rw [htl] at hlj
        have hle := hst2.l2
        have hle2 := hst2.l3
        have hle3 := hst2.l6
        have hve : IsV (· < w2.heap.size) w2 t (.agg #[.int .i64 ke, .int .i64 ne, .slice ae le.length ce]) := by rw [hlj]; exact hte.more fun g hg => by omega
        clear hn hst hg2 hv hte hlj htl hrec
        subst hae
        have n0 := fun d os => cell_regrown hn2.c d os
        have x0 := fun d os => cell_regrown hx2.c0 d os
        have x1 := fun d os => cell_regrown hx2.c1 d os
        have x2 := fun d os => cell_regrown hx2.c2 d os
        have v0 := fun d os => cell_regrown hst2.wt.c d os
        have y0 := fun d os => cell_regrown e0 d os
        have y1 := fun d os => cell_regrown e1 d os
        have y2 := fun d os => cell_regrown e2 d os
        have hd1 : decide (l.length ≤ pre.length) = false := by simpa using hlt
        have cS : ∀ d os, Calls Tryd.prog 12 #[.agg #[.int .i64 kk2, .int .i64 nn2, .slice aa2 len2 cap2], .agg #[.int .i64 ke, .int .i64 ne, .slice ae le.length ce]] (grow (redrawn w2 d) os) fun e w'' => e = .returned (.bool true) ∧ ∃ p : Regrown, w'' = grow (redrawn w2 p.d) p.os := fun d os => Calls.regrown_of (same_any hndt (hv2.later (below_regrown w2 d os)) (hve.later (below_regrown w2 d os)))
        gi_wp2
        refine round_quiet (C := fun w' => ∃ p : Regrown, w' = grow (redrawn w2 p.d) p.os) (by kernel_rfl) (by kernel_rfl) (by kernel_rfl) (by rintro ⟨_, _, h⟩; exact h) ⟨⟨w2.drawn + 1, #[]⟩, by rw [grow_empty]; rfl⟩ ?_
        repeat (quiet_step (exact cS _ _))
        refine wpQuiet_nil ?_
        intro _ hw'
        obtain ⟨⟨dq, osq⟩, hw''⟩ := hw'
        subst hw''
        have hb3 := below_regrown w2 dq osq
        clear n0 x0 x1 x2 v0 y0 y1 y2 cS e0 e1 e2 hv2 hve
        generalize grow (redrawn w2 dq) osq = w3 at *
        have hn3 := hn2.belowAll hb3
        have hst3 := hst2.below (hb3.mono hst2.l6)
        have n0 := hn3.c
        have nf := hn3.fz
        have t1 : (w3.setCell ⟨nb0, 0, none⟩ (.int .i64 ((pre.length : Int) + 1))).cell? ⟨tb0, 0, none⟩ = some (.int .i64 0) := (hst3.set (by omega) _).tn.c
        have m1 : (w3.setCell ⟨nb0, 0, none⟩ (.int .i64 ((pre.length : Int) + 1))).cell? ⟨w.heap.size, 0, none⟩ = some (.int .i64 many) := (hst3.set (by omega) _).m.c
        have n1 : (w3.setCell ⟨nb0, 0, none⟩ (.int .i64 ((pre.length : Int) + 1))).cell? ⟨nb0, 0, none⟩ = some (.int .i64 ((pre.length : Int) + 1)) := (hn3.set _).c
        by_cases hmm : many ≤ (pre.length : Int) + 1
        · have hd2 : decide (many ≤ (pre.length : Int) + 1) = true := by simpa using hmm
          gi_wp2
          refine ⟨⟨?_, ?_⟩, rfl, ?_, ?_, ?_⟩
          · rw [Below.heap_setCell _ _ _ _ (by simp; omega)]
            exact hb3.block _ hl2
          · rw [Below.heap_setCell _ _ _ _ (by simp; omega)]
            exact hb3.block _ (by omega)
          · have hl9 : ((pre ++ [(pre.length, t, Value.agg #[.int .i64 kk2, .int .i64 nn2, .slice aa2 len2 cap2])]).length : Int) = (pre.length : Int) + 1 := by simp
            rw [hl9]
            exact hn3.set _
          · exact hst3.set (by omega) _
          · have hl9 : (pre ++ [(pre.length, t, Value.agg #[.int .i64 kk2, .int .i64 nn2, .slice aa2 len2 cap2])]).length = pre.length + 1 := by simp
            rw [hl9]
            refine ⟨rfl, by omega, by omega, ?_⟩
            rcases hti rfl with h | h <;> omega
        · have hd2 : decide (many ≤ (pre.length : Int) + 1) = false := by simpa using hmm
          gi_wp2
          refine ⟨⟨?_, ?_⟩, ?_, ?_, ?_⟩
          · rw [Below.heap_setCell _ _ _ _ (by simp; omega)]
            exact hb3.block _ hl2
          · rw [Below.heap_setCell _ _ _ _ (by simp; omega)]
            exact hb3.block _ (by omega)
          · have hl9 : ((pre ++ [(pre.length, t, Value.agg #[.int .i64 kk2, .int .i64 nn2, .slice aa2 len2 cap2])]).length : Int) = (pre.length : Int) + 1 := by simp
            rw [hl9]
            exact hn3.set _
          · exact hst3.set (by omega) _
          · have hl9 : (pre ++ [(pre.length, t, Value.agg #[.int .i64 kk2, .int .i64 nn2, .slice aa2 len2 cap2])]).length = pre.length + 1 := by simp
            rw [hl9]
            exact fun _ => .inr (by omega)
      · rintro xs W hS ⟨hn, hst, hti⟩ hD
        have hxl : xs.length = l.length := by have := congrArg List.length hS; rw [HL.out] at this; simpa using this
        exact ⟨.inl rfl, rfl, xs.length, by rw [hxl] at hti ⊢; exact t_done hti, hn, hst.more (by omega) hD⟩
      · rintro c pre W hSp ⟨rfl, hn, hst, hts⟩ hD
        have hpl : pre.length ≤ l.length := by have := List.IsPrefix.length_le hSp; rw [HL.out] at this; simpa using this
        exact wpIn_exit ⟨.inr rfl, rfl, pre.length, t_stop hts hpl, hn, hst.more (by omega) hD⟩
    have hdz : w.heap.size + 1 < w6.heap.size := by have := hs6.l1; have := hs6.l2; have := hs6.l6; omega
    clear hn6 hs6 hcs
    rintro W ⟨N, hN, hn7, hst7⟩
    simp only [Exit.then]
    have t0 := hst7.tn.c
    have m0 := hst7.m.c
    have n0 := hn7.c
    have v0 := hst7.wt.c
    have hd3 : ((N : Int) != min (l.length : Int) (max 1 many)) = false := by simpa using hN.1 rfl
    go_wp2_with fail
    have hst9 := hst7.next 1
    obtain ⟨hi1, hhi1⟩ : ∃ hi1, W.heap.size + 1 = hi1 := ⟨_, rfl⟩
    rw [hhi1] at hst9
    clear hhi1 t0 m0 n0 v0 hd3 hst7 hn7 hN hl3 hhi hnl
    generalize W.alloc (.cells #[.int .i64 1] 3) = w7 at *
    generalize W.heap.size = tb1 at *
    generalize w6.heap.size = d0 at *
    rw [rounds_succ]
    have t0 := hst9.tn.c
    go_wp2_with fail
    have hbn := below_alloc w7 (.cells #[.int .i64 0] 3)
    have hn6 := B1.new w7 3 (.int .i64 0)
    have hs6 := hst9.below (hbn.mono hst9.l6)
    have hhi := hst9.l6
    have hnl : w7.heap.size < (w7.alloc (.cells #[.int .i64 0] 3)).heap.size := by simp
    clear hbn hst9 t0
    generalize w7.alloc (.cells #[.int .i64 0] 3) = w8 at *
    generalize w7.heap.size = nb1 at *
    have hcs := hs6.str.c
    have hl3 := hs6.l3
    refine wp_turn (fun W => ∃ N : Nat, TEnd 1 many l.length N ∧ B1 W nb1 3 (.int .i64 (N : Int)) ∧ LnSt s many l a cap w wb bs tb1 1 (w8.heap.size :: [d0]) (w8.heap.size + 1) W) ([{ target := .collected w8.heap.size, args := #[] }, { target := .collected d0, args := #[] }]) ?_ ?_
    · refine wpIn_wide.1 (wp_range2 (n := 4) (gf := 36) (lb := #[.pointer (some ⟨bs, 0, none⟩)]) rfl (enters_of Tryd.func36 (by kernel_rfl) rfl) (each_iter _ s (by omega) bs w8 hcs) (fun _ => rfl)
        (fun pre W => B1 W nb1 3 (.int .i64 (pre.length : Int)) ∧ LnSt s many l a cap w wb bs tb1 1 ([d0]) hi1 W ∧ TInv 1 many pre.length) (fun c pre W => c = .exit 2 ∧ B1 W nb1 3 (.int .i64 (pre.length : Int)) ∧ LnSt s many l a cap w wb bs tb1 1 ([d0]) hi1 W ∧ TStop 1 many pre.length) ?_ ?_ (fun _ _ h => h.2.1.env) ?_ ?_ ?_ ?_)
      · rintro pre W W' ⟨h1, h2, h3⟩ hg
        exact ⟨(hg.block _ h1.lt (fun e => by injection e; omega)).trans h1, h2.near (by omega) hg, h3⟩
      · rintro c pre W W' ⟨h0, h1, h2, h3⟩ hg
        exact ⟨h0, (hg.block _ h1.lt (fun e => by injection e; omega)).trans h1, h2.near (by omega) hg, h3⟩
      · intro W hg
        have hb : Below w8.heap.size w8 W := ⟨hg.os, hg.tape, hg.output, hg.size, fun k hk => hg.block k hk (by simp)⟩
        exact ⟨hn6.belowAll hb, hs6.below (hb.mono hs6.l6), fun _ => .inl rfl⟩
      · clear hn6 hs6 hcs
        rintro pre ⟨i, t, v⟩ W ⟨hn, hst, hti⟩ ⟨hi0, hpre, hv⟩ hWl hrec
        dsimp only at hi0 hv
        subst hi0
        obtain ⟨hlt, htl⟩ := pre_at HL.out hpre
        dsimp only at htl
        have hndt : nd t ≤ 256 := HMEM.out t (by rw [HL.out, ← htl]; exact List.getElem_mem _)
        clear hpre
        obtain ⟨kk2, nn2, aa2, len2, cap2, rfl⟩ := hv.form
        simp only [encE]
        gi_wp2
        refine ⟨World.grownBy_alloc W _ none, ?_⟩
        intro w2 hg2 hl2 hr2
        have hx2 : Bx w2 W.heap.size 26 (.int .i64 kk2) (.int .i64 nn2) (.slice aa2 len2 cap2) := (hg2.block W.heap.size (by simp) (fun e => by injection e; omega)).trans (Bx.new W 26 (.int .i64 kk2) (.int .i64 nn2) (.slice aa2 len2 cap2))
        have hn2 : B1 w2 nb1 3 (.int .i64 (pre.length : Int)) := (hg2.block nb1 (by have := hn.lt; simp; omega) (fun e => by injection e; omega)).trans (hn.alloc _)
        have hst2 : LnSt s many l a cap w wb bs tb1 1 ([d0]) hi1 w2 := (hst.below ((below_alloc W _).mono hst.l6)).near (by omega) hg2
        have hv2 : IsV (· < w2.heap.size) w2 t (.agg #[.int .i64 kk2, .int .i64 nn2, .slice aa2 len2 cap2]) := isV_round (hv.later (below_alloc W (.cells #[.int .i64 kk2, .int .i64 nn2, .slice aa2 len2 cap2] 26))) (by obtain ⟨r, hr⟩ := hrec; exact ⟨r, (Below.heap_alloc _ _ _ (lt_of_heap hr)).trans hr⟩) hr2 (fun g hg hne => hg2.block g hg (fun e => hne (by injection e))) hg2.size
        obtain ⟨ke, ne, le, ge, oe, ae, ce, hlj, hae, hge, e0, e1, e2, hte⟩ := hst2.row.at_ hlt
        rw [htl] at hlj
        have hle := hst2.l2
        have hle2 := hst2.l3
        have hle3 := hst2.l6
        have hve : IsV (· < w2.heap.size) w2 t (.agg #[.int .i64 ke, .int .i64 ne, .slice ae le.length ce]) := by rw [hlj]; exact hte.more fun g hg => by omega
        clear hn hst hg2 hv hte hlj htl hrec
        subst hae
        have n0 := fun d os => cell_regrown hn2.c d os
        have x0 := fun d os => cell_regrown hx2.c0 d os
        have x1 := fun d os => cell_regrown hx2.c1 d os
        have x2 := fun d os => cell_regrown hx2.c2 d os
        have v0 := fun d os => cell_regrown hst2.wt.c d os
        have y0 := fun d os => cell_regrown e0 d os
        have y1 := fun d os => cell_regrown e1 d os
        have y2 := fun d os => cell_regrown e2 d os
        have hd1 : decide (l.length ≤ pre.length) = false := by simpa using hlt
        have cS : ∀ d os, Calls Tryd.prog 12 #[.agg #[.int .i64 kk2, .int .i64 nn2, .slice aa2 len2 cap2], .agg #[.int .i64 ke, .int .i64 ne, .slice ae le.length ce]] (grow (redrawn w2 d) os) fun e w'' => e = .returned (.bool true) ∧ ∃ p : Regrown, w'' = grow (redrawn w2 p.d) p.os := fun d os => Calls.regrown_of (same_any hndt (hv2.later (below_regrown w2 d os)) (hve.later (below_regrown w2 d os)))
        gi_wp2
        refine round_quiet (C := fun w' => ∃ p : Regrown, w' = grow (redrawn w2 p.d) p.os) (by kernel_rfl) (by kernel_rfl) (by kernel_rfl) (by rintro ⟨_, _, h⟩; exact h) ⟨⟨w2.drawn + 1, #[]⟩, by rw [grow_empty]; rfl⟩ ?_
        repeat (quiet_step (exact cS _ _))
        refine wpQuiet_nil ?_
        intro _ hw'
        obtain ⟨⟨dq, osq⟩, hw''⟩ := hw'
        subst hw''
        have hb3 := below_regrown w2 dq osq
        clear n0 x0 x1 x2 v0 y0 y1 y2 cS e0 e1 e2 hv2 hve
        generalize grow (redrawn w2 dq) osq = w3 at *
        have hn3 := hn2.belowAll hb3
        have hst3 := hst2.below (hb3.mono hst2.l6)
        have n0 := hn3.c
        have nf := hn3.fz
        have t1 : (w3.setCell ⟨nb1, 0, none⟩ (.int .i64 ((pre.length : Int) + 1))).cell? ⟨tb1, 0, none⟩ = some (.int .i64 1) := (hst3.set (by omega) _).tn.c
        have m1 : (w3.setCell ⟨nb1, 0, none⟩ (.int .i64 ((pre.length : Int) + 1))).cell? ⟨w.heap.size, 0, none⟩ = some (.int .i64 many) := (hst3.set (by omega) _).m.c
        have n1 : (w3.setCell ⟨nb1, 0, none⟩ (.int .i64 ((pre.length : Int) + 1))).cell? ⟨nb1, 0, none⟩ = some (.int .i64 ((pre.length : Int) + 1)) := (hn3.set _).c
        gi_wp2
        refine ⟨⟨?_, ?_⟩, ?_, ?_, ?_⟩
        · rw [Below.heap_setCell _ _ _ _ (by simp; omega)]
          exact hb3.block _ hl2
        · rw [Below.heap_setCell _ _ _ _ (by simp; omega)]
          exact hb3.block _ (by omega)
        · have hl9 : ((pre ++ [(pre.length, t, Value.agg #[.int .i64 kk2, .int .i64 nn2, .slice aa2 len2 cap2])]).length : Int) = (pre.length : Int) + 1 := by simp
          rw [hl9]
          exact hn3.set _
        · exact hst3.set (by omega) _
        · have hl9 : (pre ++ [(pre.length, t, Value.agg #[.int .i64 kk2, .int .i64 nn2, .slice aa2 len2 cap2])]).length = pre.length + 1 := by simp
          rw [hl9]
          exact fun h => absurd h (by decide)
      · rintro xs W hS ⟨hn, hst, hti⟩ hD
        have hxl : xs.length = l.length := by have := congrArg List.length hS; rw [HL.out] at this; simpa using this
        exact ⟨.inl rfl, rfl, xs.length, by rw [hxl] at hti ⊢; exact t_done hti, hn, hst.more (by omega) hD⟩
      · rintro c pre W hSp ⟨rfl, hn, hst, hts⟩ hD
        have hpl : pre.length ≤ l.length := by have := List.IsPrefix.length_le hSp; rw [HL.out] at this; simpa using this
        exact wpIn_exit ⟨.inr rfl, rfl, pre.length, t_stop hts hpl, hn, hst.more (by omega) hD⟩
    have hdd : d0 < w8.heap.size := by have := (hs6.dd d0 (by simp)).1; have := hs6.l6; omega
    clear hn6 hs6 hcs
    rintro W ⟨N, hN, hn7, hst7⟩
    simp only [Exit.then]
    have t0 := hst7.tn.c
    have m0 := hst7.m.c
    have n0 := hn7.c
    have v0 := hst7.wt.c
    obtain rfl := hN.2 rfl
    go_wp2_with fail
    have hst9 := hst7.next 2
    clear t0 m0 n0 v0 hst7 hn7 hN hl3 hhi hnl
    generalize W.alloc (.cells #[.int .i64 2] 3) = w9 at *
    generalize W.heap.size = tb2 at *
    generalize w8.heap.size = d1 at *
    rw [rounds_succ]
    have t0 := hst9.tn.c
    go_wp2_with fail
    refine (works_any _ hst9.env).mono ?_
    rintro e w10 ⟨rfl, hb10⟩
    have hst10 := hst9.below (hb10.mono hst9.l6)
    clear hst9 hb10 t0
    have r0 := hst10.r.c
    have rf := hst10.r.fz
    have e1 := (hst10.dd d1 (by simp)).2
    have e0 := (hst10.dd d0 (by simp)).2
    go_wp2_with fail
    have f1 : (w10.setCell ⟨w.heap.size + 1, 0, none⟩ (.bool true)).heap[d1]? = some (.deferred (some [])) := (Below.heap_setCell _ _ _ _ (by simp; omega)).trans e1
    have f0 : (w10.setCell ⟨w.heap.size + 1, 0, none⟩ (.bool true)).heap[d0]? = some (.deferred (some [])) := (Below.heap_setCell _ _ _ _ (by simp; omega)).trans e0
    have g0 : ((w10.setCell ⟨w.heap.size + 1, 0, none⟩ (.bool true)).putObj d1 (.deferred none)).heap[d0]? = some (.deferred (some [])) := (World.putObj_heap_other (by omega)).trans f0
    have hr11 : B1 (((w10.setCell ⟨w.heap.size + 1, 0, none⟩ (.bool true)).putObj d1 (.deferred none)).putObj d0 (.deferred none)) (w.heap.size + 1) 4 (.bool true) := (World.putObj_heap_other (by omega)).trans ((World.putObj_heap_other (by omega)).trans (hst10.r.set _))
    refine ⟨by simp, .inl ⟨_, _, rfl, run_takeDeferred f1, by simp, .inl ⟨_, _, rfl, run_takeDeferred g0, ?_⟩⟩⟩
    exact ⟨.bool true, by simp [results, Tryd.results4, go_sem, hr11.c], rfl, ((hst10.b.setCell (p := ⟨w.heap.size + 1, 0, none⟩) (by simp) _).trans (belowK_b (w := w) (Nat.le_refl _) _ _ _ _ (by omega) f1 rfl rfl)).trans (belowK_b (w := w) (Nat.le_refl _) _ _ _ _ (by omega) g0 rfl rfl)⟩
end Go.Proofs.YtkahboomahhdoaaDoor
namespace Go.Proofs.YtkahboomahhdoaaDoor.valtextLines
open Go.ChangeShapes Go.WideShapes Go.ChangeAt Go.RowKit
open Go.ChangeMaps (open_string shut_string)

set_option maxRecDepth 100000 in
theorem contract (H : Type) (enc : TypeId × Value → H) (W : World) (base : Nat) (args : Array Value) (ds gs : List (DataW H)) (before : List MemPlace)
    (hval : ∀ (j : Nat) t v, Tryd.f4.params[j]? = some t → args[j]? = some v → Value.okWide Tryd.prog W .any base t v)
    (hW : DataW.Whole enc Tryd.prog Tryd.f4.params.toList Rows.valtextLinesSpec.vars false W args.toList ds gs before) (hL : laidMetH Tryd.prog Rows.valtextLinesRow.laid W) (hsh : W.ShapedOpen Tryd.prog) :
    Calls Tryd.prog 4 args W fun e W' => ∃ v, e = .returned v ∧ Rows.valtextLinesSpec.post enc Tryd.prog Tryd.f4 false true false false W args v W' := by
  have hW' := hW
  obtain ⟨p, q, hA0, hV, rfl, hfz, hnd⟩ := hW
  have hA : DataW.TrodAll enc Tryd.prog W 0 (fun _ => true) true Tryd.f4.params.toList args.toList ds p := hA0
  rw [Tryd.params4] at hA hval
  obtain ⟨v0, vs0, d0, ds0, p0, q0, hargs, rfl, rfl, h0, r0⟩ := trodAll_cons hA
  obtain ⟨v1, vs1, d1, ds1, p1, q1, hargs1, rfl, rfl, h1, r1⟩ := trodAll_cons r0
  obtain ⟨rfl, rfl, rfl⟩ := trodAll_nil r1
  obtain rfl : args = #[v0, v1] := Array.toList_inj.1 (by rw [hargs, hargs1])
  obtain ⟨rfl, rfl⟩ := trodVars_none hV
  obtain ⟨s, rfl, rfl, rfl, hs⟩ := open_string Tryd.underlying9 (hval 0 9 v0 rfl rfl) h0
  obtain ⟨k, rfl, rfl, rfl, wk⟩ := open_int Tryd.underlying3 (hval 1 3 v1 rfl rfl) h1
  clear hA0
  simp only [List.append_nil] at hW'
  have hL2 : laidMetH Tryd.prog [("math/bits.deBruijn32tab", Rows.laid_math_bits_deBruijn32tab), ("math/bits.deBruijn64tab", Rows.laid_math_bits_deBruijn64tab), ("internal/strconv.uint64pow10", Rows.laid_internal_strconv_uint64pow10), ("betrothal/valtext.words", Rows.laid_betrothal_valtext_words)] W := hL
  refine (lines_law s hs k W (env_of hL2 hsh)).mono fun e W' ⟨he, hb⟩ => ?_
  subst he
  exact ⟨_, rfl, post_below (pa := []) (pv := []) hW' (fun _ _ _ => trodAll_cons_mk (shut_bool Tryd.underlying4 _) trodAll_mk0) (fun _ _ => trodAll_cons_mk (shut_string Tryd.underlying9 hs) (trodAll_cons_mk (shut_int Tryd.underlying3 wk) trodAll_mk0)) (fun _ _ => rfl) rfl
    hb (ok_one (by kernel_rfl) rfl (okWide_bool_mk Tryd.underlying4 _))⟩

theorem laid_met (os : Os) (args : Array Value) : laidMet Tryd.prog Rows.valtextLinesRow.laid ((World.laidAll Tryd.prog os Rows.valtextLinesRow.laid).forCall (fun _ _ => 0) ⟨#[], args, []⟩).memory :=
  laidMet_laidAll args (by kernel_rfl) (by kernel_rfl)
theorem reads (os : Os) {H : Type} (enc : TypeId × Value → H) : ∃ places, DataW.whole enc Tryd.prog ((World.laidAll Tryd.prog os Rows.valtextLinesRow.laid).forCall (fun _ _ => 0) ⟨#[], #[.string ⟨#[]⟩, .int .i64 0], []⟩).memory Tryd.f4.params.toList Rows.valtextLinesSpec.vars false #[Value.string ⟨#[]⟩, .int .i64 0].toList 8 = some ([.lit (.string []), .lit (.int .i64 0)], [], places) :=
  ⟨[], by kernel_rfl⟩

set_option maxRecDepth 100000 in
theorem lifted (os : Os) (started : os.Started) (H : Type) (enc : TypeId × Value → H) (F : Stop.Interp) :
    ReturnsInHanded {} Tryd.checked os 4 .any ((OpenSpec.ofChange Rows.valtextLinesSpec).preRow enc Tryd.prog Tryd.f4 Rows.valtextLinesRow.domain false Rows.valtextLinesRow.laid) (((OpenSpec.ofChange Rows.valtextLinesSpec).at F).post enc Tryd.prog Tryd.f4 false true false false) := by
  obtain ⟨places, hx⟩ := reads os enc
  refine returnsInHanded_of_row (C := Tryd.checked) (s := OpenSpec.ofChange Rows.valtextLinesSpec) own started (by kernel_rfl) Tryd.func4
    (witness_row_at (enc := enc) (C := Tryd.checked) false (World.laidAll Tryd.prog os Rows.valtextLinesRow.laid) #[.string ⟨#[]⟩, .int .i64 0] (World.laidAll_os _ _ _) (by kernel_rfl) (by kernel_rfl) (by kernel_rfl)
      (OpenSpec.preRow_of_cond 8 hx (by kernel_rfl) (fun k hk => by cases hk) (by kernel_rfl) (laid_met os _))) ?_
  intro W base args ds gs before hval hW _ _ _ hL hsh _
  exact contract H enc W base args ds gs before hval hW hL hsh

theorem said : Rows.ValtextLinesSaid :=
  OpenClaim.holds_of_cond 4 Tryd.f4 rfl rfl rfl rfl rfl rfl rfl ⟨rfl, rfl, rfl, rfl, rfl⟩ rfl rfl rfl rfl rfl (by kernel_rfl) Tryd.func4 (by kernel_rfl)
    (of_decide_eq_true (by kernel_rfl)) (by unfold Func.isWrapper; first | (rw [if_pos (by decide +kernel)]; kernel_rfl) | (rw [if_neg (by decide +kernel)]; exact ⟨rfl, rfl⟩))
    (fun os started H enc _ F => by rw [OpenClaim.pre_eq_preRow]; exact lifted os started H enc F)

theorem plain (f : FuncId) (fn : Func) (hf : Tryd.pinned.checked.prog.funcNamed "betrothal/betrothallaw05.ValtextLines" = some f) (hfn : Tryd.pinned.checked.prog.funcs[f]? = some fn) :
    true = Tryd.pinned.checked.prog.looks [] ∧ ∀ (j : Nat) t, fn.params[j]? = some t → Tryd.pinned.checked.prog.wantsStandIn t = false := by
  obtain rfl : f = 4 := Option.some.inj ((show Tryd.prog.funcNamed "betrothal/betrothallaw05.ValtextLines" = some 4 by kernel_rfl).symm.trans hf) |>.symm
  obtain rfl : fn = Tryd.f4 := (Option.some.inj (Tryd.func4.symm.trans hfn)).symm
  refine ⟨by kernel_rfl, fun j t ht => ?_⟩
  rw [Tryd.params4] at ht
  have hm : t = 9 ∨ t = 3 := by simpa using Array.mem_of_getElem? ht
  rcases hm with rfl | rfl
  · exact (show Tryd.prog.wantsStandIn 9 = false by kernel_rfl)
  · exact (show Tryd.prog.wantsStandIn 3 = false by kernel_rfl)

theorem card : Rows.ValtextLinesCardSaid :=
  Claim7.holds_tied_plain_at .later [] _ _ _ _ said (fun _ h => by cases h) (by kernel_rfl) (fun _ h => by cases h) valtextLines_row_tie rfl ⟨rfl, rfl⟩ (by kernel_rfl) rfl plain (by kernel_rfl)
end Go.Proofs.YtkahboomahhdoaaDoor.valtextLines
namespace Go.Proofs.YtkahboomahhdoaaDoor
theorem valtextLines_holds : Rows.ValtextLinesCardSaid := valtextLines.card
end Go.Proofs.YtkahboomahhdoaaDoor
#print axioms Go.Proofs.YtkahboomahhdoaaDoor.valtextLines_holds
