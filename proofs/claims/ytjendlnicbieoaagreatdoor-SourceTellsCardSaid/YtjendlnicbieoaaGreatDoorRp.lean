/-
  A range over a function that keeps cells of its own between its rounds: the caller's invariant speaks of the blocks that lay before the loop. At the wide fence.
-/
import Derived.Test.YtjendlnicbieoaaGreatDoorRf
import Derived.Test.YtjendlnicbieoaaGreatDoorFunA
namespace Go.Proofs.YtjendlnicbieoaaGreatDoor
open Go.RowKit

/-- An iterator's contract: it may turn what it laid itself; a round turns none of that. -/
def IterP {α : Type} (P : Program) (m gf : Nat) (lb : Array Value) (encs : α → Array Value) (G : List α → α → World → Prop) (S Sp : List α → Prop) (E : World → Prop) (w : World) : Prop :=
  ∀ (l : Nat) (J Jx : List α → World → Prop) (W : World), w.heap.size ≤ W.heap.size → (∀ pre W1 W2, J pre W1 → Fr (fun k => W.heap.size ≤ k) W1 W2 → J pre W2) → (∀ pre W1 W2, Jx pre W1 → Fr (fun k => W.heap.size ≤ k) W1 W2 → Jx pre W2) → (∀ pre W, J pre W → E W) →
    (∀ pre x W1, J pre W1 → G pre x W1 → W.heap.size ≤ W1.heap.size → YieldAt Fence.wide (m - 1) P l (encs x) W1 fun e W' => ((e = .returned (.bool true) ∧ J (pre ++ [x]) W') ∨ (e = .returned (.bool false) ∧ Jx (pre ++ [x]) W')) ∧ Fr (fun k => k < W.heap.size) W1 W') →
    J [] W → CallsIn Fence.wide m P gf (#[.func (.yield l) #[] #[]] ++ lb) W fun e W' => (∃ v, e = .returned v) ∧ ((∃ xs, S xs ∧ J xs W') ∨ (∃ pre, Sp pre ∧ Jx pre W'))

/-- How the body of a round may be left; b: the block of the deferred calls. -/
def RPostP {α : Type} (b : Nat) (I : List α → World → Prop) (Ix : Code → List α → World → Prop) (xs : List α) (W : World) : Exit → Act → World → Prop
  | .normal, _, W' => Fr (fun k => k < b) W W' ∧ I xs W'
  | .ret, _, W' => Fr (fun k => k < b) W W' ∧ Ix .ret xs W'
  | .exit id, _, W' => Fr (fun k => k < b) W W' ∧ Ix (.exit id) xs W'
  | _, _, _ => False
theorem Fr.putObj {S : Nat → Prop} {w : World} {k : Nat} (hk : S k) (o : Obj) : Fr S w (w.putObj k o) :=
  have h := grownBy_putObj' w k o
  ⟨h.os, h.tape, h.output, h.size, fun j hj hS => h.block j hj fun e => hS (by injection e with e; rw [e]; exact hk)⟩
section
variable {P : Program} {n : Nat} {α : Type} {g : Operand} {ps : Array Tmp} {assign body : Code} {Q : Exit → Act → World → Prop} {a : Act} {w : World}
theorem wp_rangeP {gf : Nat} {lb : Array Value} (hg : a.eval g = .func (.func gf) #[] lb) (eg : ∀ args w, (callFunc gf args).run P w = .ok (.enter gf args) w)
    {encs : α → Array Value} {G : List α → α → World → Prop} {S Sp : List α → Prop} {E : World → Prop} (hseq : IterP P (n - 1) gf lb encs G S Sp E w) (hps : ∀ x, (encs x).size = ps.size)
    (I : List α → World → Prop) (Ix : Code → List α → World → Prop) (hI : ∀ pre W W', I pre W → Fr (fun k => w.heap.size ≤ k) W W' → I pre W') (hIx : ∀ c pre W W', Ix c pre W → Fr (fun k => w.heap.size ≤ k) W W' → Ix c pre W')
    (hIE : ∀ pre W, I pre W → E W) (h0 : ∀ W, w.grownBy W none → I [] W)
    (hround : ∀ pre x W, I pre W → G pre x W → w.heap.size + 1 < W.heap.size → assign.wpIn (Fence.wide.inRound (w.heap.size + 1)) (n - 1 - 1) P (Exit.then (fun a₁ w₁ => W.grownBy w₁ none ∧ ∀ w₂, w₁.grownBy w₂ (some (w.heap.size + 1)) → w.heap.size + 1 < w₂.heap.size → (∃ r, w₂.heap[w.heap.size + 1]? = some (.loop r)) →
      body.wpIn (Fence.wide.inRound (w.heap.size + 1)) (n - 1 - 1) P (RPostP w.heap.size I Ix (pre ++ [x]) w₂) a₁ w₂) (fun _ _ _ => False)) { tmps := (ps.zip (encs x)).foldl (fun t (p, v) => t.setIfInBounds p v) a.tmps, defers := [] } W)
    (hdone : ∀ (xs : List α) (W : World), S xs → I xs W → W.heap[w.heap.size]? = some (.deferred (some [])) → Q .normal { a with defers := { target := .collected w.heap.size, args := #[] } :: a.defers } W)
    (hstop : ∀ (c : Code) (pre : List α) (W : World), Sp pre → Ix c pre W → W.heap[w.heap.size]? = some (.deferred (some [])) → c.wpIn Fence.wide n P Q { a with defers := { target := .collected w.heap.size, args := #[] } :: a.defers } W) :
    (Code.rangeFunc g ps assign body).wpIn Fence.wide n P Q a w := by
  obtain ⟨b, hb⟩ : ∃ b, w.heap.size = b := ⟨_, rfl⟩
  rw [hb] at hI hIx hround hdone hstop
  refine wpIn_rangeFunc fun fn hfn => ?_
  -- the loop's record, in whatever state
  let rc : LoopState → Option Code → Obj := fun st pe => .loop { state := st, pending := pe, fn, tmps := a.tmps, params := ps, assign, body, defers := b }
  have hW1 : ∃ W1, (w.alloc (.deferred (some []))).alloc (rc .ready none) = W1 ∧ W1.heap[b + 1]? = some (rc .ready none) ∧ W1.heap[b]? = some (.deferred (some [])) ∧ w.grownBy W1 none ∧ Below w.heap.size w W1 := by
    refine ⟨_, rfl, ?_, ?_, ?_, ?_⟩
    · have h := World.alloc_heap_new (w.alloc (.deferred (some []))) (rc .ready none)
      rwa [World.size_alloc, hb] at h
    · rw [Below.heap_alloc _ _ _ (by simp; omega)]
      have h := World.alloc_heap_new w (.deferred (some []))
      rwa [hb] at h
    · exact ⟨rfl, rfl, rfl, by simp; omega, fun k hk _ => by rw [Below.heap_alloc _ _ _ (by simp; omega), Below.heap_alloc _ _ _ hk]⟩
    · exact ⟨rfl, rfl, rfl, by simp; omega, fun k hk => by rw [Below.heap_alloc _ _ _ (by simp; omega), Below.heap_alloc _ _ _ hk]⟩
  obtain ⟨W1, e1, hl1, hd1, hg1, hb1⟩ := hW1
  have hle : b + 1 < W1.heap.size := (Array.getElem?_eq_some_iff.1 hl1).1
  refine ⟨b + 1, [{ target := .collected b, args := #[] }], W1, { target := .fn (.func gf) lb, args := #[.func (.yield (b + 1)) #[] #[]] }, W1, gf, #[.func (.yield (b + 1)) #[] #[]] ++ lb, W1, ?_, ?_, fun _ _ => trivial, ?_, fun h => absurd h (by decide), ?_⟩
  · rw [← e1]
    have h := run_enterLoop_outer (P := P) (w := w) fn a.tmps ps assign body
    rw [hb] at h
    exact h
  · simp only [resolve, hg]
    simp [go_sem]
  · simp [invoke, go_sem, eg]
  -- the iterator, over the caller's invariant and the two blocks of the loop
  refine (hseq (b + 1) (fun pre W => I pre W ∧ W.heap[b + 1]? = some (rc .ready none) ∧ W.heap[b]? = some (.deferred (some [])))
    (fun pre W => ∃ c, Ix c pre W ∧ W.heap[b + 1]? = some (rc .done (some c)) ∧ W.heap[b]? = some (.deferred (some []))) W1 hb1.size ?_ ?_ (fun pre W h => hIE pre W h.1) ?_ ⟨h0 W1 hg1, hl1, hd1⟩).mono ?_
  · rintro pre A B ⟨hi, hl, hd⟩ hAB
    exact ⟨hI pre A B hi (hAB.more fun k _ h => by omega), (hAB.block _ (Array.getElem?_eq_some_iff.1 hl).1 (by omega)).trans hl, (hAB.block _ (Array.getElem?_eq_some_iff.1 hd).1 (by omega)).trans hd⟩
  · rintro pre A B ⟨c, hi, hl, hd⟩ hAB
    exact ⟨c, hIx c pre A B hi (hAB.more fun k _ h => by omega), (hAB.block _ (Array.getElem?_eq_some_iff.1 hl).1 (by omega)).trans hl, (hAB.block _ (Array.getElem?_eq_some_iff.1 hd).1 (by omega)).trans hd⟩
  · rintro pre x W ⟨hi, hl, hd⟩ hG hWW
    refine ⟨fn, _, assign, body, run_yield (P := P) (args := encs x) hl (hps x), roundIn_of_wpIn hfn (wpIn_mono (hround pre x W hi hG (Array.getElem?_eq_some_iff.1 hl).1) ?_)⟩
    intro e a1 w1 he
    cases e with
    | normal =>
      obtain ⟨hg, hbody⟩ := he
      have hlw := grown_lt hg hl (by simp)
      have hdw := grown_lt hg hd (by simp)
      have hlt : b + 1 < w1.heap.size := (Array.getElem?_eq_some_iff.1 hlw).1
      refine ⟨_, run_beginRound hlw rfl, ?_⟩
      have hl2 : (w1.putObj (b + 1) (rc .busy none)).heap[b + 1]? = some (rc .busy none) := World.putObj_heap_same hlt
      have hd2 : (w1.putObj (b + 1) (rc .busy none)).heap[b]? = some (.deferred (some [])) := (World.putObj_heap_other (by omega)).trans hdw
      have hf12 : Fr (fun k => k < W1.heap.size) W (w1.putObj (b + 1) (rc .busy none)) := (Fr.grown hg fun g hg => by cases hg).same (Fr.putObj (S := fun k => k < W1.heap.size) hle _)
      refine wpIn_mono (hbody (w1.putObj (b + 1) (rc .busy none)) (grownBy_putObj' _ _ _) (by simpa using hlt) ⟨_, hl2⟩) ?_
      have hlt2 : b + 1 < (w1.putObj (b + 1) (rc .busy none)).heap.size := by simpa using hlt
      have fin : ∀ (j : Option Code) (W3 : World), Fr (fun k => k < b) (w1.putObj (b + 1) (rc .busy none)) W3 →
          (Instr.endRound (b + 1) j).run P W3 = .ok (.bool j.isNone) (W3.putObj (b + 1) (rc (if j.isNone then .ready else .done) j)) ∧ (W3.putObj (b + 1) (rc (if j.isNone then .ready else .done) j)).heap[b + 1]? = some (rc (if j.isNone then .ready else .done) j) ∧
          (W3.putObj (b + 1) (rc (if j.isNone then .ready else .done) j)).heap[b]? = some (.deferred (some [])) ∧ Fr (fun k => k < W1.heap.size) W (W3.putObj (b + 1) (rc (if j.isNone then .ready else .done) j)) := by
        intro j W3 h1
        have h3 := (h1.block _ hlt2 (by omega)).trans hl2
        exact ⟨run_endRound (P := P) j h3, World.putObj_heap_same (Array.getElem?_eq_some_iff.1 h3).1, (World.putObj_heap_other (by omega)).trans ((h1.block b (by omega) (by omega)).trans hd2), (hf12.same (h1.more fun k _ e => by omega)).same (Fr.putObj (S := fun k => k < W1.heap.size) hle _)⟩
      intro e a3 W3 hp
      cases e with
      | normal =>
        obtain ⟨k1, hi3⟩ := hp
        obtain ⟨r1, r2, r3, r4⟩ := fin none W3 k1
        exact ⟨_, _, r1, .inl ⟨rfl, hI _ _ _ hi3 (Fr.putObj (S := fun k => b ≤ k) (by omega) _), r2, r3⟩, r4⟩
      | ret =>
        obtain ⟨k1, hi3⟩ := hp
        obtain ⟨r1, r2, r3, r4⟩ := fin (some .ret) W3 k1
        exact ⟨_, _, r1, .inr ⟨rfl, .ret, hIx _ _ _ _ hi3 (Fr.putObj (S := fun k => b ≤ k) (by omega) _), r2, r3⟩, r4⟩
      | exit id =>
        obtain ⟨k1, hi3⟩ := hp
        obtain ⟨r1, r2, r3, r4⟩ := fin (some (.exit id)) W3 k1
        exact ⟨_, _, r1, .inr ⟨rfl, .exit id, hIx _ _ _ _ hi3 (Fr.putObj (S := fun k => b ≤ k) (by omega) _), r2, r3⟩, r4⟩
      | goto t => exact hp.elim
      | panic ch => exact hp.elim
      | outgrown => exact hp.elim
    | ret => exact he.elim
    | exit id => exact he.elim
    | goto t => exact he.elim
    | panic ch => exact he.elim
    | outgrown => exact he.elim
  · rintro e W2 ⟨⟨v, rfl⟩, (⟨xs, hS, hi, hl, hd⟩ | ⟨pre, hSp, c, hi, hl, hd⟩)⟩
    · exact ⟨none, _, run_endLoop (P := P) hl (by simp), hdone xs _ hS (hI _ _ _ hi (Fr.putObj (S := fun k => b ≤ k) (by omega) _)) ((World.putObj_heap_other (by omega)).trans hd)⟩
    · exact ⟨some c, _, run_endLoop (P := P) hl (by simp), hstop c pre _ hSp (hIx _ _ _ _ hi (Fr.putObj (S := fun k => b ≤ k) (by omega) _)) ((World.putObj_heap_other (by omega)).trans hd)⟩
end
end Go.Proofs.YtjendlnicbieoaaGreatDoor
