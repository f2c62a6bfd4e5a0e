/-
  A loop in a function with ranges over functions in it: the calls that were deferred, the frame's values under names. Orders of trees.
-/
import Derived.Test.YtjendlnicbieoaaGreatDoorOd
import Derived.Test.YtjendlnicbieoaaGreatDoorPlC
import Derived.OwnWalkIn
namespace Go.Proofs.YtjendlnicbieoaaGreatDoor
open Go.RowKit Go.Sort

/-- What ranges over functions have put off: blocks from B on, one behind the other. -/
inductive DefOk (w : World) (B : Nat) : Nat → List Deferred → Prop
  | nil (m : Nat) : DefOk w B m []
  | cons {m b : Nat} {ds : List Deferred} : B ≤ b → b < m → w.heap[b]? = some (.deferred (some [])) → DefOk w B b ds → DefOk w B m ({ target := .collected b, args := #[] } :: ds)
theorem DefOk.keep {w w' : World} {B m : Nat} {ds : List Deferred} (h : DefOk w B m ds) (hk : ∀ q, B ≤ q → q < m → w.heap[q]? = some (.deferred (some [])) → w'.heap[q]? = some (.deferred (some []))) : DefOk w' B m ds := by
  induction h with
  | nil => exact .nil _
  | cons h1 h2 h3 h4 ih => exact .cons h1 h2 (hk _ h1 h2 h3) (ih fun q hq1 hq2 => hk q hq1 (by omega))
theorem DefOk.more {w : World} {B m m' : Nat} {ds : List Deferred} (h : DefOk w B m ds) (hm : m ≤ m') : DefOk w B m' ds := by
  cases h with
  | nil => exact .nil _
  | cons h1 h2 h3 h4 => exact .cons h1 (by omega) h3 h4
theorem leaves_defs {F : Fence} {n : Nat} {P : Program} {fn : Func} {tmps : Array Value} {R : Ending → World → Prop} {B : Nat} : ∀ {ds : List Deferred} {m : Nat} {w : World}, DefOk w B m ds → (∀ w', Fr (fun q => B ≤ q) w w' → LeavesInM F n P fn tmps R [] .returning w') → LeavesInM F n P fn tmps R ds .returning w
  | [], _, w, _, h => h w (Fr.refl _ _)
  | d :: ds, _, w, hd, h => by
    cases hd with
    | @cons _ b _ h1 h2 h3 h4 =>
      refine ⟨by simp, .inl ⟨_, _, rfl, run_takeDeferred h3, ?_⟩⟩
      have hf : Fr (fun q => B ≤ q) w (w.putObj b (.deferred none)) := ⟨rfl, rfl, rfl, by simp, fun k hk hk2 => World.putObj_heap_other (by omega)⟩
      exact leaves_defs (h4.keep fun q _ hq2 hq3 => (World.putObj_heap_other (by omega)).trans hq3) fun w' hw' => h w' (hf.same hw')
theorem IterG.later {α : Type} {P : Program} {m gf : Nat} {lb : Array Value} {encs : α → Array Value} {G : List α → α → World → Prop} {S Sp : List α → Prop} {E : World → Prop} {w w' : World} (h : IterG P m gf lb encs G S Sp E w) (hb : Below w.heap.size w w') : IterG P m gf lb encs G S Sp E w' :=
  fun l J Jx W hW => h l J Jx W (hb.trans (hW.mono hb.size))
set_option maxRecDepth 100000 in
theorem frame210 (T : Array Value) (h : T.size = 210) : ∃ f : Nat → Value, (∀ k, f k = T.getD k undef) ∧ T = #[f 0, f 1, f 2, f 3, f 4, f 5, f 6, f 7, f 8, f 9, f 10, f 11, f 12, f 13, f 14, f 15, f 16, f 17, f 18, f 19, f 20, f 21, f 22, f 23, f 24, f 25, f 26, f 27, f 28, f 29, f 30, f 31, f 32, f 33, f 34, f 35, f 36, f 37, f 38, f 39, f 40, f 41, f 42, f 43, f 44, f 45, f 46, f 47, f 48, f 49, f 50, f 51, f 52, f 53, f 54, f 55, f 56, f 57, f 58, f 59, f 60, f 61, f 62, f 63, f 64, f 65, f 66, f 67, f 68, f 69, f 70, f 71, f 72, f 73, f 74, f 75, f 76, f 77, f 78, f 79, f 80, f 81, f 82, f 83, f 84, f 85, f 86, f 87, f 88, f 89, f 90, f 91, f 92, f 93, f 94, f 95, f 96, f 97, f 98, f 99, f 100, f 101, f 102, f 103, f 104, f 105, f 106, f 107, f 108, f 109, f 110, f 111, f 112, f 113, f 114, f 115, f 116, f 117, f 118, f 119, f 120, f 121, f 122, f 123, f 124, f 125, f 126, f 127, f 128, f 129, f 130, f 131, f 132, f 133, f 134, f 135, f 136, f 137, f 138, f 139, f 140, f 141, f 142, f 143, f 144, f 145, f 146, f 147, f 148, f 149, f 150, f 151, f 152, f 153, f 154, f 155, f 156, f 157, f 158, f 159, f 160, f 161, f 162, f 163, f 164, f 165, f 166, f 167, f 168, f 169, f 170, f 171, f 172, f 173, f 174, f 175, f 176, f 177, f 178, f 179, f 180, f 181, f 182, f 183, f 184, f 185, f 186, f 187, f 188, f 189, f 190, f 191, f 192, f 193, f 194, f 195, f 196, f 197, f 198, f 199, f 200, f 201, f 202, f 203, f 204, f 205, f 206, f 207, f 208, f 209] := by
  refine ⟨fun k => T.getD k undef, fun _ => rfl, ?_⟩
  have e : T = ((List.range 210).map fun k => T.getD k undef).toArray := by
    apply Array.ext
    · simp [h]
    · intro i h1 h2
      simp [Array.getD, h1]
  exact e.trans rfl
/-- append(row, x) in a round, x a value that lies in a block of its own. -/
theorem wpListIn_row {F : Fence} {m : Nat} {ops : Array Oper} {rest : List Oper} {o : Oper} {a : Act} {Q : Exit → Act → World → Prop} (w : World) (hgd : o.guard = none) (s x : Operand) (T E : TypeId) (z : Value) (sz by_ : Nat)
    (hu : Tryz.prog.underlying T = some (.slice E)) (hinfo : (Tryz.prog.info? E).map (fun i => (i.zero, i.size, i.bytes)) = some (some z, sz, by_)) (hzs : z.cells.size = sz) (h0 : 0 < sz) (hby : by_ ≤ 1000)
    (ho : o.op = .call { callee := .builtin .append, args := #[s, x], argTypes := #[T, T] })
    (B : Nat) (bv : Value) (n : Nat) (xs : List Value) (hs : a.eval s = bv) (hrow : w.ownsRow B E sz bv n xs) (g : Nat) (ys : List Value) (hx : a.eval x = .slice (some ⟨g, 0, none⟩) 1 1) (hg : w.heap[g]? = some (.cells ys.toArray E (0, 0)))
    (hyl : ys.length = sz) (hone : ∀ u ∈ ys, u.oneCell' = true) (hl : n ≤ 10000000000) (hB : B ≤ w.heap.size)
    (h : ∀ g' cap w', w'.ownsRow B E sz (.slice (some ⟨g', 0, none⟩) (n + 1) cap) (n + 1) (xs ++ ys) → w.grownBy w' bv.ownBlock → (bv.ownBlock = some g' ∨ g' = w.heap.size) → wpListIn F m Tryz.prog ops Q rest (a.put o.dst (.slice (some ⟨g', 0, none⟩) (n + 1) cap)) w') :
    wpListIn F m Tryz.prog ops Q (o :: rest) a w := by
  obtain ⟨i0, hi0, hz0, hz1, hz2⟩ := info_partsS hinfo
  refine wpListIn_plain hgd fun K hK' => ?_
  obtain ⟨g', cap, w', hrun, r1, r2, r3, -⟩ := run_append_lies (P := Tryz.prog) w T o.type B E i0 z sz by_ hu hi0 hz0 hz1 hz2 hzs h0 bv n xs hrow ⟨g, 0, none⟩ 1 1 ys (by rw [hyl, Nat.one_mul]) (fun j u hj => by
    have := Blk.c (t := E) (cs := ys) hg j hj
    unfold Addr.add
    by_cases h : j = 0
    · subst h
      simpa using this
    · simpa [h] using this) hone (by omega) (by unfold maxLen; omega) (by
    calc (n + 1) * by_ ≤ 10000000001 * 1000 := Nat.mul_le_mul (by omega) hby
      _ ≤ 140737488355328 := by decide) hB _ rfl
  unfold Oper.wpIn
  refine ⟨?_, ?_⟩
  · simp [Oper.about, ho, resolve, Target.leads, Sem.run_pure]
  · rw [Oper.semAt_plain F _ _ (by rw [ho]; intro c hc'; cases hc')]
    simp [execOp, ho, resolve, invoke, builtin, hs, hx, hrun, Result.andThen]
    exact hK' _ _ (h g' cap w' r1 r2 r3)
/-- Trees in order are the same Ops in the same order. -/
theorem postF_rel : ∀ (t : Fo) (a : Nat), (postF (rel a t)).map (fun x => x.2) = (postF t).map fun x => x.2
  | .nil, a => rfl
  | .cons c op n k r, a => by
    rw [rel, postF, postF, List.map_append, List.map_append, List.map_cons, List.map_cons, postF_rel k, postF_rel r]
end Go.Proofs.YtjendlnicbieoaaGreatDoor
