/-
  valtext.Each: the iterator's contract.
-/
import Derived.Test.YtkahboomahhdoaaDoorWk1
import Derived.Test.YtkahboomahhdoaaDoorRg
import Derived.Test.YtkahboomahhdoaaDoorShelf
import Derived.Shelf.Abstract
import Derived.Shelf.RegionOpen
import Derived.OwnWalkIn
import Derived.TacticsInMore
import Derived.LoopNIn
import Derived.LoopIn
namespace Go.Proofs.YtkahboomahhdoaaDoor
open Go.RowKit Go.Shelf
attribute [local go_sem] Oper.semAt_some

def cutA (s : ByteArray) : ByteArray := ⟨(Lib.cut s.data.toList [10]).1.toArray⟩
def cutB (s : ByteArray) : ByteArray := ⟨(Lib.cut s.data.toList [10]).2.1.toArray⟩
/-- The values of a text's lines, as far as the first one that is none's. -/
def eachF : Nat → ByteArray → List VT
  | 0, _ => []
  | f + 1, s => if s.size = 0 then [] else match parse (cutA s) with
    | .error _ => []
    | .ok t => t :: eachF f (cutB s)
def eachV (s : ByteArray) : List VT := eachF (s.size + 1) s
abbrev EV := Nat × VT × Value
def encE (x : EV) : Array Value := #[.int .i64 (x.1 : Int), x.2.2]
def GE (s : ByteArray) (pre : List EV) (x : EV) (W : World) : Prop := x.1 = pre.length ∧ (pre ++ [x]).map (fun y => y.2.1) <+: eachV s ∧ IsV (· < W.heap.size) W x.2.1 x.2.2
def SE (s : ByteArray) (xs : List EV) : Prop := xs.map (fun y => y.2.1) = eachV s
def SpE (s : ByteArray) (pre : List EV) : Prop := pre.map (fun y => y.2.1) <+: eachV s

theorem cut_len (l : List UInt8) (h : l ≠ []) : (Lib.cut l [10]).1.length ≤ l.length ∧ (Lib.cut l [10]).2.1.length < l.length := by
  have hl : 0 < l.length := List.length_pos_iff.2 h
  unfold Lib.cut
  split
  · simp only [List.length_take, List.length_drop, List.length_cons, List.length_nil]
    omega
  · exact ⟨Nat.le_refl _, by simpa using hl⟩
theorem cutA_size (s : ByteArray) (h : 0 < s.size) : (cutA s).size ≤ s.size ∧ (cutB s).size < s.size := by
  have hl : s.data.toList.length = s.size := by simp
  have := cut_len s.data.toList (fun e => by rw [e] at hl; simp at hl; omega)
  rw [hl] at this
  exact this
theorem eachF_fuel : ∀ (f g : Nat) (s : ByteArray), s.size < f → s.size < g → eachF f s = eachF g s
  | 0, _, _, h, _ => by omega
  | _ + 1, 0, _, _, h => by omega
  | f + 1, g + 1, s, hf, hg => by
    rw [eachF, eachF]
    by_cases h0 : s.size = 0
    · rw [if_pos h0, if_pos h0]
    · rw [if_neg h0, if_neg h0]
      have := cutA_size s (by omega)
      cases parse (cutA s) with
      | error j => rfl
      | ok t => dsimp only; rw [eachF_fuel f g (cutB s) (by omega) (by omega)]
theorem each_empty {s : ByteArray} (h : s.size = 0) : eachV s = [] := by unfold eachV; rw [eachF, if_pos h]
theorem each_error {s : ByteArray} (h : ¬ s.size = 0) {j : Nat} (hp : parse (cutA s) = .error j) : eachV s = [] := by unfold eachV; rw [eachF, if_neg h, hp]
theorem each_ok {s : ByteArray} (h : ¬ s.size = 0) {t : VT} (hp : parse (cutA s) = .ok t) : eachV s = t :: eachV (cutB s) := by
  have := cutA_size s (by omega)
  unfold eachV
  rw [eachF, if_neg h, hp]
  dsimp only
  rw [eachF_fuel s.size ((cutB s).size + 1) (cutB s) (by omega) (by omega)]
theorem cut_any (s : ByteArray) (hs : s.size ≤ 1000000) (w : World) (hE : Env w) :
    Calls Tryd.prog 37 #[.string s, .string ⟨#[10]⟩] w fun e w' => (∃ b, e = .returned (.tuple #[.string (cutA s), .string (cutB s), .bool b])) ∧ ∃ n, w' = w.drewN n := by
  obtain ⟨m, hm⟩ := hE.maxl
  refine (Tryd.strings_Cut s ⟨#[10]⟩ m w (by omega) hm).mono ?_
  rintro e w' ⟨rfl, hn⟩
  exact ⟨⟨_, rfl⟩, hn⟩

set_option maxHeartbeats 400000 in
theorem Each_any (s : ByteArray) (w : World) : Calls Tryd.prog 15 #[.string s] w fun e w' => e = .returned (.func (.func 36) #[] #[.pointer (some ⟨w.heap.size, 0, none⟩)]) ∧ w' = w.alloc (.cells #[.string s] 9) := by
  go_enter Tryd.func15, Tryd.ntmps15
  go_wp2_with fail
  go_ret
  exact ⟨rfl, rfl⟩

theorem grown_of_below {W W' : World} (h : Below W.heap.size W W') : W.grownBy W' none := ⟨h.os, h.tape, h.output, h.size, fun k hk _ => h.block k hk⟩
theorem grown_drewN (W : World) (n : Nat) : W.grownBy (W.drewN n) none := ⟨rfl, rfl, rfl, Nat.le_refl _, fun _ _ _ => rfl⟩

theorem wideD (m : Nat) : Fence.wide.depth.isSome = true → 1 ≤ m := fun h => by simp [Fence.wide] at h
theorem snoc_prefix {l1 l2 : List VT} {t : VT} {r : List VT} (h : l1 = l2 ++ t :: r) : l2 ++ [t] <+: l1 := ⟨r, by rw [h]; simp⟩
def strSize : Value → Nat | .string b => b.size | _ => 0
set_option maxRecDepth 100000 in
set_option maxHeartbeats 2000000 in
theorem each_iter (m : Nat) (s : ByteArray) (hs : s.size ≤ 1000000) (bs : Nat) (w : World) (hc : w.cell? ⟨bs, 0, none⟩ = some (.string s)) : IterG Tryd.prog m 36 #[.pointer (some ⟨bs, 0, none⟩)] encE (GE s) (SE s) (SpE s) Env w := by
  intro l J Jx W hW hJ hJx hJE hY h0
  have hc1 : W.cell? ⟨bs, 0, none⟩ = some (.string s) := (hW.cell (p := ⟨bs, 0, none⟩) (block_lt_of_cell hc)).trans hc
  have HJ := Lib.hid hJ
  have HJX := Lib.hid hJx
  have HJE := Lib.hid hJE
  have HY := Lib.hid hY
  clear hJ hJx hJE hY
  refine callsIn_of_wp Tryd.func36 rfl trivial ?_ rfl
  simp only [Tryd.ntmps36, List.size_toArray, List.length_cons, List.length_nil, Nat.reduceAdd, Nat.reduceSub, Array.replicate_succ, Array.replicate_zero, List.push_toArray, List.append_toArray, List.nil_append, List.cons_append]
  gi_wp2
  gi_loopw [3, 4] (fun y i wr => ∃ (pre : List EV) (r : ByteArray), y = .string r ∧ i = .int .i64 (pre.length : Int) ∧ r.size ≤ s.size ∧ pre.length + r.size ≤ s.size ∧ eachV s = pre.map (fun z => z.2.1) ++ eachV r ∧ J pre wr) (fun y _ _ => strSize y)
  case atStart => exact ⟨[], s, rfl, rfl, Nat.le_refl _, by simp, rfl, h0⟩
  case round =>
    clear h0 hc1
    obtain ⟨pre, r, rfl, rfl, hrs, hpl, heq, hj⟩ := hrel
    have HEQ := Lib.hid heq
    clear heq
    have hEw := HJE.out pre wr hj
    by_cases hr0 : r.size = 0
    · obtain rfl : r = ⟨#[]⟩ := by
        obtain ⟨d⟩ := r
        have : d = #[] := Array.eq_empty_of_size_eq_zero hr0
        rw [this]
      gi_wp2
      go_end0
      refine ⟨⟨_, rfl⟩, .inl ⟨pre, ?_, hj⟩⟩
      unfold SE
      rw [HEQ.out, each_empty rfl, List.append_nil]
    · have he1 : r.toList.isEmpty = false := by
        rw [ByteArray.toList_eq]
        simpa using fun e => hr0 (by rw [← ByteArray.size_data]; simp [e])
      have he2 : ¬ r.toList = [] := by intro e; rw [e] at he1; simp at he1
      have hsz := cutA_size r (by omega)
      have hHW := hEw.words
      gi_wp2
      refine ⟨trivial, wideD _, (callsIn_wide.2 (cut_any r (by omega) _ hEw)).mono ?_⟩
      rintro e w1 ⟨⟨bb, rfl⟩, n1, rfl⟩
      have hj1 := HJ.out pre _ _ hj (grown_drewN wr n1)
      have hE1 := HJE.out pre _ hj1
      obtain ⟨A, hA⟩ : ∃ A, A = cutA r := ⟨_, rfl⟩
      obtain ⟨B, hB⟩ : ∃ B, B = cutB r := ⟨_, rfl⟩
      rw [← hA, ← hB] at hsz ⊢
      have HA := Lib.hid hA
      have HB := Lib.hid hB
      clear hA hB hEw hHW hj
      generalize wr.drewN n1 = w2 at *
      gi_wp2
      refine ⟨trivial, wideD _, (callsIn_wide.2 (Parse_any A (by unfold maxLen; omega) _ hE1.words)).mono ?_⟩
      intro e w3 h3
      rcases hp : parse A with j | t
      · rw [hp] at h3
        obtain ⟨rfl, hb3⟩ := h3
        have hb4 := hb3.trans ((below_alloc w3 (.cells #[.int .i64 0, .int .i64 0, .slice none 0 0] 26)).mono hb3.size)
        have hj4 := HJ.out pre _ _ hj1 (grown_of_below hb4)
        have HP : Hid (eachV s = pre.map (fun z => z.2.1)) := by
          show _ = _
          rw [HEQ.out, each_error hr0 (by rw [← HA.out]; exact hp), List.append_nil]
        clear hp
        gi_wp2
        refine ⟨fun _ h => (by cases h), ?_⟩
        gi_wp2
        refine bodyPost_ret (results_none rfl _ _ _) rfl ?_
        exact ⟨⟨_, rfl⟩, .inl ⟨pre, HP.out.symm, hj4⟩⟩
      · rw [hp] at h3
        obtain ⟨v, rfl, hv, hb3⟩ := h3
        obtain ⟨kk, nn, aa, len, cap, rfl⟩ := hv.form
        have hb4 := hb3.trans ((below_alloc w3 (.cells #[.int .i64 kk, .int .i64 nn, .slice aa len cap] 26)).mono hb3.size)
        have hj4 := HJ.out pre _ _ hj1 (grown_of_below hb4)
        have heq2 : eachV s = pre.map (fun z => z.2.1) ++ t :: eachV B := by rw [HEQ.out, each_ok hr0 (by rw [← HA.out]; exact hp), HB.out]
        have hG : GE s pre (pre.length, t, .agg #[.int .i64 kk, .int .i64 nn, .slice aa len cap]) (w3.alloc (.cells #[.int .i64 kk, .int .i64 nn, .slice aa len cap] 26)) := by
          refine ⟨rfl, ?_, ?_⟩
          · rw [List.map_append]
            exact snoc_prefix heq2
          · refine IsV.later (w := w3) (hv.more fun g hg => hg.2) (below_alloc _ _)
        have HEQ2 := Lib.hid heq2
        have hbx := Bx.new w3 26 (.int .i64 kk) (.int .i64 nn) (.slice aa len cap)
        have q0 := hbx.c0
        have q1 := hbx.c1
        have q2 := hbx.c2
        obtain ⟨fn, tmps, assign, body, hy, hR⟩ := HY.out pre (pre.length, t, .agg #[.int .i64 kk, .int .i64 nn, .slice aa len cap]) _ hj4 hG
        dsimp only [encE] at hy
        clear hp heq2 hG hj1
        gi_wp2
        refine ⟨wideD _, hR.mono ?_⟩
        rintro e w5 (⟨rfl, hj5⟩ | ⟨rfl, hj5⟩)
        · gi_wp2
          go_roundw
          case rel =>
            refine ⟨pre ++ [(pre.length, t, .agg #[.int .i64 kk, .int .i64 nn, .slice aa len cap])], B, rfl, by simp, by omega, by simp; omega, ?_, hj5⟩
            rw [HEQ2.out]
            simp
          case measure => simp [strSize]; omega
        · gi_wp2
          refine bodyPost_ret (results_none rfl _ _ _) rfl ?_
          refine ⟨⟨_, rfl⟩, .inr ⟨_, ?_, hj5⟩⟩
          unfold SpE
          rw [List.map_append]
          exact snoc_prefix HEQ2.out
end Go.Proofs.YtkahboomahhdoaaDoor
