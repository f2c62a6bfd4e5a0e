/-
  Walks over the reference of layer 23: Parse, its first part.
-/
import Derived.Test.YtjldbbcdhdfliaaGreatDoorUd
import Derived.Test.YtjldbbcdhdfliaaGreatDoorTkTl
import Derived.Test.YtjldbbcdhdfliaaGreatDoorTmTq
import Derived.Lib.QuietBelow
import Derived.Deep.QuietTactic
import Derived.BigQuiet
import Derived.Deep.Cut
import Derived.Deep.CutBlock
import Derived.Laws.StructEq
namespace Go.Proofs.YtjldbbcdhdfliaaGreatDoor
open Go.RowKit Go.Shelf Go.Sort

theorem numV_eq (r : Option Nat) : numV r = .tuple #[.int .i64 (r.getD 0 : Nat), .bool r.isSome] := by cases r <;> rfl
theorem parts_cells (s : ByteArray) {j : Nat} {p : ByteArray} (hp : (partsS s)[j]? = some p) : (wordsL s.data.toList)[j]? = some p.data.toList := by
  rw [← parts_words, List.getElem?_map, hp]
  rfl
theorem strV_parts (p : ByteArray) : strV p.data.toList = .string p := by
  unfold strV
  congr 1
/-- The words lie in a row. -/
def RowP (w : World) (g : Nat) (ps : List ByteArray) : Prop := ∃ cs, w.heap[g]? = some (.cells cs 9 (0, 0)) ∧ ∀ (j : Nat) (p : ByteArray), ps[j]? = some p → w.cell? ⟨g, j, none⟩ = some (.string p)
theorem rWordsP_any (s : ByteArray) (hs : s.size ≤ 10000000) (w : World) : Calls Tryz.prog 36 #[.string s] w fun e w' => (∃ g cap, e = .returned (.slice (some ⟨g, 0, none⟩) (partsS s).length cap) ∧ w.heap.size ≤ g ∧ RowP w' g (partsS s)) ∧ Below w.heap.size w w' := by
  refine (rWords_any s hs w).mono ?_
  rintro e w' ⟨v, rfl, hrow, hb⟩
  obtain ⟨g, cap, rfl, hg, hlt⟩ := hrow.form (wordsL_ne _)
  have hl : (wordsL s.data.toList).length = (partsS s).length := by rw [← parts_words]; simp
  refine ⟨⟨g, cap, by rw [hl], hg, ?_⟩, hb⟩
  rcases hrow.2 with ⟨h1, _⟩ | ⟨g', cap', cur, h1, h2, h3, _⟩
  · cases h1
  · injection h1 with h1 _ _
    injection h1 with h1
    injection h1 with h1 _ _
    subst h1
    refine ⟨cur, h3, fun j p hp => ?_⟩
    rw [hrow.at_ (parts_cells s hp), strV_parts]
/-- What stands in the reference's Parse. -/
structure RS (w : World) (nb g : Nat) (ps : List ByteArray) (W : World) : Prop where
  bb : Below w.heap.size w W
  rs : BE W w.heap.size zeroC
  no : BE W nb zeroC
  row : RowP W g ps
  o1 : w.heap.size < g
  o2 : g < nb
section
variable {w W W' : World} {nb g : Nat} {ps : List ByteArray}
theorem RowP.lt (h : RowP W g ps) : g < W.heap.size := by obtain ⟨cs, h, _⟩ := h; exact lt_of_heap h
theorem RowP.blk (h : RowP W g ps) (hb : W'.heap[g]? = W.heap[g]?) : RowP W' g ps := by
  obtain ⟨cs, h1, h2⟩ := h
  exact ⟨cs, hb.trans h1, fun j p hp => (World.cell?_of_block (w := W) hb).trans (h2 j p hp)⟩
theorem RowP.at_ (h : RowP W g ps) {j : Nat} {p : ByteArray} (hp : ps[j]? = some p) : W.cell? ⟨g, j, none⟩ = some (.string p) := by obtain ⟨cs, _, h2⟩ := h; exact h2 j p hp
theorem RS.belowB {B : Nat} (h : RS w nb g ps W) (hb : Below B W W') (hB : nb < B) : RS w nb g ps W' := by
  have h1 := h.o1
  have h2 := h.o2
  have h3 := h.rs.lt
  exact ⟨h.bb.trans (hb.mono (by omega)), (hb.block _ (by omega)).trans h.rs, (hb.block _ hB).trans h.no, h.row.blk (hb.block _ (by omega)), h1, h2⟩
theorem RS.below (h : RS w nb g ps W) (hb : Below W.heap.size W W') : RS w nb g ps W' := h.belowB hb h.no.lt
theorem RS.drewN (h : RS w nb g ps W) (n : Nat) : RS w nb g ps (W.drewN n) := h.below ⟨rfl, rfl, rfl, Nat.le_refl _, fun _ _ => rfl⟩
end
theorem kE_at {s : ByteArray} {j : Nat} (h1 : 1 ≤ j) (h9 : j ≤ 9) : ((wordE (j : Nat)).toList == s.toList) = ((wdEB j).toList == s.toList) := by
  have : wordE ((j : Nat) : Int) = wdEB j := by
    unfold wordE hasE
    rw [if_pos (by simp; omega)]
    simp
  rw [this]
theorem parse_bad {s p0 p1 p2 : ByteArray} {rest : List ByteArray} (h : partsS s = p0 :: p1 :: p2 :: rest) (hb : numL p0.data.toList = none ∨ numL p1.data.toList = none ∨ kindE p2 = none) : parseE s = none := by
  unfold parseE
  rw [h]
  dsimp only
  rcases hb with e | e | e <;> rw [e]
  · cases numL p0.data.toList <;> rfl
  · cases numL p0.data.toList <;> cases numL p1.data.toList <;> rfl
theorem parse_good {s p0 p1 p2 : ByteArray} {rest : List ByteArray} {st th k : Nat} (h : partsS s = p0 :: p1 :: p2 :: rest) (h0 : numL p0.data.toList = some st) (h1 : numL p1.data.toList = some th) (h2 : kindE p2 = some k) : parseE s = rowQ { k := k, st := st, th := th, sy := 0, br := 0, pa := 0, n := 0, v := zeroT } (rowE k) rest := by
  unfold parseE
  rw [h]
  dsimp only
  rw [h0, h1, h2, rowQ_row]
theorem kEGo_lt {s : ByteArray} : ∀ {f j k : Nat}, kEGo s f j = some k → j ≤ k ∧ k < j + f
  | 0, _, _, h => by cases h
  | f + 1, j, k, h => by
    rw [kEGo] at h
    split at h
    · injection h with h
      omega
    · have := kEGo_lt h
      omega
theorem none_of {α : Type} {o : Option α} (h : o.isSome = false) : o = none := by cases o <;> first | rfl | cases h
theorem some_of {o : Option Nat} {n : Nat} (h : o.isSome = true) (hn : o.getD 0 = n) : o = some n := by
  cases o with
  | none => cases h
  | some m => rw [← hn]; rfl
theorem row_step (k : Nat) (hk : k ≤ 9) (i : Nat) (hi : i < 5) : (rowE (k : Nat)).filter (i ≤ ·) = if i ∈ rowE (k : Nat) then i :: (rowE (k : Nat)).filter (i + 1 ≤ ·) else (rowE (k : Nat)).filter (i + 1 ≤ ·) := by
  have h1 : k = 0 ∨ k = 1 ∨ k = 2 ∨ k = 3 ∨ k = 4 ∨ k = 5 ∨ k = 6 ∨ k = 7 ∨ k = 8 ∨ k = 9 := by omega
  have h2 : i = 0 ∨ i = 1 ∨ i = 2 ∨ i = 3 ∨ i = 4 := by omega
  rcases h1 with rfl | rfl | rfl | rfl | rfl | rfl | rfl | rfl | rfl | rfl <;> rcases h2 with rfl | rfl | rfl | rfl | rfl <;> decide
theorem row_all (k : Nat) (_hk : k ≤ 9) : (rowE (k : Nat)).filter (0 ≤ ·) = rowE (k : Nat) := by simp
theorem row_end (k : Nat) (hk : k ≤ 9) : (rowE (k : Nat)).filter (5 ≤ ·) = [] := by
  have h1 : k = 0 ∨ k = 1 ∨ k = 2 ∨ k = 3 ∨ k = 4 ∨ k = 5 ∨ k = 6 ∨ k = 7 ∨ k = 8 ∨ k = 9 := by omega
  rcases h1 with rfl | rfl | rfl | rfl | rfl | rfl | rfl | rfl | rfl | rfl <;> decide
/-- What stands while the fields are read. -/
structure LS (w : World) (nb g xb mb ab : Nat) (ps : List ByteArray) (K n0 n1 : Nat) (y : Ev) (W : World) : Prop where
  rs : RS w nb g ps W
  x : BE W xb #[.int .i64 (K : Nat), .int .i64 (n0 : Nat), .int .i64 (n1 : Nat), .int .i64 0, .int .i64 0, .int .i64 0, .int .i64 0, .int .i64 0, .int .i64 0, .slice none 0 0]
  m : W.heap[mb]? = some (.cells (nmC (K : Nat)) 85 (0, 0))
  a : W.heap[ab]? = some (.cells #[.int .i64 y.sy, .int .i64 y.br, .int .i64 y.pa, .int .i64 y.n] 87 (0, 0))
  rg : Rng y.sy ∧ Rng y.br ∧ Rng y.pa ∧ Rng y.n
  ey : y.k = (K : Nat) ∧ y.st = (n0 : Nat) ∧ y.th = (n1 : Nat) ∧ y.v = zeroT
  o1 : nb < xb
  o2 : xb < mb
  o3 : mb < ab
section
variable {w W W' : World} {nb g xb mb ab K n0 n1 : Nat} {ps : List ByteArray} {y : Ev}
theorem LS.below (h : LS w nb g xb mb ab ps K n0 n1 y W) (hb : Below W.heap.size W W') : LS w nb g xb mb ab ps K n0 n1 y W' := by
  have h1 := h.o1
  have h2 := h.o2
  have h3 := h.o3
  have h4 := lt_of_heap h.a
  exact ⟨h.rs.below hb, h.x.belowAll hb, (hb.block _ (by omega)).trans h.m, (hb.block _ (by omega)).trans h.a, h.rg, h.ey, h1, h2, h3⟩
theorem LS.nm (h : LS w nb g xb mb ab ps K n0 n1 y W) {i : Nat} (hi : i < 5) : W.cell? ⟨mb, i, none⟩ = some (.bool (decide (i ∈ rowE (K : Nat)))) := by
  have hm := h.m
  match i, hi with
  | 0, _ | 1, _ | 2, _ | 3, _ | 4, _ => simp [World.cell?, hm, nmC]
theorem LS.set (h : LS w nb g xb mb ab ps K n0 n1 y W) {i : Nat} (hi : i < 4) {n : Int} (hn : Rng n) : LS w nb g xb mb ab ps K n0 n1 (setF y i n) (W.setCell ⟨ab, i, none⟩ (.int .i64 n)) := by
  have h1 := h.o1
  have h2 := h.o2
  have h3 := h.o3
  have hb : Below ab W (W.setCell ⟨ab, i, none⟩ (.int .i64 n)) := (Below.refl ab W).setCell (p := ⟨ab, i, none⟩) (Nat.le_refl _) _
  obtain ⟨r1, r2, r3, r4⟩ := h.rg
  refine ⟨h.rs.belowB hb (by omega), (hb.block _ (by omega)).trans h.x, (hb.block _ (by omega)).trans h.m, ?_, ?_, ?_, h1, h2, h3⟩
  · have ha := h.a
    match i, hi with
    | 0, _ | 1, _ | 2, _ | 3, _ => simp [World.setCell, Array.getElem?_modify, ha, setF]
  · match i, hi with
    | 0, _ => exact ⟨hn, r2, r3, r4⟩
    | 1, _ => exact ⟨r1, hn, r3, r4⟩
    | 2, _ => exact ⟨r1, r2, hn, r4⟩
    | 3, _ => exact ⟨r1, r2, r3, hn⟩
  · match i, hi with
    | 0, _ | 1, _ | 2, _ | 3, _ => exact h.ey
theorem LS.cell (h : LS w nb g xb mb ab ps K n0 n1 y W) {i : Nat} (hi : i < 4) : ∃ v, W.cell? ⟨ab, i, none⟩ = some v := by
  have ha := h.a
  match i, hi with
  | 0, _ | 1, _ | 2, _ | 3, _ => simp [World.cell?, ha]
theorem LS.fz (h : LS w nb g xb mb ab ps K n0 n1 y W) (i : Nat) : W.frozen? ⟨ab, i, none⟩ = false := by
  have ha := h.a
  simp [World.frozen?, ha]
end
set_option maxRecDepth 100000 in
set_option maxHeartbeats 8000000 in
theorem rParseE_any (s : ByteArray) (hs : s.size ≤ 10000000) (w : World) : Calls Tryz.prog 10 #[.string s] w (TPEnds (parseE s) w) := by
  obtain ⟨r, hr⟩ : ∃ r, parseE s = r := ⟨_, rfl⟩
  have HR := Lib.hid hr
  rw [hr]
  clear hr
  have hsz := parts_size s
  have HSZ := Lib.hid hsz
  clear hsz
  have hb1 := below_alloc w (.cells zeroC 29)
  have hr1 : BE (w.alloc (.cells zeroC 29)) w.heap.size zeroC := heap_alloc_new _ _
  unfold zeroC at hb1 hr1
  go_enter Tryz.func10, Tryz.ntmps10
  go_wp2_with fail
  refine (rWordsP_any s hs _).mono ?_
  rintro e w2 ⟨⟨g, cap, rfl, hg, hrow⟩, hb2⟩
  have hst : RS w w2.heap.size g (partsS s) (w2.alloc (.cells zeroC 29)) := by
    have hr2 := hr1.belowAll hb2
    have hb3 := below_alloc w2 (.cells zeroC 29)
    have hsz1 : (w.alloc (.cells #[.int .i64 0, .int .i64 0, .int .i64 0, .int .i64 0, .int .i64 0, .int .i64 0, .int .i64 0, .int .i64 0, .int .i64 0, .slice none 0 0] 29)).heap.size = w.heap.size + 1 := by simp
    exact ⟨(hb1.trans (hb2.mono (by omega))).trans (hb3.mono (hb1.trans (hb2.mono (by omega))).size), hr2.belowAll hb3, heap_alloc_new _ _, hrow.blk (hb3.block _ hrow.lt), by omega, hrow.lt⟩
  clear hb1 hr1 hb2 hrow hg
  obtain ⟨ps, hps⟩ : ∃ ps, partsS s = ps := ⟨_, rfl⟩
  have HPS := Lib.hid hps
  rw [hps] at hst
  rw [hps]
  clear hps
  have hll : ps.length ≤ 10000001 := by
    rw [← HPS.out, parts_len]
    have := Lib.countB_le ⟨#[32]⟩ (by decide) _ s (Nat.le_refl _)
    omega
  obtain ⟨np, hnp⟩ : ∃ np, ps.length = np := ⟨_, rfl⟩
  rw [hnp] at hll ⊢
  have HNP := Lib.hid hnp
  unfold zeroC at hst
  go_upto_region 3 with fail
  generalize w2.alloc (.cells #[.int .i64 0, .int .i64 0, .int .i64 0, .int .i64 0, .int .i64 0, .int .i64 0, .int .i64 0, .int .i64 0, .int .i64 0, .slice none 0 0] 29) = w3 at *
  generalize w2.heap.size = nb at *
  by_cases h3 : ps.length < 3
  · have hd : decide ((np : Int) < 3) = true := by simp; omega
    have hrn : r = none := by
      rw [← HR.out]
      unfold parseE
      rw [HPS.out]
      match ps, h3 with
      | [], _ => rfl
      | [_], _ => rfl
      | [_, _], _ => rfl
    subst hrn
    clear hnp h3
    obtain ⟨x0, x1, x2, x3, x4, x5, x6, x7, x8, x9⟩ := BE.c hst.no
    obtain ⟨y0, y1, y2, y3, y4, y5, y6, y7, y8, y9⟩ := BE.c hst.rs
    have z0 := hst.rs.fz 0
    have z1 := hst.rs.fz 1
    have z2 := hst.rs.fz 2
    have z3 := hst.rs.fz 3
    have z4 := hst.rs.fz 4
    have z5 := hst.rs.fz 5
    have z6 := hst.rs.fz 6
    have z7 := hst.rs.fz 7
    have z8 := hst.rs.fz 8
    have z9 := hst.rs.fz 9
    have hout := BE.put hst.rs (.int .i64 0) (.int .i64 0) (.int .i64 0) (.int .i64 0) (.int .i64 0) (.int .i64 0) (.int .i64 0) (.int .i64 0) (.int .i64 0) (.slice none 0 0)
    have hbo := hst.bb.trans (put10_below (g := w.heap.size) (Nat.le_refl _) (.int .i64 0) (.int .i64 0) (.int .i64 0) (.int .i64 0) (.int .i64 0) (.int .i64 0) (.int .i64 0) (.int .i64 0) (.int .i64 0) (.slice none 0 0))
    obtain ⟨v0, v1, v2, v3, v4, v5, v6, v7, v8, v9⟩ := BE.c hout
    unfold put10 at v0 v1 v2 v3 v4 v5 v6 v7 v8 v9
    clear hst hout
    go_wp2_with fail
    exact bodyPost_ret (v := .tuple #[.agg zeroC, .int .i64 230]) (by simp [results, Tryz.results10, go_sem, zeroC, v0, v1, v2, v3, v4, v5, v6, v7, v8, v9]) rfl ⟨rfl, hbo⟩
  · have hd : decide ((np : Int) < 3) = false := by simp; omega
    have i0 : 0 < np := by omega
    have i1 : 1 < np := by omega
    have i2 : 2 < np := by omega
    have j1 : (1 : Int) < (np : Int) := by omega
    have j2 : (2 : Int) < (np : Int) := by omega
    clear hnp
    obtain ⟨p0, p1, p2, rest, rfl⟩ : ∃ p0 p1 p2 rest, ps = p0 :: p1 :: p2 :: rest := by
      match ps, h3 with
      | a :: b :: c :: r, _ => exact ⟨a, b, c, r, rfl⟩
      | [], h => exact absurd (by simp) h
      | [_], h => exact absurd (by simp) h
      | [_, _], h => exact absurd (by simp) h
    have hz0 : p0.size ≤ maxLen := by have := HSZ.out p0 (by rw [HPS.out]; simp); unfold maxLen; omega
    have hz1 : p1.size ≤ maxLen := by have := HSZ.out p1 (by rw [HPS.out]; simp); unfold maxLen; omega
    have q0 := hst.row.at_ (j := 0) (p := p0) rfl
    go_wp2_with fail
    refine (rnumE_any p0 hz0 _).mono ?_
    rw [numV_eq]
    rintro e w4 ⟨rfl, hb4⟩
    have hst4 := hst.below hb4
    clear hst hb4 q0
    have q1 := hst4.row.at_ (j := 1) (p := p1) rfl
    go_wp2_with fail
    refine (rnumE_any p1 hz1 _).mono ?_
    rw [numV_eq]
    rintro e w5 ⟨rfl, hb5⟩
    have hst5 := hst4.below hb5
    clear hst4 hb5 q1
    obtain ⟨b0, hb0⟩ : ∃ b, (numL p0.data.toList).isSome = b := ⟨_, rfl⟩
    obtain ⟨b1, hb1⟩ : ∃ b, (numL p1.data.toList).isSome = b := ⟨_, rfl⟩
    obtain ⟨n0, hn0⟩ : ∃ n, (numL p0.data.toList).getD 0 = n := ⟨_, rfl⟩
    obtain ⟨n1, hn1⟩ : ∃ n, (numL p1.data.toList).getD 0 = n := ⟨_, rfl⟩
    rw [hb0, hb1, hn0, hn1]
    have HB0 := Lib.hid hb0
    have HB1 := Lib.hid hb1
    have HN0 := Lib.hid hn0
    have HN1 := Lib.hid hn1
    clear hb0 hb1 hn0 hn1 h3
    obtain ⟨K, hK⟩ : ∃ K, (kindE p2).getD 10 = K := ⟨_, rfl⟩
    have HK := Lib.hid hK
    clear hK
    go_upto_block 0 with fail
    go_cut [10] from 42 to 53 (fun s10 wx => s10 = .int .i64 (K : Nat) ∧ RS w nb g (p0 :: p1 :: p2 :: rest) wx)
    case first =>
      go_wp2_with fail
      go_loopw [10] (fun i wr => ∃ j : Nat, 1 ≤ j ∧ j ≤ 10 ∧ i = .int .i64 j ∧ kEGo p2 9 1 = kEGo p2 (10 - j) j ∧ RS w nb g (p0 :: p1 :: p2 :: rest) wr) (fun i _ => 10 - (intOf i).toNat)
      case atStart => exact ⟨1, by omega, by omega, rfl, rfl, hst5⟩
      case round =>
        clear hst5
        obtain ⟨j, h1, hj, rfl, hq, hst6⟩ := hrel
        have HQ := Lib.hid hq
        clear hq
        by_cases hlt : j < 10
        · have hd9 : decide ((j : Int) ≤ 9) = true := by simp; omega
          have HQ2 : Hid (kEGo p2 9 1 = if (wdEB j).toList == p2.toList then some j else kEGo p2 (10 - (j + 1)) (j + 1)) := by
            show _ = _
            rw [HQ.out, show 10 - j = (10 - (j + 1)) + 1 from by omega, kEGo]
          have cV : ∀ d os, Calls Tryz.prog 38 #[.int .i64 (j : Nat)] (grow (redrawn wr d) os) fun e w'' => e = .returned (.string (wordE (j : Nat))) ∧ ∃ p : Regrown, w'' = grow (redrawn wr p.d) p.os := fun d os => Calls.regrown_of (rName_any (j : Nat) _)
          have q2 := fun d os => cell_regrown (hst6.row.at_ (j := 2) (p := p2) rfl) d os
          have hkj := kE_at (s := p2) h1 (by omega : j ≤ 9)
          obtain ⟨m, hm⟩ : ∃ m, ((wdEB j).toList == p2.toList) = m := ⟨_, rfl⟩
          rw [hm] at hkj
          have HM := Lib.hid hm
          clear hm
          go_upto_region 8 with fail
          refine wp_region_quiet_below (by kernel_rfl) (by kernel_rfl) ?_
          repeat (go_big_quiet_step (exact cV _ _))
          refine wpQuiet_nil ?_
          intro _ hw'
          obtain ⟨⟨dq, osq⟩, hw''⟩ := hw'
          subst hw''
          have hst7 := hst6.below (below_regrown wr dq osq)
          clear q2 cV hst6
          generalize grow (redrawn wr dq) osq = w7 at *
          cases m
          · go_wp2_with fail
            go_roundw
            case rel => first | exact ⟨j + 1, by omega, by omega, by go_num, by rw [HQ2.out, HM.out]; rfl, hst7⟩ | ((repeat apply Exists.intro); exact ⟨⟨j + 1, by omega, by omega, by go_num, by rw [HQ2.out, HM.out]; rfl, hst7⟩, rfl⟩)
            case measure => simp [intOf]; omega
          · go_wp2_with fail
            go_meet
            refine ⟨?_, hst7⟩
            rw [← HK.out, kindE, HQ2.out, HM.out]
            rfl
        · obtain rfl : j = 10 := by omega
          have hd9 : decide (((10 : Nat) : Int) ≤ 9) = false := by decide
          go_upto_region 8 with fail
          refine wp_region_quiet_below (by kernel_rfl) (by kernel_rfl) ?_
          repeat (go_big_quiet_step (fail))
          refine wpQuiet_nil ?_
          intro _ hw'
          obtain ⟨⟨dq, osq⟩, hw''⟩ := hw'
          subst hw''
          have hst7 := hst6.below (below_regrown wr dq osq)
          clear hst6
          generalize grow (redrawn wr dq) osq = w7 at *
          go_wp2_with fail
          go_meet
          refine ⟨?_, hst7⟩
          rw [← HK.out, kindE, HQ.out]
          rfl
    case rest =>
      clear hst5
      obtain ⟨rfl, hst6⟩ := hcut
      by_cases hok : b0 = true ∧ b1 = true ∧ K < 10
      · obtain ⟨rfl, rfl, hK9⟩ := hok
        have hd9 : decide (9 < (K : Int)) = false := by simp; omega
        have hq0 : rowQ { k := (K : Nat), st := (n0 : Nat), th := (n1 : Nat), sy := 0, br := 0, pa := 0, n := 0, v := zeroT } (rowE (K : Nat)) rest = r := by
          rw [← HR.out]
          refine (parse_good HPS.out (some_of HB0.out HN0.out) (some_of HB1.out HN1.out) ?_).symm
          have := HK.out
          cases hk : kindE p2 with
          | none => rw [hk] at this; simp at this; omega
          | some k => rw [hk] at this; simp at this; rw [this]
        have HQ0 := Lib.hid hq0
        clear hq0
        have hb6 := below_alloc wc (.cells #[.int .i64 (K : Nat), .int .i64 (n0 : Nat), .int .i64 (n1 : Nat), .int .i64 0, .int .i64 0, .int .i64 0, .int .i64 0, .int .i64 0, .int .i64 0, .slice none 0 0] 29)
        have hxb := heap_alloc_new wc (.cells #[.int .i64 (K : Nat), .int .i64 (n0 : Nat), .int .i64 (n1 : Nat), .int .i64 0, .int .i64 0, .int .i64 0, .int .i64 0, .int .i64 0, .int .i64 0, .slice none 0 0] 29)
        have hst7 := hst6.below hb6
        have hxn : nb < wc.heap.size := hst6.no.lt
        clear hst6 hb6
        go_upto_region 13 with fail
        generalize wc.alloc (.cells #[.int .i64 (K : Nat), .int .i64 (n0 : Nat), .int .i64 (n1 : Nat), .int .i64 0, .int .i64 0, .int .i64 0, .int .i64 0, .int .i64 0, .int .i64 0, .slice none 0 0] 29) = w7 at *
        generalize wc.heap.size = xb at *
        go_wp2_with fail
        refine (rnames_any (K : Nat) _).mono ?_
        rintro e w8 ⟨rfl, hb8⟩
        have hst8 := hst7.below hb8
        have hx8 := (hb8.block xb (lt_of_heap hxb)).trans hxb
        have hls0 : LS w nb g xb w8.heap.size (w8.heap.size + 1) (p0 :: p1 :: p2 :: rest) K n0 n1 { k := (K : Nat), st := (n0 : Nat), th := (n1 : Nat), sy := 0, br := 0, pa := 0, n := 0, v := zeroT } ((w8.alloc (.cells (nmC (K : Nat)) 85)).alloc (.cells #[.int .i64 0, .int .i64 0, .int .i64 0, .int .i64 0] 87)) := by
          have e1 := below_alloc w8 (.cells (nmC (K : Nat)) 85)
          have e2 := below_alloc (w8.alloc (.cells (nmC (K : Nat)) 85)) (.cells #[.int .i64 0, .int .i64 0, .int .i64 0, .int .i64 0] 87)
          have e3 := heap_alloc_new w8 (.cells (nmC (K : Nat)) 85)
          have e4 := heap_alloc_new (w8.alloc (.cells (nmC (K : Nat)) 85)) (.cells #[.int .i64 0, .int .i64 0, .int .i64 0, .int .i64 0] 87)
          have e5 : (w8.alloc (.cells (nmC (K : Nat)) 85)).heap.size = w8.heap.size + 1 := by simp
          rw [e5] at e4
          refine ⟨(hst8.below e1).below e2, BE.belowAll (BE.belowAll hx8 e1) e2, (e2.block _ (lt_of_heap e3)).trans e3, e4, ⟨?_, ?_, ?_, ?_⟩, ⟨rfl, rfl, rfl, rfl⟩, hxn, lt_of_heap hx8, by omega⟩ <;> exact rng_nat (n := 0) (Nat.zero_le _)
        unfold nmC at hls0
        clear hst7 hst8 hx8 hxb hb8
        unfold nmC
        go_wp2_with fail
        have HLS0 := Lib.hid hls0
        clear hls0
        have hmb : xb < w8.heap.size := HLS0.out.o2
        generalize (w8.alloc (.cells #[.bool (decide (0 ∈ rowE (K : Nat))), .bool (decide (1 ∈ rowE (K : Nat))), .bool (decide (2 ∈ rowE (K : Nat))), .bool (decide (3 ∈ rowE (K : Nat))), .bool (decide (4 ∈ rowE (K : Nat)))] 85)).alloc (.cells #[.int .i64 0, .int .i64 0, .int .i64 0, .int .i64 0] 87) = w9 at *
        generalize w8.heap.size + 1 = ab at *
        generalize w8.heap.size = mb at *
        have hnr : rest.length + 3 = np := by
          have := HNP.out
          simp at this
          omega
        go_loopw [13, 15, 16, 17] (fun at_ i _ _ wr => ∃ (j c q : Nat) (y : Ev), at_ = .int .i64 (q : Nat) ∧ i = .int .i64 (j : Nat) ∧ q = c + 3 ∧ j ≤ 4 ∧ c ≤ rest.length ∧ LS w nb g xb mb ab (p0 :: p1 :: p2 :: rest) K n0 n1 y wr ∧ rowQ y ((rowE (K : Nat)).filter (j ≤ ·)) (rest.drop c) = r) (fun _ i _ _ _ => 4 - (intOf i).toNat)
        case atStart => exact ⟨0, 0, 3, _, rfl, rfl, rfl, by omega, Nat.zero_le _, HLS0.out, by rw [row_all K (by omega), List.drop_zero]; exact HQ0.out⟩
        case round =>
          clear HLS0 hmb
          obtain ⟨j, c, q, y, rfl, rfl, hqc, hj, hc, hls, hrq⟩ := hrel
          have HRQ := Lib.hid hrq
          clear hrq
          by_cases hlt : j < 4
          · have hd4 : decide ((j : Int) < 4) = true := by simp; omega
            have hj5 : j < 5 := by omega
            have hj5' : (j : Int) < 5 := by omega
            have hj4 : (j : Int) < 4 := by omega
            have hcm := hls.nm hj5
            have hstep := row_step K (by omega) j hj5
            obtain ⟨bj, hbj⟩ : ∃ b, decide (j ∈ rowE (K : Nat)) = b := ⟨_, rfl⟩
            rw [hbj] at hcm
            have HQC := Lib.hid hqc
            clear hqc
            cases bj
            · have hs2 : rowQ y ((rowE (K : Nat)).filter (j + 1 ≤ ·)) (rest.drop c) = r := by
                rw [← HRQ.out, hstep, if_neg (by simpa using hbj)]
              have HS2 := Lib.hid hs2
              clear hs2 hbj hstep HRQ
              go_wp2_with fail
              go_roundw
              case rel => first | exact ⟨j + 1, c, q, y, rfl, by go_num, HQC.out, by omega, hc, hls, HS2.out⟩ | ((repeat apply Exists.intro); exact ⟨⟨j + 1, c, q, y, rfl, by go_num, HQC.out, by omega, hc, hls, HS2.out⟩, rfl⟩)
              case measure => simp [intOf]; omega
            · have hs2 : rowQ y (j :: (rowE (K : Nat)).filter (j + 1 ≤ ·)) (rest.drop c) = r := by
                rw [← HRQ.out, hstep, if_pos (by simpa using hbj)]
              have HS2 := Lib.hid hs2
              clear hs2 hbj hstep HRQ
              by_cases hcl : c < rest.length
              · have hd6 : decide ((np : Int) ≤ (q : Int)) = false := by have := HQC.out; simp; omega
                have iq : q < np := by have := HQC.out; omega
                have jq : (q : Int) < (np : Int) := by omega
                obtain ⟨P, hP⟩ : ∃ P, rest[c] = P := ⟨_, rfl⟩
                have hcP : wr.cell? ⟨g, q, none⟩ = some (.string P) := hls.rs.row.at_ (by rw [HQC.out]; simp [List.getElem?_eq_getElem hcl, hP])
                have hPz : P.size ≤ maxLen := by have := HSZ.out P (by rw [HPS.out, ← hP]; simp [List.getElem_mem]); unfold maxLen; omega
                have HS3 : Hid ((match fldP y j P with | some z => rowQ z ((rowE (K : Nat)).filter (j + 1 ≤ ·)) (rest.drop (c + 1)) | none => none) = r) := by
                  show _ = _
                  rw [← HS2.out, List.drop_eq_getElem_cons hcl, hP, rowQ]
                  cases fldP y j P <;> rfl
                have HCL := Lib.hid hcl
                clear hP HS2
                go_wp2_with fail
                refine (rnumE_any P hPz _).mono ?_
                rw [numV_eq]
                rintro e w10 ⟨rfl, hb10⟩
                have hlsN := hls.below hb10
                have hcN : w10.cell? ⟨g, q, none⟩ = some (.string P) := (hb10.cell (p := ⟨g, q, none⟩) hls.rs.row.lt).trans hcP
                clear hls hb10 hcP hcm
                obtain ⟨bp, hbp⟩ : ∃ b, (numL P.data.toList).isSome = b := ⟨_, rfl⟩
                obtain ⟨nv, hnv⟩ : ∃ n, (numL P.data.toList).getD 0 = n := ⟨_, rfl⟩
                rw [hbp, hnv]
                have HBP := Lib.hid hbp
                have HNV := Lib.hid hnv
                clear hbp hnv
                have iq2 : ¬ np ≤ q := by omega
                by_cases h45 : j = 2 ∧ P.toList = [45]
                · obtain ⟨rfl, h45⟩ := h45
                  have hd8 : (P.toList == [45]) = true := by simpa using h45
                  have HF2 : Hid (rowQ (setF y 2 (-1)) ((rowE (K : Nat)).filter (2 + 1 ≤ ·)) (rest.drop (c + 1)) = r) := by
                    show _ = _
                    rw [← HS3.out]
                    unfold fldP
                    rw [if_neg (by decide), if_pos ⟨rfl, h45⟩]
                  have hlsM := hlsN.set (i := 2) (by omega) (n := -1) (by unfold Rng; omega)
                  obtain ⟨va, hva⟩ := hlsN.cell (i := 2) (by omega)
                  have hfz := hlsN.fz 2
                  clear hlsN HS3 h45
                  go_wp2_with fail
                  go_roundw
                  case rel => first | exact ⟨3, c + 1, q + 1, _, by go_num, by go_num, by have := HQC.out; omega, by omega, HCL.out, hlsM, HF2.out⟩ | ((repeat apply Exists.intro); exact ⟨⟨3, c + 1, q + 1, _, by go_num, by go_num, by have := HQC.out; omega, by omega, HCL.out, hlsM, HF2.out⟩, rfl⟩)
                  case measure => simp [intOf]
                · by_cases hj2 : j = 2
                  · skip
                    subst hj2
                    have hd8 : (P.toList == [45]) = false := by simpa using h45
                    have HF : Hid (fldP y 2 P = match numL P.data.toList with | some n => some (setF y 2 n) | none => none) := fldP_num (by omega) h45
                    clear h45
                    cases bp
                    · have hrn : r = none := by rw [← HS3.out, HF.out, none_of HBP.out]
                      subst hrn
                      have hst9 := hlsN.rs
                      clear hlsN HS3 HF hnr hc
                      obtain ⟨x0, x1, x2, x3, x4, x5, x6, x7, x8, x9⟩ := BE.c hst9.no
                      obtain ⟨y0, y1, y2, y3, y4, y5, y6, y7, y8, y9⟩ := BE.c hst9.rs
                      have z0 := hst9.rs.fz 0
                      have z1 := hst9.rs.fz 1
                      have z2 := hst9.rs.fz 2
                      have z3 := hst9.rs.fz 3
                      have z4 := hst9.rs.fz 4
                      have z5 := hst9.rs.fz 5
                      have z6 := hst9.rs.fz 6
                      have z7 := hst9.rs.fz 7
                      have z8 := hst9.rs.fz 8
                      have z9 := hst9.rs.fz 9
                      have hout := BE.put hst9.rs (.int .i64 0) (.int .i64 0) (.int .i64 0) (.int .i64 0) (.int .i64 0) (.int .i64 0) (.int .i64 0) (.int .i64 0) (.int .i64 0) (.slice none 0 0)
                      have hbo := hst9.bb.trans (put10_below (g := w.heap.size) (Nat.le_refl _) (.int .i64 0) (.int .i64 0) (.int .i64 0) (.int .i64 0) (.int .i64 0) (.int .i64 0) (.int .i64 0) (.int .i64 0) (.int .i64 0) (.slice none 0 0))
                      obtain ⟨v0, v1, v2, v3, v4, v5, v6, v7, v8, v9⟩ := BE.c hout
                      unfold put10 at v0 v1 v2 v3 v4 v5 v6 v7 v8 v9
                      clear hst9 hout
                      go_wp2_with fail
                      exact bodyPost_ret (v := .tuple #[.agg zeroC, .int .i64 230]) (by simp [results, Tryz.results10, go_sem, zeroC, v0, v1, v2, v3, v4, v5, v6, v7, v8, v9]) rfl ⟨rfl, hbo⟩
                    · have hnum : numL P.data.toList = some nv := some_of HBP.out HNV.out
                      have HF2 : Hid (rowQ (setF y 2 (nv : Nat)) ((rowE (K : Nat)).filter (2 + 1 ≤ ·)) (rest.drop (c + 1)) = r) := by
                        show _ = _
                        rw [← HS3.out, HF.out, hnum]
                      have hlsM := hlsN.set (i := 2) (by omega) (n := (nv : Nat)) (rng_nat (numL_some hnum).2)
                      obtain ⟨va, hva⟩ := hlsN.cell (i := 2) (by omega)
                      have hfz := hlsN.fz 2
                      clear hlsN HS3 HF hnum
                      go_wp2_with fail
                      go_roundw
                      case rel => first | exact ⟨2 + 1, c + 1, q + 1, _, by go_num, by go_num, by have := HQC.out; omega, by omega, HCL.out, hlsM, HF2.out⟩ | ((repeat apply Exists.intro); exact ⟨⟨2 + 1, c + 1, q + 1, _, by go_num, by go_num, by have := HQC.out; omega, by omega, HCL.out, hlsM, HF2.out⟩, rfl⟩)
                      case measure => simp [intOf]; try omega
                  · skip
                    have hd9b : ((j : Int) == 2) = false := by simp; omega
                    have HF : Hid (fldP y j P = match numL P.data.toList with | some n => some (setF y j n) | none => none) := fldP_num (by omega) h45
                    clear h45
                    cases bp
                    · have hrn : r = none := by rw [← HS3.out, HF.out, none_of HBP.out]
                      subst hrn
                      have hst9 := hlsN.rs
                      clear hlsN HS3 HF hnr hc
                      obtain ⟨x0, x1, x2, x3, x4, x5, x6, x7, x8, x9⟩ := BE.c hst9.no
                      obtain ⟨y0, y1, y2, y3, y4, y5, y6, y7, y8, y9⟩ := BE.c hst9.rs
                      have z0 := hst9.rs.fz 0
                      have z1 := hst9.rs.fz 1
                      have z2 := hst9.rs.fz 2
                      have z3 := hst9.rs.fz 3
                      have z4 := hst9.rs.fz 4
                      have z5 := hst9.rs.fz 5
                      have z6 := hst9.rs.fz 6
                      have z7 := hst9.rs.fz 7
                      have z8 := hst9.rs.fz 8
                      have z9 := hst9.rs.fz 9
                      have hout := BE.put hst9.rs (.int .i64 0) (.int .i64 0) (.int .i64 0) (.int .i64 0) (.int .i64 0) (.int .i64 0) (.int .i64 0) (.int .i64 0) (.int .i64 0) (.slice none 0 0)
                      have hbo := hst9.bb.trans (put10_below (g := w.heap.size) (Nat.le_refl _) (.int .i64 0) (.int .i64 0) (.int .i64 0) (.int .i64 0) (.int .i64 0) (.int .i64 0) (.int .i64 0) (.int .i64 0) (.int .i64 0) (.slice none 0 0))
                      obtain ⟨v0, v1, v2, v3, v4, v5, v6, v7, v8, v9⟩ := BE.c hout
                      unfold put10 at v0 v1 v2 v3 v4 v5 v6 v7 v8 v9
                      clear hst9 hout
                      go_wp2_with fail
                      exact bodyPost_ret (v := .tuple #[.agg zeroC, .int .i64 230]) (by simp [results, Tryz.results10, go_sem, zeroC, v0, v1, v2, v3, v4, v5, v6, v7, v8, v9]) rfl ⟨rfl, hbo⟩
                    · have hnum : numL P.data.toList = some nv := some_of HBP.out HNV.out
                      have HF2 : Hid (rowQ (setF y j (nv : Nat)) ((rowE (K : Nat)).filter (j + 1 ≤ ·)) (rest.drop (c + 1)) = r) := by
                        show _ = _
                        rw [← HS3.out, HF.out, hnum]
                      have hlsM := hlsN.set (i := j) (by omega) (n := (nv : Nat)) (rng_nat (numL_some hnum).2)
                      obtain ⟨va, hva⟩ := hlsN.cell (i := j) (by omega)
                      have hfz := hlsN.fz j
                      clear hlsN HS3 HF hnum
                      go_wp2_with fail
                      go_roundw
                      case rel => first | exact ⟨j + 1, c + 1, q + 1, _, by go_num, by go_num, by have := HQC.out; omega, by omega, HCL.out, hlsM, HF2.out⟩ | ((repeat apply Exists.intro); exact ⟨⟨j + 1, c + 1, q + 1, _, by go_num, by go_num, by have := HQC.out; omega, by omega, HCL.out, hlsM, HF2.out⟩, rfl⟩)
                      case measure => simp [intOf]; try omega
              · have hd6 : decide ((np : Int) ≤ (q : Int)) = true := by have := HQC.out; simp; omega
                have hrn : r = none := by
                  rw [← HS2.out, List.drop_eq_nil_of_le (by omega)]
                  rfl
                subst hrn
                have hst9 := hls.rs
                have iq : np ≤ q := by have := HQC.out; omega
                have hd7 : decide (np ≤ q) = true := by simpa using iq
                clear hls hnr hcl hc HS2
                obtain ⟨x0, x1, x2, x3, x4, x5, x6, x7, x8, x9⟩ := BE.c hst9.no
                obtain ⟨y0, y1, y2, y3, y4, y5, y6, y7, y8, y9⟩ := BE.c hst9.rs
                have z0 := hst9.rs.fz 0
                have z1 := hst9.rs.fz 1
                have z2 := hst9.rs.fz 2
                have z3 := hst9.rs.fz 3
                have z4 := hst9.rs.fz 4
                have z5 := hst9.rs.fz 5
                have z6 := hst9.rs.fz 6
                have z7 := hst9.rs.fz 7
                have z8 := hst9.rs.fz 8
                have z9 := hst9.rs.fz 9
                have hout := BE.put hst9.rs (.int .i64 0) (.int .i64 0) (.int .i64 0) (.int .i64 0) (.int .i64 0) (.int .i64 0) (.int .i64 0) (.int .i64 0) (.int .i64 0) (.slice none 0 0)
                have hbo := hst9.bb.trans (put10_below (g := w.heap.size) (Nat.le_refl _) (.int .i64 0) (.int .i64 0) (.int .i64 0) (.int .i64 0) (.int .i64 0) (.int .i64 0) (.int .i64 0) (.int .i64 0) (.int .i64 0) (.slice none 0 0))
                obtain ⟨v0, v1, v2, v3, v4, v5, v6, v7, v8, v9⟩ := BE.c hout
                unfold put10 at v0 v1 v2 v3 v4 v5 v6 v7 v8 v9
                clear hst9 hout
                go_wp2_with fail
                exact bodyPost_ret (v := .tuple #[.agg zeroC, .int .i64 230]) (by simp [results, Tryz.results10, go_sem, zeroC, v0, v1, v2, v3, v4, v5, v6, v7, v8, v9]) rfl ⟨rfl, hbo⟩
          · obtain rfl : j = 4 := by omega
            have hd4 : decide (((4 : Nat) : Int) < 4) = false := by decide
            obtain ⟨l0, l1, l2, l3⟩ : (wr.cell? ⟨ab, 0, none⟩ = some (.int .i64 y.sy) ∧ wr.cell? ⟨ab, 1, none⟩ = some (.int .i64 y.br) ∧ wr.cell? ⟨ab, 2, none⟩ = some (.int .i64 y.pa) ∧ wr.cell? ⟨ab, 3, none⟩ = some (.int .i64 y.n)) := by
              have ha := hls.a
              simp [World.cell?, ha]
            have hrq4 : rowQ y (if 4 ∈ rowE (K : Nat) then [4] else []) (rest.drop c) = r := by
              rw [← HRQ.out, row_step K (by omega) 4 (by omega), row_end K (by omega)]
            have HRQ4 := Lib.hid hrq4
            clear hrq4 HRQ
            obtain ⟨a0, a1, a2, a3, a4, a5, a6, a7, a8, a9⟩ := BE.c hls.x
            have f3 := hls.x.fz 3
            have f4 := hls.x.fz 4
            have f5 := hls.x.fz 5
            have f6 := hls.x.fz 6
            have hne : xb ≠ ab := by have := hls.o2; have := hls.o3; omega
            have hne' : ab ≠ xb := fun h => hne h.symm
            have hzr := BE.lt hls.x
            go_upto_region 29 with fail
            go_region
            have HRG : Hid (RngE y) := by
              obtain ⟨e1, e2, e3, _⟩ := hls.ey
              obtain ⟨r1, r2, r3, r4⟩ := hls.rg
              exact ⟨by rw [e1]; exact rng_nat (by omega), by rw [e2]; exact rng_nat (numL_some (some_of HB0.out HN0.out)).2, by rw [e3]; exact rng_nat (numL_some (some_of HB1.out HN1.out)).2, r1, r2, r3, r4⟩
            have HEY := Lib.hid hls.ey
            have hxN : BE (((((wr.setCell ⟨xb, 3, none⟩ (.int .i64 y.sy)).setCell ⟨xb, 4, none⟩ (.int .i64 y.br)).setCell ⟨xb, 5, none⟩ (.int .i64 y.pa)).setCell ⟨xb, 6, none⟩ (.int .i64 y.n)).drew) xb #[.int .i64 (K : Nat), .int .i64 (n0 : Nat), .int .i64 (n1 : Nat), .int .i64 y.sy, .int .i64 y.br, .int .i64 y.pa, .int .i64 y.n, .int .i64 0, .int .i64 0, .slice none 0 0] := by
              have h := hls.x
              unfold BE at h ⊢
              simp [World.setCell, World.drew, Array.getElem?_modify, h]
            have hbx : Below xb wr (((((wr.setCell ⟨xb, 3, none⟩ (.int .i64 y.sy)).setCell ⟨xb, 4, none⟩ (.int .i64 y.br)).setCell ⟨xb, 5, none⟩ (.int .i64 y.pa)).setCell ⟨xb, 6, none⟩ (.int .i64 y.n)).drew) := (((((Below.refl xb wr).setCell (p := ⟨xb, 3, none⟩) (Nat.le_refl _) (.int .i64 y.sy)).setCell (p := ⟨xb, 4, none⟩) (Nat.le_refl _) (.int .i64 y.br)).setCell (p := ⟨xb, 5, none⟩) (Nat.le_refl _) (.int .i64 y.pa)).setCell (p := ⟨xb, 6, none⟩) (Nat.le_refl _) (.int .i64 y.n)).trans ⟨rfl, rfl, rfl, Nat.le_refl _, fun _ _ => rfl⟩
            have hrsN := hls.rs.belowB hbx hls.o1
            have hcm : (((((wr.setCell ⟨xb, 3, none⟩ (.int .i64 y.sy)).setCell ⟨xb, 4, none⟩ (.int .i64 y.br)).setCell ⟨xb, 5, none⟩ (.int .i64 y.pa)).setCell ⟨xb, 6, none⟩ (.int .i64 y.n)).drew).cell? ⟨mb, 4, none⟩ = some (.bool (decide (4 ∈ rowE (K : Nat)))) := by
              rw [← hls.nm (i := 4) (by omega)]
              have hm := hls.o2
              have hmx : ¬ xb = mb := by omega
              simp [World.cell?, World.setCell, World.drew, Array.getElem?_modify, hmx]
            clear hls hbx a0 a1 a2 a3 a4 a5 a6 a7 a8 a9 f3 f4 f5 f6 l0 l1 l2 l3 hne hne' hd4 hlt hj
            generalize ((((wr.setCell ⟨xb, 3, none⟩ (.int .i64 y.sy)).setCell ⟨xb, 4, none⟩ (.int .i64 y.br)).setCell ⟨xb, 5, none⟩ (.int .i64 y.pa)).setCell ⟨xb, 6, none⟩ (.int .i64 y.n)).drew = wA at *
            obtain ⟨b4, hb4⟩ : ∃ b, decide (4 ∈ rowE (K : Nat)) = b := ⟨_, rfl⟩
            rw [hb4] at hcm
            cases b4
            · have HQ5 : Hid (rowQ y [] (rest.drop c) = r) := by
                show _ = _
                rw [← HRQ4.out, if_neg (by simpa using hb4)]
              clear hb4 HRQ4
              by_cases hcr : c = rest.length
              · have HIS : Hid (IsE (fun g => w.heap.size ≤ g ∧ g < (put10 wA w.heap.size (.int .i64 (K : Nat)) (.int .i64 (n0 : Nat)) (.int .i64 (n1 : Nat)) (.int .i64 y.sy) (.int .i64 y.br) (.int .i64 y.pa) (.int .i64 y.n) (.int .i64 0) (.int .i64 0) (.slice none 0 0)).heap.size) (put10 wA w.heap.size (.int .i64 (K : Nat)) (.int .i64 (n0 : Nat)) (.int .i64 (n1 : Nat)) (.int .i64 y.sy) (.int .i64 y.br) (.int .i64 y.pa) (.int .i64 y.n) (.int .i64 0) (.int .i64 0) (.slice none 0 0)) y (.agg #[.int .i64 (K : Nat), .int .i64 (n0 : Nat), .int .i64 (n1 : Nat), .int .i64 y.sy, .int .i64 y.br, .int .i64 y.pa, .int .i64 y.n, .int .i64 0, .int .i64 0, .slice none 0 0])) := by
                  obtain ⟨e1, e2, e3, e4⟩ := HEY.out
                  exact ⟨0, 0, none, 0, 0, by unfold evC; rw [e1, e2, e3], by rw [e4]; exact IsV_zero _ _, HRG.out⟩
                have hry : r = some y := by
                  rw [← HQ5.out, List.drop_eq_nil_of_le (by omega)]
                  rfl
                subst hry
                obtain rfl : q = np := by omega
                clear hnr hqc hcr hc HQ5
                obtain ⟨x0, x1, x2, x3, x4, x5, x6, x7, x8, x9⟩ := BE.c hxN
                obtain ⟨y0, y1, y2, y3, y4, y5, y6, y7, y8, y9⟩ := BE.c hrsN.rs
                have z0 := hrsN.rs.fz 0
                have z1 := hrsN.rs.fz 1
                have z2 := hrsN.rs.fz 2
                have z3 := hrsN.rs.fz 3
                have z4 := hrsN.rs.fz 4
                have z5 := hrsN.rs.fz 5
                have z6 := hrsN.rs.fz 6
                have z7 := hrsN.rs.fz 7
                have z8 := hrsN.rs.fz 8
                have z9 := hrsN.rs.fz 9
                have hout := BE.put hrsN.rs (.int .i64 (K : Nat)) (.int .i64 (n0 : Nat)) (.int .i64 (n1 : Nat)) (.int .i64 y.sy) (.int .i64 y.br) (.int .i64 y.pa) (.int .i64 y.n) (.int .i64 0) (.int .i64 0) (.slice none 0 0)
                have hbo := hrsN.bb.trans (put10_below (g := w.heap.size) (Nat.le_refl _) (.int .i64 (K : Nat)) (.int .i64 (n0 : Nat)) (.int .i64 (n1 : Nat)) (.int .i64 y.sy) (.int .i64 y.br) (.int .i64 y.pa) (.int .i64 y.n) (.int .i64 0) (.int .i64 0) (.slice none 0 0))
                obtain ⟨v0, v1, v2, v3, v4, v5, v6, v7, v8, v9⟩ := BE.c hout
                unfold put10 at v0 v1 v2 v3 v4 v5 v6 v7 v8 v9
                clear hrsN hxN hout
                go_wp2_with fail
                exact bodyPost_ret (v := .tuple #[.agg #[.int .i64 (K : Nat), .int .i64 (n0 : Nat), .int .i64 (n1 : Nat), .int .i64 y.sy, .int .i64 y.br, .int .i64 y.pa, .int .i64 y.n, .int .i64 0, .int .i64 0, .slice none 0 0], .int .i64 0]) (by simp [results, Tryz.results10, go_sem, v0, v1, v2, v3, v4, v5, v6, v7, v8, v9]) rfl ⟨⟨_, rfl, HIS.out⟩, hbo⟩
              · have hrn : r = none := by
                  rw [← HQ5.out]
                  have hcl : c < rest.length := by omega
                  rw [List.drop_eq_getElem_cons hcl]
                  rfl
                subst hrn
                have iq : ¬ q = np := by omega
                have iq1 : ((q : Int) != (np : Int)) = true := by simp; omega
                have iq2 : (q != np) = true := by simpa using iq
                clear hnr hqc hcr hc HQ5 hxN
                obtain ⟨x0, x1, x2, x3, x4, x5, x6, x7, x8, x9⟩ := BE.c hrsN.no
                obtain ⟨y0, y1, y2, y3, y4, y5, y6, y7, y8, y9⟩ := BE.c hrsN.rs
                have z0 := hrsN.rs.fz 0
                have z1 := hrsN.rs.fz 1
                have z2 := hrsN.rs.fz 2
                have z3 := hrsN.rs.fz 3
                have z4 := hrsN.rs.fz 4
                have z5 := hrsN.rs.fz 5
                have z6 := hrsN.rs.fz 6
                have z7 := hrsN.rs.fz 7
                have z8 := hrsN.rs.fz 8
                have z9 := hrsN.rs.fz 9
                have hout := BE.put hrsN.rs (.int .i64 0) (.int .i64 0) (.int .i64 0) (.int .i64 0) (.int .i64 0) (.int .i64 0) (.int .i64 0) (.int .i64 0) (.int .i64 0) (.slice none 0 0)
                have hbo := hrsN.bb.trans (put10_below (g := w.heap.size) (Nat.le_refl _) (.int .i64 0) (.int .i64 0) (.int .i64 0) (.int .i64 0) (.int .i64 0) (.int .i64 0) (.int .i64 0) (.int .i64 0) (.int .i64 0) (.slice none 0 0))
                obtain ⟨v0, v1, v2, v3, v4, v5, v6, v7, v8, v9⟩ := BE.c hout
                unfold put10 at v0 v1 v2 v3 v4 v5 v6 v7 v8 v9
                clear hrsN hout
                go_wp2_with fail
                exact bodyPost_ret (v := .tuple #[.agg zeroC, .int .i64 230]) (by simp [results, Tryz.results10, go_sem, zeroC, v0, v1, v2, v3, v4, v5, v6, v7, v8, v9]) rfl ⟨rfl, hbo⟩
            · have HQ5 : Hid (rowQ y [4] (rest.drop c) = r) := by
                show _ = _
                rw [← HRQ4.out, if_pos (by simpa using hb4)]
              clear hb4 HRQ4
              by_cases hcl : c < rest.length
              · have hd6 : decide ((np : Int) ≤ (q : Int)) = false := by simp; omega
                have iq : q < np := by omega
                have iq2 : ¬ np ≤ q := by omega
                have jq : (q : Int) < (np : Int) := by omega
                obtain ⟨P, hP⟩ : ∃ P, rest[c] = P := ⟨_, rfl⟩
                have hcP : wA.cell? ⟨g, q, none⟩ = some (.string P) := hrsN.row.at_ (by rw [hqc]; simp [List.getElem?_eq_getElem hcl, hP])
                have hPz : P.size ≤ maxLen := by have := HSZ.out P (by rw [HPS.out, ← hP]; simp [List.getElem_mem]); unfold maxLen; omega
                have HS3 : Hid ((match fldP y 4 P with | some z => rowQ z [] (rest.drop (c + 1)) | none => none) = r) := by
                  show _ = _
                  rw [← HQ5.out, List.drop_eq_getElem_cons hcl, hP, rowQ]
                  cases fldP y 4 P <;> rfl
                have HQC := Lib.hid hqc
                clear hP HQ5 hqc
                go_wp2_with fail
                refine (rParse_any P hPz _).mono ?_
                intro e w11 hpe
                rcases hp : parse P with j | t
                · rw [hp] at hpe
                  obtain ⟨rfl, hb11⟩ := hpe
                  have hrn : r = none := by
                    rw [← HS3.out]
                    unfold fldP
                    rw [if_pos rfl, hp]
                  subst hrn
                  have hst12 := (hrsN.below hb11).below (below_alloc w11 (.cells #[.int .i64 0, .int .i64 0, .slice none 0 0] 27))
                  clear hp HS3 hrsN hxN hcm hcP hb11
                  go_upto_region 34 with fail
                  generalize w11.alloc (.cells #[.int .i64 0, .int .i64 0, .slice none 0 0] 27) = w12 at *
                  clear hnr hc
                  obtain ⟨x0, x1, x2, x3, x4, x5, x6, x7, x8, x9⟩ := BE.c hst12.no
                  obtain ⟨y0, y1, y2, y3, y4, y5, y6, y7, y8, y9⟩ := BE.c hst12.rs
                  have z0 := hst12.rs.fz 0
                  have z1 := hst12.rs.fz 1
                  have z2 := hst12.rs.fz 2
                  have z3 := hst12.rs.fz 3
                  have z4 := hst12.rs.fz 4
                  have z5 := hst12.rs.fz 5
                  have z6 := hst12.rs.fz 6
                  have z7 := hst12.rs.fz 7
                  have z8 := hst12.rs.fz 8
                  have z9 := hst12.rs.fz 9
                  have hout := BE.put hst12.rs (.int .i64 0) (.int .i64 0) (.int .i64 0) (.int .i64 0) (.int .i64 0) (.int .i64 0) (.int .i64 0) (.int .i64 0) (.int .i64 0) (.slice none 0 0)
                  have hbo := hst12.bb.trans (put10_below (g := w.heap.size) (Nat.le_refl _) (.int .i64 0) (.int .i64 0) (.int .i64 0) (.int .i64 0) (.int .i64 0) (.int .i64 0) (.int .i64 0) (.int .i64 0) (.int .i64 0) (.slice none 0 0))
                  obtain ⟨v0, v1, v2, v3, v4, v5, v6, v7, v8, v9⟩ := BE.c hout
                  unfold put10 at v0 v1 v2 v3 v4 v5 v6 v7 v8 v9
                  clear hst12 hout
                  go_wp2_with fail
                  exact bodyPost_ret (v := .tuple #[.agg zeroC, .int .i64 230]) (by simp [results, Tryz.results10, go_sem, zeroC, v0, v1, v2, v3, v4, v5, v6, v7, v8, v9]) rfl ⟨rfl, hbo⟩
                · rw [hp] at hpe
                  obtain ⟨v, rfl, hv, hb11⟩ := hpe
                  obtain ⟨kv, nv, av, lv, cv, rfl⟩ := hv.form
                  have hb12 := below_alloc w11 (.cells #[.int .i64 kv, .int .i64 nv, .slice av lv cv] 27)
                  have hst12 := (hrsN.below hb11).below hb12
                  have hx12 := BE.belowAll (BE.belowAll hxN hb11) hb12
                  have hbv := Bx.new w11 27 (.int .i64 kv) (.int .i64 nv) (.slice av lv cv)
                  have hlt11 := hb11.size
                  have hv12 : IsV (fun g => xb < g ∧ g < (w11.alloc (.cells #[.int .i64 kv, .int .i64 nv, .slice av lv cv] 27)).heap.size) (w11.alloc (.cells #[.int .i64 kv, .int .i64 nv, .slice av lv cv] 27)) t (.agg #[.int .i64 kv, .int .i64 nv, .slice av lv cv]) := by
                    have hxA := BE.lt hxN
                    exact (hv.keep fun g hg o => World.cell?_of_block (w := w11) (hb12.block g hg.2)).more fun g hg => ⟨by omega, by have := hb12.size; omega⟩
                  have HS4 : Hid (rowQ { y with v := t } [] (rest.drop (c + 1)) = r) := by
                    show _ = _
                    rw [← HS3.out]
                    unfold fldP
                    rw [if_pos rfl, hp]
                  have hxb11 : xb < w11.heap.size := Nat.lt_of_lt_of_le (BE.lt hxN) hlt11
                  clear hp HS3 hrsN hxN hcm hcP hb11 hb12 hv
                  have c0 := hbv.c0
                  have c1 := hbv.c1
                  have c2 := hbv.c2
                  go_upto_region 34 with fail
                  generalize w11.alloc (.cells #[.int .i64 kv, .int .i64 nv, .slice av lv cv] 27) = w12 at *
                  generalize w11.heap.size = vb at *
                  obtain ⟨a0, a1, a2, a3, a4, a5, a6, a7, a8, a9⟩ := BE.c hx12
                  have f7 := hx12.fz 7
                  have f8 := hx12.fz 8
                  have f9 := hx12.fz 9
                  have hx13 : BE (((w12.setCell ⟨xb, 7, none⟩ (.int .i64 kv)).setCell ⟨xb, 8, none⟩ (.int .i64 nv)).setCell ⟨xb, 9, none⟩ (.slice av lv cv)) xb #[.int .i64 (K : Nat), .int .i64 (n0 : Nat), .int .i64 (n1 : Nat), .int .i64 y.sy, .int .i64 y.br, .int .i64 y.pa, .int .i64 y.n, .int .i64 kv, .int .i64 nv, .slice av lv cv] := by
                    have h := hx12
                    unfold BE at h ⊢
                    simp [World.setCell, Array.getElem?_modify, h]
                  have hbx : Below xb w12 (((w12.setCell ⟨xb, 7, none⟩ (.int .i64 kv)).setCell ⟨xb, 8, none⟩ (.int .i64 nv)).setCell ⟨xb, 9, none⟩ (.slice av lv cv)) := (((Below.refl xb w12).setCell (p := ⟨xb, 7, none⟩) (Nat.le_refl _) (.int .i64 kv)).setCell (p := ⟨xb, 8, none⟩) (Nat.le_refl _) (.int .i64 nv)).setCell (p := ⟨xb, 9, none⟩) (Nat.le_refl _) (.slice av lv cv)
                  have hst13 := hst12.belowB hbx hxn
                  have hv13 : IsV (fun g => xb < g ∧ g < (((w12.setCell ⟨xb, 7, none⟩ (.int .i64 kv)).setCell ⟨xb, 8, none⟩ (.int .i64 nv)).setCell ⟨xb, 9, none⟩ (.slice av lv cv)).heap.size) (((w12.setCell ⟨xb, 7, none⟩ (.int .i64 kv)).setCell ⟨xb, 8, none⟩ (.int .i64 nv)).setCell ⟨xb, 9, none⟩ (.slice av lv cv)) t (.agg #[.int .i64 kv, .int .i64 nv, .slice av lv cv]) := by
                    refine (hv12.keep fun g hg o => ?_).more fun g hg => ⟨hg.1, by have := hbx.size; omega⟩
                    have hgx' : ¬ xb = g := by omega
                    simp [World.cell?, World.setCell, Array.getElem?_modify, hgx']
                  go_upto_region 37 with fail
                  clear a0 a1 a2 a3 a4 a5 a6 a7 a8 a9 f7 f8 f9 c0 c1 c2 hbv hx12 hst12 hbx hv12
                  generalize ((w12.setCell ⟨xb, 7, none⟩ (.int .i64 kv)).setCell ⟨xb, 8, none⟩ (.int .i64 nv)).setCell ⟨xb, 9, none⟩ (.slice av lv cv) = w13 at *
                  have hqc := HQC.out
                  by_cases hcr : c + 1 = rest.length
                  · have hry : r = some { y with v := t } := by
                      rw [← HS4.out, List.drop_eq_nil_of_le (by omega)]
                      rfl
                    subst hry
                    have iq5 : (((q : Int) + 1) != (np : Int)) = false := by simp; omega
                    have iq6 : ((q + 1) != np) = false := by simp; omega
                    have iq7 : (q : Int) + 1 = (np : Int) := by omega
                    have hoy := hst13.o1
                    have hoz := hst13.o2
                    have HIS : Hid (IsE (fun g => w.heap.size ≤ g ∧ g < (put10 w13 w.heap.size (.int .i64 (K : Nat)) (.int .i64 (n0 : Nat)) (.int .i64 (n1 : Nat)) (.int .i64 y.sy) (.int .i64 y.br) (.int .i64 y.pa) (.int .i64 y.n) (.int .i64 kv) (.int .i64 nv) (.slice av lv cv)).heap.size) (put10 w13 w.heap.size (.int .i64 (K : Nat)) (.int .i64 (n0 : Nat)) (.int .i64 (n1 : Nat)) (.int .i64 y.sy) (.int .i64 y.br) (.int .i64 y.pa) (.int .i64 y.n) (.int .i64 kv) (.int .i64 nv) (.slice av lv cv)) { y with v := t } (.agg #[.int .i64 (K : Nat), .int .i64 (n0 : Nat), .int .i64 (n1 : Nat), .int .i64 y.sy, .int .i64 y.br, .int .i64 y.pa, .int .i64 y.n, .int .i64 kv, .int .i64 nv, .slice av lv cv])) := by
                      obtain ⟨e1, e2, e3, e4⟩ := HEY.out
                      refine ⟨kv, nv, av, lv, cv, by unfold evC; dsimp only; rw [e1, e2, e3], (hv13.keep fun g hg o => World.cell?_of_block (w := w13) (put10_block (j := g) (by omega) _ _ _ _ _ _ _ _ _ _)).more fun g hg => ⟨by omega, by rw [put10_size]; exact hg.2⟩, ?_⟩
                      obtain ⟨r1, r2, r3, r4, r5, r6, r7⟩ := HRG.out
                      exact ⟨r1, r2, r3, r4, r5, r6, r7⟩
                    clear hnr hqc hcr hc HS4 hv13 hd6 jq
                    obtain ⟨x0, x1, x2, x3, x4, x5, x6, x7, x8, x9⟩ := BE.c hx13
                    obtain ⟨y0, y1, y2, y3, y4, y5, y6, y7, y8, y9⟩ := BE.c hst13.rs
                    have z0 := hst13.rs.fz 0
                    have z1 := hst13.rs.fz 1
                    have z2 := hst13.rs.fz 2
                    have z3 := hst13.rs.fz 3
                    have z4 := hst13.rs.fz 4
                    have z5 := hst13.rs.fz 5
                    have z6 := hst13.rs.fz 6
                    have z7 := hst13.rs.fz 7
                    have z8 := hst13.rs.fz 8
                    have z9 := hst13.rs.fz 9
                    have hout := BE.put hst13.rs (.int .i64 (K : Nat)) (.int .i64 (n0 : Nat)) (.int .i64 (n1 : Nat)) (.int .i64 y.sy) (.int .i64 y.br) (.int .i64 y.pa) (.int .i64 y.n) (.int .i64 kv) (.int .i64 nv) (.slice av lv cv)
                    have hbo := hst13.bb.trans (put10_below (g := w.heap.size) (Nat.le_refl _) (.int .i64 (K : Nat)) (.int .i64 (n0 : Nat)) (.int .i64 (n1 : Nat)) (.int .i64 y.sy) (.int .i64 y.br) (.int .i64 y.pa) (.int .i64 y.n) (.int .i64 kv) (.int .i64 nv) (.slice av lv cv))
                    obtain ⟨v0, v1, v2, v3, v4, v5, v6, v7, v8, v9⟩ := BE.c hout
                    unfold put10 at v0 v1 v2 v3 v4 v5 v6 v7 v8 v9
                    clear hst13 hx13 hout
                    go_wp2_with fail
                    exact bodyPost_ret (v := .tuple #[.agg #[.int .i64 (K : Nat), .int .i64 (n0 : Nat), .int .i64 (n1 : Nat), .int .i64 y.sy, .int .i64 y.br, .int .i64 y.pa, .int .i64 y.n, .int .i64 kv, .int .i64 nv, .slice av lv cv], .int .i64 0]) (by simp [results, Tryz.results10, go_sem, v0, v1, v2, v3, v4, v5, v6, v7, v8, v9]) rfl ⟨⟨_, rfl, HIS.out⟩, hbo⟩
                  · have hrn : r = none := by
                      rw [← HS4.out]
                      have hcl2 : c + 1 < rest.length := by omega
                      rw [List.drop_eq_getElem_cons hcl2]
                      rfl
                    subst hrn
                    have iq5 : (((q : Int) + 1) != (np : Int)) = true := by simp; omega
                    have iq6 : ((q + 1) != np) = true := by simp; omega
                    have iq7 : ¬ (q : Int) + 1 = (np : Int) := by omega
                    clear hnr hqc hcr hc HS4 hv13 hx13 hd6
                    obtain ⟨x0, x1, x2, x3, x4, x5, x6, x7, x8, x9⟩ := BE.c hst13.no
                    obtain ⟨y0, y1, y2, y3, y4, y5, y6, y7, y8, y9⟩ := BE.c hst13.rs
                    have z0 := hst13.rs.fz 0
                    have z1 := hst13.rs.fz 1
                    have z2 := hst13.rs.fz 2
                    have z3 := hst13.rs.fz 3
                    have z4 := hst13.rs.fz 4
                    have z5 := hst13.rs.fz 5
                    have z6 := hst13.rs.fz 6
                    have z7 := hst13.rs.fz 7
                    have z8 := hst13.rs.fz 8
                    have z9 := hst13.rs.fz 9
                    have hout := BE.put hst13.rs (.int .i64 0) (.int .i64 0) (.int .i64 0) (.int .i64 0) (.int .i64 0) (.int .i64 0) (.int .i64 0) (.int .i64 0) (.int .i64 0) (.slice none 0 0)
                    have hbo := hst13.bb.trans (put10_below (g := w.heap.size) (Nat.le_refl _) (.int .i64 0) (.int .i64 0) (.int .i64 0) (.int .i64 0) (.int .i64 0) (.int .i64 0) (.int .i64 0) (.int .i64 0) (.int .i64 0) (.slice none 0 0))
                    obtain ⟨v0, v1, v2, v3, v4, v5, v6, v7, v8, v9⟩ := BE.c hout
                    unfold put10 at v0 v1 v2 v3 v4 v5 v6 v7 v8 v9
                    clear hst13 hout
                    go_wp2_with fail
                    exact bodyPost_ret (v := .tuple #[.agg zeroC, .int .i64 230]) (by simp [results, Tryz.results10, go_sem, zeroC, v0, v1, v2, v3, v4, v5, v6, v7, v8, v9]) rfl ⟨rfl, hbo⟩
              · have hd6 : decide ((np : Int) ≤ (q : Int)) = true := by simp; omega
                have hrn : r = none := by
                  rw [← HQ5.out, List.drop_eq_nil_of_le (by omega)]
                  rfl
                subst hrn
                have iq : np ≤ q := by omega
                have hd7 : decide (np ≤ q) = true := by simpa using iq
                clear hnr hcl hc HQ5 hxN hqc
                obtain ⟨x0, x1, x2, x3, x4, x5, x6, x7, x8, x9⟩ := BE.c hrsN.no
                obtain ⟨y0, y1, y2, y3, y4, y5, y6, y7, y8, y9⟩ := BE.c hrsN.rs
                have z0 := hrsN.rs.fz 0
                have z1 := hrsN.rs.fz 1
                have z2 := hrsN.rs.fz 2
                have z3 := hrsN.rs.fz 3
                have z4 := hrsN.rs.fz 4
                have z5 := hrsN.rs.fz 5
                have z6 := hrsN.rs.fz 6
                have z7 := hrsN.rs.fz 7
                have z8 := hrsN.rs.fz 8
                have z9 := hrsN.rs.fz 9
                have hout := BE.put hrsN.rs (.int .i64 0) (.int .i64 0) (.int .i64 0) (.int .i64 0) (.int .i64 0) (.int .i64 0) (.int .i64 0) (.int .i64 0) (.int .i64 0) (.slice none 0 0)
                have hbo := hrsN.bb.trans (put10_below (g := w.heap.size) (Nat.le_refl _) (.int .i64 0) (.int .i64 0) (.int .i64 0) (.int .i64 0) (.int .i64 0) (.int .i64 0) (.int .i64 0) (.int .i64 0) (.int .i64 0) (.slice none 0 0))
                obtain ⟨v0, v1, v2, v3, v4, v5, v6, v7, v8, v9⟩ := BE.c hout
                unfold put10 at v0 v1 v2 v3 v4 v5 v6 v7 v8 v9
                clear hrsN hout
                go_wp2_with fail
                exact bodyPost_ret (v := .tuple #[.agg zeroC, .int .i64 230]) (by simp [results, Tryz.results10, go_sem, zeroC, v0, v1, v2, v3, v4, v5, v6, v7, v8, v9]) rfl ⟨rfl, hbo⟩
      · have hrn : r = none := by
          rw [← HR.out]
          refine parse_bad HPS.out ?_
          cases b0
          · exact .inl (none_of HB0.out)
          · cases b1
            · exact .inr (.inl (none_of HB1.out))
            · refine .inr (.inr ?_)
              have := HK.out
              cases hk : kindE p2 with
              | none => rfl
              | some k =>
                have h9 := (kEGo_lt hk).2
                rw [hk] at this
                simp at this
                exact absurd ⟨rfl, rfl, by omega⟩ hok
        subst hrn
        have hd9 : b0 = true → b1 = true → decide (9 < (K : Int)) = true := by
          intro h1 h2
          have : ¬ K < 10 := fun h => hok ⟨h1, h2, h⟩
          simp
          omega
        have HD9 := Lib.hid hd9
        clear hok hd9
        cases b0
        · clear HD9
          obtain ⟨x0, x1, x2, x3, x4, x5, x6, x7, x8, x9⟩ := BE.c hst6.no
          obtain ⟨y0, y1, y2, y3, y4, y5, y6, y7, y8, y9⟩ := BE.c hst6.rs
          have z0 := hst6.rs.fz 0
          have z1 := hst6.rs.fz 1
          have z2 := hst6.rs.fz 2
          have z3 := hst6.rs.fz 3
          have z4 := hst6.rs.fz 4
          have z5 := hst6.rs.fz 5
          have z6 := hst6.rs.fz 6
          have z7 := hst6.rs.fz 7
          have z8 := hst6.rs.fz 8
          have z9 := hst6.rs.fz 9
          have hout := BE.put hst6.rs (.int .i64 0) (.int .i64 0) (.int .i64 0) (.int .i64 0) (.int .i64 0) (.int .i64 0) (.int .i64 0) (.int .i64 0) (.int .i64 0) (.slice none 0 0)
          have hbo := hst6.bb.trans (put10_below (g := w.heap.size) (Nat.le_refl _) (.int .i64 0) (.int .i64 0) (.int .i64 0) (.int .i64 0) (.int .i64 0) (.int .i64 0) (.int .i64 0) (.int .i64 0) (.int .i64 0) (.slice none 0 0))
          obtain ⟨v0, v1, v2, v3, v4, v5, v6, v7, v8, v9⟩ := BE.c hout
          unfold put10 at v0 v1 v2 v3 v4 v5 v6 v7 v8 v9
          clear hst6 hout
          go_wp2_with fail
          exact bodyPost_ret (v := .tuple #[.agg zeroC, .int .i64 230]) (by simp [results, Tryz.results10, go_sem, zeroC, v0, v1, v2, v3, v4, v5, v6, v7, v8, v9]) rfl ⟨rfl, hbo⟩
        · cases b1
          · clear HD9
            obtain ⟨x0, x1, x2, x3, x4, x5, x6, x7, x8, x9⟩ := BE.c hst6.no
            obtain ⟨y0, y1, y2, y3, y4, y5, y6, y7, y8, y9⟩ := BE.c hst6.rs
            have z0 := hst6.rs.fz 0
            have z1 := hst6.rs.fz 1
            have z2 := hst6.rs.fz 2
            have z3 := hst6.rs.fz 3
            have z4 := hst6.rs.fz 4
            have z5 := hst6.rs.fz 5
            have z6 := hst6.rs.fz 6
            have z7 := hst6.rs.fz 7
            have z8 := hst6.rs.fz 8
            have z9 := hst6.rs.fz 9
            have hout := BE.put hst6.rs (.int .i64 0) (.int .i64 0) (.int .i64 0) (.int .i64 0) (.int .i64 0) (.int .i64 0) (.int .i64 0) (.int .i64 0) (.int .i64 0) (.slice none 0 0)
            have hbo := hst6.bb.trans (put10_below (g := w.heap.size) (Nat.le_refl _) (.int .i64 0) (.int .i64 0) (.int .i64 0) (.int .i64 0) (.int .i64 0) (.int .i64 0) (.int .i64 0) (.int .i64 0) (.int .i64 0) (.slice none 0 0))
            obtain ⟨v0, v1, v2, v3, v4, v5, v6, v7, v8, v9⟩ := BE.c hout
            unfold put10 at v0 v1 v2 v3 v4 v5 v6 v7 v8 v9
            clear hst6 hout
            go_wp2_with fail
            exact bodyPost_ret (v := .tuple #[.agg zeroC, .int .i64 230]) (by simp [results, Tryz.results10, go_sem, zeroC, v0, v1, v2, v3, v4, v5, v6, v7, v8, v9]) rfl ⟨rfl, hbo⟩
          · have hd9 := HD9.out rfl rfl
            clear HD9
            obtain ⟨x0, x1, x2, x3, x4, x5, x6, x7, x8, x9⟩ := BE.c hst6.no
            obtain ⟨y0, y1, y2, y3, y4, y5, y6, y7, y8, y9⟩ := BE.c hst6.rs
            have z0 := hst6.rs.fz 0
            have z1 := hst6.rs.fz 1
            have z2 := hst6.rs.fz 2
            have z3 := hst6.rs.fz 3
            have z4 := hst6.rs.fz 4
            have z5 := hst6.rs.fz 5
            have z6 := hst6.rs.fz 6
            have z7 := hst6.rs.fz 7
            have z8 := hst6.rs.fz 8
            have z9 := hst6.rs.fz 9
            have hout := BE.put hst6.rs (.int .i64 0) (.int .i64 0) (.int .i64 0) (.int .i64 0) (.int .i64 0) (.int .i64 0) (.int .i64 0) (.int .i64 0) (.int .i64 0) (.slice none 0 0)
            have hbo := hst6.bb.trans (put10_below (g := w.heap.size) (Nat.le_refl _) (.int .i64 0) (.int .i64 0) (.int .i64 0) (.int .i64 0) (.int .i64 0) (.int .i64 0) (.int .i64 0) (.int .i64 0) (.int .i64 0) (.slice none 0 0))
            obtain ⟨v0, v1, v2, v3, v4, v5, v6, v7, v8, v9⟩ := BE.c hout
            unfold put10 at v0 v1 v2 v3 v4 v5 v6 v7 v8 v9
            clear hst6 hout
            go_wp2_with fail
            exact bodyPost_ret (v := .tuple #[.agg zeroC, .int .i64 230]) (by simp [results, Tryz.results10, go_sem, zeroC, v0, v1, v2, v3, v4, v5, v6, v7, v8, v9]) rfl ⟨rfl, hbo⟩
end Go.Proofs.YtjldbbcdhdfliaaGreatDoor
