/-
  The lines of a text, byte by byte: what Cut cuts. Plain.
-/
import Derived.Test.YtkahboomahhdoaaDoorEach
import Derived.Test.YtkahboomahhdoaaDoorRr10
namespace Go.Proofs.YtkahboomahhdoaaDoor
open Go.RowKit

theorem index_at : ∀ (a b : List UInt8), (∀ c ∈ a, c ≠ 10) → Lib.index (a ++ 10 :: b) [10] = a.length
  | [], b, _ => by rw [List.nil_append, Lib.index]; simp [List.isPrefixOf]
  | x :: a, b, h => by
    have hx : x ≠ 10 := h x (by simp)
    have ih := index_at a b (fun c hc => h c (by simp [hc]))
    rw [List.cons_append, Lib.index, ih]
    have h1 : ([10] : List UInt8).isPrefixOf (x :: (a ++ 10 :: b)) = false := by simp [List.isPrefixOf, Ne.symm hx]
    rw [h1, if_neg (by simp)]
    have h2 : ((a.length : Int) == -1) = false := by rw [beq_eq_false_iff_ne]; omega
    rw [h2, if_neg (by simp)]
    simp
theorem index_no : ∀ (a : List UInt8), (∀ c ∈ a, c ≠ 10) → Lib.index a [10] = -1
  | [], _ => by rw [Lib.index]; rfl
  | x :: a, h => by
    have hx : x ≠ 10 := h x (by simp)
    have ih := index_no a (fun c hc => h c (by simp [hc]))
    rw [Lib.index, ih]
    have h1 : ([10] : List UInt8).isPrefixOf (x :: a) = false := by simp [List.isPrefixOf, Ne.symm hx]
    rw [h1, if_neg (by simp)]
    rfl
theorem cut_at (a b : List UInt8) (h : ∀ c ∈ a, c ≠ 10) : Lib.cut (a ++ 10 :: b) [10] = (a, b, true) := by
  unfold Lib.cut
  rw [index_at a b h, if_pos (by omega)]
  simp
theorem cut_no (a : List UInt8) (h : ∀ c ∈ a, c ≠ 10) : Lib.cut a [10] = (a, [], false) := by
  unfold Lib.cut
  rw [index_no a h, if_neg (by omega)]
def dropB (s : ByteArray) (k : Nat) : ByteArray := s.extract k s.size
theorem dropB_size (s : ByteArray) (k : Nat) : (dropB s k).size = s.size - k := by unfold dropB; simp
theorem ext_list (s : ByteArray) (i j : Nat) : (s.extract i j).data.toList = (s.data.toList.drop i).take (j - i) := by
  rw [ByteArray.data_extract, Array.toList_extract]
theorem dropB_list (s : ByteArray) (k : Nat) : (dropB s k).data.toList = s.data.toList.drop k :=
  (ext_list s k s.size).trans (List.take_of_length_le (by simp))
theorem ba_ext {a b : ByteArray} (h : a.data.toList = b.data.toList) : a = b := by
  obtain ⟨a⟩ := a
  obtain ⟨b⟩ := b
  simp only at h
  rw [show a = b from Array.toList_inj.1 h]
theorem no_ten {s : ByteArray} {f i : Nat} (hno : ∀ k, f ≤ k → k < i → bt s k ≠ 10) : ∀ c ∈ (s.data.toList.drop f).take (i - f), c ≠ 10 := by
  intro c hc e
  subst e
  obtain ⟨k, hk, he⟩ := List.getElem_of_mem hc
  simp only [List.length_take, List.length_drop, Array.length_toList] at hk
  have hs : f + k < s.size := by rw [← ByteArray.size_data]; omega
  have h2 := hno (f + k) (by omega) (by omega)
  apply h2
  unfold bt
  rw [dif_pos hs]
  simp only [List.getElem_take, List.getElem_drop, Array.getElem_toList] at he
  have : s[f + k] = 10 := he
  rw [this]
  rfl
theorem each_line {s : ByteArray} {f i : Nat} (hf : f ≤ i) (hi : i < s.size) (hno : ∀ k, f ≤ k → k < i → bt s k ≠ 10) (h10 : bt s i = 10) : cutA (dropB s f) = s.extract f i ∧ cutB (dropB s f) = dropB s (i + 1) := by
  have hc : s[i] = 10 := by
    unfold bt at h10
    rw [dif_pos hi] at h10
    apply UInt8.toNat_inj.1
    have : (10 : UInt8).toNat = 10 := rfl
    omega
  have hl : s.data.toList.drop f = (s.data.toList.drop f).take (i - f) ++ 10 :: s.data.toList.drop (i + 1) := by
    have h1 : s.data.toList.drop f = (s.data.toList.drop f).take (i - f) ++ (s.data.toList.drop f).drop (i - f) := (List.take_append_drop _ _).symm
    rw [List.drop_drop, show f + (i - f) = i by omega] at h1
    have h2 : s.data.toList.drop i = s.data.toList[i]'(by simpa using hi) :: s.data.toList.drop (i + 1) := List.drop_eq_getElem_cons _
    have h3 : s.data.toList[i]'(by simpa using hi) = 10 := hc
    rw [h3] at h2
    rw [h2] at h1
    exact h1
  have hcut := cut_at _ (s.data.toList.drop (i + 1)) (no_ten hno)
  rw [← hl] at hcut
  constructor
  · apply ba_ext
    unfold cutA
    rw [dropB_list, hcut, ext_list]
  · apply ba_ext
    unfold cutB
    rw [dropB_list, hcut, dropB_list]
theorem each_last {s : ByteArray} {f : Nat} (hno : ∀ k, f ≤ k → k < s.size → bt s k ≠ 10) : cutA (dropB s f) = s.extract f s.size ∧ cutB (dropB s f) = ⟨#[]⟩ := by
  have h0 := no_ten hno
  rw [List.take_of_length_le (by simp)] at h0
  have hcut := cut_no _ h0
  constructor
  · apply ba_ext
    unfold cutA
    rw [dropB_list, hcut]
    show _ = (dropB s f).data.toList
    rw [dropB_list]
  · apply ba_ext
    unfold cutB
    rw [dropB_list, hcut]
theorem each_drop_line {s : ByteArray} {f i : Nat} (hf : f ≤ i) (hi : i < s.size) (hno : ∀ k, f ≤ k → k < i → bt s k ≠ 10) (h10 : bt s i = 10) :
    eachV (dropB s f) = match parse (s.extract f i) with
      | .error _ => []
      | .ok t => t :: eachV (dropB s (i + 1)) := by
  obtain ⟨h1, h2⟩ := each_line hf hi hno h10
  have h0 : ¬ (dropB s f).size = 0 := by rw [dropB_size]; omega
  cases hp : parse (s.extract f i) with
  | error j => exact each_error h0 (by rw [h1]; exact hp)
  | ok t => rw [each_ok h0 (by rw [h1]; exact hp), h2]
theorem each_drop_last {s : ByteArray} {f : Nat} (hf : f < s.size) (hno : ∀ k, f ≤ k → k < s.size → bt s k ≠ 10) :
    eachV (dropB s f) = match parse (s.extract f s.size) with
      | .error _ => []
      | .ok t => [t] := by
  obtain ⟨h1, h2⟩ := each_last hno
  have h0 : ¬ (dropB s f).size = 0 := by rw [dropB_size]; omega
  cases hp : parse (s.extract f s.size) with
  | error j => exact each_error h0 (by rw [h1]; exact hp)
  | ok t => rw [each_ok h0 (by rw [h1]; exact hp), h2, each_empty rfl]
theorem each_drop_none {s : ByteArray} {f : Nat} (hf : s.size ≤ f) : eachV (dropB s f) = [] := each_empty (by rw [dropB_size]; omega)
theorem dropB_zero (s : ByteArray) : dropB s 0 = s := ba_ext (by rw [dropB_list]; rfl)
end Go.Proofs.YtkahboomahhdoaaDoor
/-
  Walks over the reference of layer 5: Each.
-/
namespace Go.Proofs.YtkahboomahhdoaaDoor
open Go.RowKit

/-- A row of values that is being made. -/
structure AccF (lo : Nat) (w : World) (l : List VT) (v : Value) (xs : List Value) : Prop where
  row : w.ownsRow lo 26 3 v l.length xs
  kids : Kids (fun g => lo ≤ g ∧ g < w.heap.size ∧ some g ≠ v.ownBlock) w l xs
  le : lo ≤ w.heap.size
section
variable {lo : Nat} {w w' : World} {l : List VT} {v : Value} {xs : List Value}
theorem AccF.nil (w : World) : AccF w.heap.size w [] (.slice none 0 0) [] := ⟨⟨rfl, .inl ⟨rfl, rfl⟩⟩, rfl, Nat.le_refl _⟩
theorem AccF.below (h : AccF lo w l v xs) (hb : Below w.heap.size w w') : AccF lo w' l v xs := by
  have hle := h.le
  have hsz := hb.size
  refine ⟨?_, (h.kids.keep ?_).more ?_, by omega⟩
  · obtain ⟨h1, h2⟩ := h.row
    refine ⟨h1, ?_⟩
    rcases h2 with h2 | ⟨g, cap, cur, e1, e2, e3, e4⟩
    · exact .inl h2
    · exact .inr ⟨g, cap, cur, e1, e2, (hb.block g (lt_of_heap e3)).trans e3, e4⟩
  · intro g ⟨g1, g2, g3⟩ o
    exact World.cell?_of_block (w := w) (hb.block g g2)
  · intro g ⟨g1, g2, g3⟩
    exact ⟨g1, by omega, g3⟩
theorem AccF.form (h : AccF lo w l v xs) : ∃ (a : Option Addr) (cap : Nat), v = .slice a l.length cap := by
  rcases h.row.2 with ⟨rfl, h0⟩ | ⟨g, cap, cur, rfl, _⟩
  · exact ⟨none, 0, by rw [h0]⟩
  · exact ⟨_, _, rfl⟩
theorem AccF.push {W1 : World} {t : VT} {u0 u1 u2 : Value} {g cap : Nat} (h : AccF lo w l v xs)
    (ht : IsV (fun g => lo ≤ g ∧ g < w.heap.size ∧ some g ≠ v.ownBlock) w t (.agg #[u0, u1, u2]))
    (hown : W1.ownsRow lo 26 3 (.slice (some ⟨g, 0, none⟩) (l.length + 1) cap) (l.length + 1) (xs ++ [u0, u1, u2]))
    (hgr : w.grownBy W1 v.ownBlock) (hat : v.ownBlock = some g ∨ g = w.heap.size) : AccF lo W1 (l ++ [t]) (.slice (some ⟨g, 0, none⟩) (l.length + 1) cap) (xs ++ [u0, u1, u2]) := by
  have hle := h.le
  have hsz := hgr.size
  have hlen : (l ++ [t]).length = l.length + 1 := by simp
  have hj : ∀ j, (lo ≤ j ∧ j < w.heap.size ∧ some j ≠ v.ownBlock) → j ≠ g ∧ W1.heap[j]? = w.heap[j]? := by
    intro j ⟨j1, j2, j3⟩
    have hjg : j ≠ g := by
      rcases hat with e | e
      · intro e2; subst e2; exact j3 e.symm
      · omega
    exact ⟨hjg, hgr.block j j2 j3⟩
  refine ⟨by rw [hlen]; exact hown, ?_, by omega⟩
  refine ((Kids.push ht h.kids).keep fun j hjo o => World.cell?_of_block (w := w) (hj j hjo).2).more fun j hjo => ⟨hjo.1, by have := hjo.2.1; omega, ?_⟩
  intro e
  have : j = g := by simpa [Value.ownBlock] using e
  exact (hj j hjo).1 this
/-- What the row reads as. -/
theorem AccF.isR (h : AccF lo w l v xs) : ∃ (a : Option Addr) (cap : Nat), v = .slice a l.length cap ∧ l.length ≤ cap ∧ cap ≤ maxLen ∧ IsR (fun g => lo ≤ g ∧ g < w.heap.size) w l a 0 := by
  have hrow := h.row
  rcases h.row.2 with ⟨rfl, h0⟩ | ⟨g, cap, cur, rfl, e2, e3, e4, e5, e6, e7⟩
  · have : l = [] := List.eq_nil_of_length_eq_zero h0
    subst this
    exact ⟨none, 0, rfl, Nat.le_refl _, Nat.zero_le _, by rw [IsR]; trivial⟩
  · refine ⟨some ⟨g, 0, none⟩, cap, rfl, e4, e5, ?_⟩
    have hlt := (hrow.lt g rfl).2
    refine (h.kids.more (ok' := fun g => lo ≤ g ∧ g < w.heap.size) fun j hj => ⟨hj.1, hj.2.1⟩).row ⟨e2, hlt⟩ 0 fun j u hj => ?_
    have hjl : j < l.length * 3 := by
      have := (List.getElem?_eq_some_iff.1 hj).1
      rw [hrow.1] at this
      exact this
    rw [show 0 + 0 * 3 + j = j from by omega, hrow.cellAt j hjl]
    exact hj
end
/-- How Each ends. -/
def EachEnds (s : ByteArray) (w : World) (e : Ending) (w' : World) : Prop :=
  ∃ (a : Option Addr) (cap : Nat), e = .returned (.slice a (eachV s).length cap) ∧ (eachV s).length ≤ cap ∧ cap ≤ maxLen ∧ IsR (fun g => w.heap.size ≤ g ∧ g < w'.heap.size) w' (eachV s) a 0 ∧ Below w.heap.size w w'
theorem EachEnds.of {s : ByteArray} {w w' : World} {l : List VT} {v : Value} {xs : List Value} (h : AccF w.heap.size w' l v xs) (he : eachV s = l) (hb : Below w.heap.size w w') : EachEnds s w (.returned v) w' := by
  obtain ⟨a, cap, rfl, h1, h2, h3⟩ := h.isR
  subst he
  exact ⟨a, cap, rfl, h1, h2, h3, hb⟩
set_option maxRecDepth 100000 in
set_option maxHeartbeats 4000000 in
theorem rEach_any (s : ByteArray) (hs : s.size ≤ 100000) (w : World) : Calls Tryd.prog 14 #[.string s] w (EachEnds s w) := by
  obtain ⟨i0, hi0, hz0, hz1, hz2⟩ := info_parts val_info
  go_enter Tryd.func14, Tryd.ntmps14
  go_wp2_with fail
  go_loopw [3, 4, 5] (fun o f i wr => ∃ (l : List VT) (fr ii : Nat) (v : Value) (xs : List Value), o = v ∧ f = .int .i64 fr ∧ i = .int .i64 ii ∧ fr ≤ ii ∧ ii ≤ s.size + 1 ∧ l.length ≤ ii ∧ eachV s = l ++ eachV (dropB s fr) ∧ (ii ≤ s.size → ∀ k, fr ≤ k → k < ii → bt s k ≠ 10) ∧ (ii = s.size + 1 → s.size ≤ fr) ∧ AccF w.heap.size wr l v xs ∧ Below w.heap.size w wr) (fun _ _ i _ => s.size + 2 - (intOf i).toNat)
  case atStart => exact ⟨[], 0, 0, _, [], rfl, rfl, rfl, by omega, by omega, by simp, by rw [dropB_zero]; rfl, fun _ k h1 h2 => by omega, fun h => by omega, AccF.nil w, Below.refl _ _⟩
  case round =>
    obtain ⟨l, fr, ii, v, xs, rfl, rfl, rfl, hfi, his, hll, heq, hno, hend, hacc, hb⟩ := hrel
    have HEQ := Lib.hid heq
    have HNO := Lib.hid hno
    have HEND := Lib.hid hend
    clear heq hno hend
    obtain ⟨va, vcap, hvf⟩ := hacc.form
    subst hvf
    by_cases hle : ii ≤ s.size
    · have hd1 : decide (ii ≤ s.size) = true := by simpa using hle
      have hd1b : decide ((ii : Int) ≤ (s.size : Int)) = true := by simpa using hle
      by_cases hpar : (ii < s.size ∧ bt s ii = 10) ∨ (ii = s.size ∧ fr ≠ ii)
      · have HNEXT : Hid (eachV (dropB s fr) = match parse (s.extract fr ii) with
            | .error _ => []
            | .ok t => t :: eachV (dropB s (ii + 1))) := by
          show _ = _
          rcases hpar with ⟨h1, h2⟩ | ⟨rfl, h2⟩
          · exact each_drop_line hfi h1 (HNO.out hle) h2
          · rw [each_drop_last (by omega) (HNO.out hle)]
            cases parse (s.extract fr s.size) with
            | error j => rfl
            | ok t => dsimp only; rw [each_drop_none (by omega)]
        have hsub : (s.extract fr ii).size ≤ maxLen := by unfold maxLen; simp; omega
        have hfi2 : (fr : Int) ≤ (ii : Int) := by omega
        rcases hpar with ⟨hlt, h10⟩ | ⟨hlast, hne⟩
        case' inl =>
          rw [bt_in hlt] at h10
          have hd2 : decide (ii < s.size) = true := by simpa using hlt
          have hd3 : ((s[ii].toNat : Int) == 10) = true := by simp [h10]
          have hd3b : ((s[ii].toNat : Int) = 10) = True := by simp [h10]
          have hd4 : ((ii : Int) == (s.size : Int)) = false := by simp; omega
          go_upto_region 7 with fail
          go_wp2_with fail
        case' inr =>
          have hd2 : decide (ii < s.size) = false := by simp; omega
          have hd2b : decide ((ii : Int) < (s.size : Int)) = false := by simp; omega
          have hd3 : ((ii : Int) == (s.size : Int)) = true := by simp; omega
          have hd4 : ((fr : Int) == (ii : Int)) = false := by simp; omega
          have hd5 : ((fr : Int) == (s.size : Int)) = false := by simp; omega
          have hex : s.extract fr s.size = s.extract fr ii := by rw [hlast]
          go_upto_region 7 with fail
          go_wp2_with fail
          clear hex
        all_goals
          refine (rParse_any (s.extract fr ii) hsub wr).mono ?_
          intro e w1 h1
          rcases hp : parse (s.extract fr ii) with j | t
          · rw [hp] at h1
            obtain ⟨rfl, hb1⟩ := h1
            have HE : Hid (eachV s = l) := by
              show _ = _
              rw [HEQ.out, HNEXT.out, hp, List.append_nil]
            have hb2 := hb1.trans ((below_alloc w1 (.cells #[.int .i64 0, .int .i64 0, .slice none 0 0] 26)).mono hb1.size)
            clear hp
            go_wp2_with fail
            go_ret
            exact EachEnds.of (hacc.below hb2) HE.out (hb.trans (hb2.mono hb.size))
          · rw [hp] at h1
            obtain ⟨v1, rfl, hv1, hb1⟩ := h1
            obtain ⟨k3, n3, a3, l3, c3, rfl⟩ := hv1.form
            have HE : Hid (eachV s = (l ++ [t]) ++ eachV (dropB s (ii + 1))) := by
              show _ = _
              rw [HEQ.out, HNEXT.out, hp]
              simp
            clear hp
            have hkb : ∀ g, some g = (Value.slice va l.length vcap).ownBlock → g < wr.heap.size := fun g hg => (hacc.row.lt g hg.symm).2
            have hb2 := hb1.trans ((below_alloc w1 (.cells #[.int .i64 k3, .int .i64 n3, .slice a3 l3 c3] 26)).mono hb1.size)
            have hacc2 := hacc.below hb2
            have hbB := hb.trans (hb2.mono hb.size)
            have hv2 : IsV (fun g => w.heap.size ≤ g ∧ g < (w1.alloc (.cells #[.int .i64 k3, .int .i64 n3, .slice a3 l3 c3] 26)).heap.size ∧ some g ≠ (Value.slice va l.length vcap).ownBlock) (w1.alloc (.cells #[.int .i64 k3, .int .i64 n3, .slice a3 l3 c3] 26)) t (.agg #[.int .i64 k3, .int .i64 n3, .slice a3 l3 c3]) := by
              refine (hv1.keep fun g hg o => World.cell?_of_block (w := w1) (Below.heap_alloc _ _ _ hg.2)).more fun g hg => ⟨by have := hacc.le; omega, by simp; omega, fun e => by have := hkb g e; omega⟩
            have hbx := Bx.new w1 26 (.int .i64 k3) (.int .i64 n3) (.slice a3 l3 c3)
            have c0 := hbx.c0
            have c1 := hbx.c1
            have c2 := hbx.c2
            go_upto_region 10 with fail
            clear hacc hb hb1 hb2 hv1 hkb
            generalize w1.alloc (.cells #[.int .i64 k3, .int .i64 n3, .slice a3 l3 c3] 26) = w2 at *
            have hb3 := below_alloc w2 (.cells #[.int .i64 k3, .int .i64 n3, .slice a3 l3 c3] 26)
            have hacc3 := hacc2.below hb3
            have hzz := Bx.new w2 26 (.int .i64 k3) (.int .i64 n3) (.slice a3 l3 c3)
            have hbC := hbB.trans (hb3.mono hbB.size)
            have hv3 : IsV (fun g => w.heap.size ≤ g ∧ g < (w2.alloc (.cells #[.int .i64 k3, .int .i64 n3, .slice a3 l3 c3] 26)).heap.size ∧ some g ≠ (Value.slice va l.length vcap).ownBlock) (w2.alloc (.cells #[.int .i64 k3, .int .i64 n3, .slice a3 l3 c3] 26)) t (.agg #[.int .i64 k3, .int .i64 n3, .slice a3 l3 c3]) := by
              refine (hv2.keep fun g hg o => World.cell?_of_block (w := w2) (Below.heap_alloc _ _ _ hg.2.1)).more fun g hg => ⟨hg.1, by simp; omega, hg.2.2⟩
            clear hacc2 hv2 hbB hb3
            go_wp2_with (at_builtin; refine wpList_append_lies _ rfl (.tmp 48) (.tmp 50) 24 rfl w.heap.size 26 i0 _ 3 40 Tryd.underlying24 hi0 hz0 hz1 hz2 rfl (by decide) (.slice va l.length vcap) l.length xs rfl hacc3.row ⟨w2.heap.size, 0, none⟩ 1 1 [.int .i64 k3, .int .i64 n3, .slice a3 l3 c3] rfl rfl (three_at hzz) (three_one _ _ _ _ _) (by omega) (by unfold maxLen; omega) (by omega) hacc3.le _ rfl ?_; intro g cap w13 hown hgrow hat hglt)
            go_roundw
            case rel => exact ⟨l ++ [t], ii + 1, ii + 1, _, _, rfl, by go_num, by go_num, by omega, by omega, by simp; omega, HE.out, fun _ k h1 h2 => by omega, fun h => by omega, hacc3.push hv3 hown hgrow hat, hbC.trans (below_grown hgrow hbC.size fun g hg => (hacc3.row.lt g hg).1)⟩
            case measure => simp [intOf] <;> omega
      · have HNO2 : Hid (ii + 1 ≤ s.size → ∀ k, fr ≤ k → k < ii + 1 → bt s k ≠ 10) := by
          intro h k h1 h2
          by_cases hk : k = ii
          · subst hk
            intro h3
            exact hpar (.inl ⟨by omega, h3⟩)
          · exact HNO.out hle k h1 (by omega)
        have HEND2 : Hid (ii + 1 = s.size + 1 → s.size ≤ fr) := by
          intro h
          by_cases hk : fr = ii
          · omega
          · exact absurd (.inr ⟨by omega, hk⟩) hpar
        by_cases hlt : ii < s.size
        case' pos =>
          have h10 : ¬ (s[ii].toNat : Int) = 10 := fun h => hpar (.inl ⟨hlt, by rw [bt_in hlt]; exact h⟩)
          have hd2 : decide (ii < s.size) = true := by simpa using hlt
          have hd3 : ((s[ii].toNat : Int) == 10) = false := by simpa using h10
          clear hpar
          go_wp2_with fail
        case' neg =>
          obtain rfl : ii = s.size := by omega
          obtain rfl : fr = s.size := by
            by_cases hk : fr = s.size
            · exact hk
            · exact absurd (.inr ⟨rfl, hk⟩) hpar
          have hd2 : decide (s.size < s.size) = false := by simp
          clear hpar
          go_wp2_with fail
        all_goals
          go_roundw
          case rel => exact ⟨l, _, _, _, xs, rfl, rfl, by go_num, by omega, by omega, by omega, HEQ.out, HNO2.out, HEND2.out, hacc, hb⟩
          case measure => simp [intOf] <;> omega
    · have hd1 : decide (ii ≤ s.size) = false := by simpa using hle
      have hd1b : decide ((ii : Int) ≤ (s.size : Int)) = false := by simpa using hle
      go_wp2_with fail
      go_ret
      exact EachEnds.of hacc (by rw [HEQ.out, each_drop_none (HEND.out (by omega)), List.append_nil]) hb
end Go.Proofs.YtkahboomahhdoaaDoor
