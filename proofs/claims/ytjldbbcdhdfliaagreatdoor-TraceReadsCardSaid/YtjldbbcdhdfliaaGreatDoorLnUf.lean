/-
  The lines of a text, byte by byte: what Cut cuts. Plain.
-/
import Derived.Test.YtjldbbcdhdfliaaGreatDoorTkTl
import Derived.Test.YtjldbbcdhdfliaaGreatDoorUb
namespace Go.Proofs.YtjldbbcdhdfliaaGreatDoor
open Go.RowKit

theorem index_at : ∀ (a b : List UInt8), (∀ c ∈ a, c ≠ 10) → Lib.index (a ++ 10 :: b) [10] = a.length
  | [], b, _ => by rw [List.nil_append, Lib.index]; simp [List.isPrefixOf]
  | x :: a, b, h => by
    have hx : x ≠ 10 := h x (by simp)
    have ih := index_at a b (fun c hc => h c (by simp [hc]))
    rw [List.cons_append, Lib.index, ih]
    have h1 : ([10] : List UInt8).isPrefixOf (x :: (a ++ 10 :: b)) = false := by simp [List.isPrefixOf, Ne.symm hx]
    rw [h1, if_neg (by simp)]
    have h2 : ((a.length : Int) == -1) = false := by rw [beq_eq_false_iff_ne]; omega
    rw [h2, if_neg (by simp)]
    simp
theorem index_no : ∀ (a : List UInt8), (∀ c ∈ a, c ≠ 10) → Lib.index a [10] = -1
  | [], _ => by rw [Lib.index]; rfl
  | x :: a, h => by
    have hx : x ≠ 10 := h x (by simp)
    have ih := index_no a (fun c hc => h c (by simp [hc]))
    rw [Lib.index, ih]
    have h1 : ([10] : List UInt8).isPrefixOf (x :: a) = false := by simp [List.isPrefixOf, Ne.symm hx]
    rw [h1, if_neg (by simp)]
    rfl
theorem cut_at (a b : List UInt8) (h : ∀ c ∈ a, c ≠ 10) : Lib.cut (a ++ 10 :: b) [10] = (a, b, true) := by
  unfold Lib.cut
  rw [index_at a b h, if_pos (by omega)]
  simp
theorem cut_no (a : List UInt8) (h : ∀ c ∈ a, c ≠ 10) : Lib.cut a [10] = (a, [], false) := by
  unfold Lib.cut
  rw [index_no a h, if_neg (by omega)]
def dropB (s : ByteArray) (k : Nat) : ByteArray := s.extract k s.size
theorem dropB_size (s : ByteArray) (k : Nat) : (dropB s k).size = s.size - k := by unfold dropB; simp
theorem ext_list (s : ByteArray) (i j : Nat) : (s.extract i j).data.toList = (s.data.toList.drop i).take (j - i) := by
  rw [ByteArray.data_extract, Array.toList_extract]
theorem dropB_list (s : ByteArray) (k : Nat) : (dropB s k).data.toList = s.data.toList.drop k :=
  (ext_list s k s.size).trans (List.take_of_length_le (by simp))
theorem ba_ext {a b : ByteArray} (h : a.data.toList = b.data.toList) : a = b := by
  obtain ⟨a⟩ := a
  obtain ⟨b⟩ := b
  simp only at h
  rw [show a = b from Array.toList_inj.1 h]
theorem no_ten {s : ByteArray} {f i : Nat} (hno : ∀ k, f ≤ k → k < i → bt s k ≠ 10) : ∀ c ∈ (s.data.toList.drop f).take (i - f), c ≠ 10 := by
  intro c hc e
  subst e
  obtain ⟨k, hk, he⟩ := List.getElem_of_mem hc
  simp only [List.length_take, List.length_drop, Array.length_toList] at hk
  have hs : f + k < s.size := by rw [← ByteArray.size_data]; omega
  have h2 := hno (f + k) (by omega) (by omega)
  apply h2
  unfold bt
  rw [dif_pos hs]
  simp only [List.getElem_take, List.getElem_drop, Array.getElem_toList] at he
  have : s[f + k] = 10 := he
  rw [this]
  rfl
theorem each_line {s : ByteArray} {f i : Nat} (hf : f ≤ i) (hi : i < s.size) (hno : ∀ k, f ≤ k → k < i → bt s k ≠ 10) (h10 : bt s i = 10) : cutA (dropB s f) = s.extract f i ∧ cutB (dropB s f) = dropB s (i + 1) := by
  have hc : s[i] = 10 := by
    unfold bt at h10
    rw [dif_pos hi] at h10
    apply UInt8.toNat_inj.1
    have : (10 : UInt8).toNat = 10 := rfl
    omega
  have hl : s.data.toList.drop f = (s.data.toList.drop f).take (i - f) ++ 10 :: s.data.toList.drop (i + 1) := by
    have h1 : s.data.toList.drop f = (s.data.toList.drop f).take (i - f) ++ (s.data.toList.drop f).drop (i - f) := (List.take_append_drop _ _).symm
    rw [List.drop_drop, show f + (i - f) = i by omega] at h1
    have h2 : s.data.toList.drop i = s.data.toList[i]'(by simpa using hi) :: s.data.toList.drop (i + 1) := List.drop_eq_getElem_cons _
    have h3 : s.data.toList[i]'(by simpa using hi) = 10 := hc
    rw [h3] at h2
    rw [h2] at h1
    exact h1
  have hcut := cut_at _ (s.data.toList.drop (i + 1)) (no_ten hno)
  rw [← hl] at hcut
  constructor
  · apply ba_ext
    unfold cutA
    rw [dropB_list, hcut, ext_list]
  · apply ba_ext
    unfold cutB
    rw [dropB_list, hcut, dropB_list]
theorem each_last {s : ByteArray} {f : Nat} (hno : ∀ k, f ≤ k → k < s.size → bt s k ≠ 10) : cutA (dropB s f) = s.extract f s.size ∧ cutB (dropB s f) = ⟨#[]⟩ := by
  have h0 := no_ten hno
  rw [List.take_of_length_le (by simp)] at h0
  have hcut := cut_no _ h0
  constructor
  · apply ba_ext
    unfold cutA
    rw [dropB_list, hcut]
    show _ = (dropB s f).data.toList
    rw [dropB_list]
  · apply ba_ext
    unfold cutB
    rw [dropB_list, hcut]
theorem lines_line {s : ByteArray} {f i : Nat} (hf : f ≤ i) (hi : i < s.size) (hno : ∀ k, f ≤ k → k < i → bt s k ≠ 10) (h10 : bt s i = 10) : linesS (dropB s f) = s.extract f i :: linesS (dropB s (i + 1)) := by
  obtain ⟨h1, h2⟩ := each_line hf hi hno h10
  rw [lines_cons (by rw [dropB_size]; omega), h1, h2]
theorem lines_last {s : ByteArray} {f : Nat} (hf : f < s.size) (hno : ∀ k, f ≤ k → k < s.size → bt s k ≠ 10) : linesS (dropB s f) = [s.extract f s.size] := by
  obtain ⟨h1, h2⟩ := each_last hno
  rw [lines_cons (by rw [dropB_size]; omega), h1, h2, lines_nil rfl]
theorem lines_none {s : ByteArray} {f : Nat} (hf : s.size ≤ f) : linesS (dropB s f) = [] := lines_nil (by rw [dropB_size]; omega)
theorem dropB_zero (s : ByteArray) : dropB s 0 = s := ba_ext (by rw [dropB_list]; rfl)
end Go.Proofs.YtjldbbcdhdfliaaGreatDoor
/-
  Walks over the reference of layer 23: Lines.
-/
namespace Go.Proofs.YtjldbbcdhdfliaaGreatDoor
open Go.RowKit Go.Sort

/-- A row of texts that is being made. -/
def RowS (lo : Nat) (w : World) (v : Value) (l : List ByteArray) : Prop := w.ownsRow lo 9 1 v l.length (l.map Value.string)
section
variable {lo : Nat} {w w' : World} {v : Value} {l : List ByteArray}
theorem RowS.nil (w : World) : RowS w.heap.size w (.slice none 0 0) [] := ⟨rfl, .inl ⟨rfl, rfl⟩⟩
theorem RowS.form (h : RowS lo w v l) : ∃ (a : Option Addr) (cap : Nat), v = .slice a l.length cap := by
  rcases h.2 with ⟨rfl, h0⟩ | ⟨g, cap, cur, rfl, _⟩
  · exact ⟨none, 0, by rw [h0]⟩
  · exact ⟨_, _, rfl⟩
theorem RowS.below (h : RowS lo w v l) (hb : Below w.heap.size w w') : RowS lo w' v l := by
  obtain ⟨h1, h2⟩ := h
  refine ⟨h1, ?_⟩
  rcases h2 with h2 | ⟨g, cap, cur, e1, e2, e3, e4⟩
  · exact .inl h2
  · exact .inr ⟨g, cap, cur, e1, e2, (hb.block g (lt_of_heap e3)).trans e3, e4⟩
/-- A part of the row. -/
theorem RowS.at_ {a : Option Addr} {n cap : Nat} (h : RowS lo w (.slice a n cap) l) {j : Nat} {x : ByteArray} (hx : l[j]? = some x) : ∃ g, a = some ⟨g, 0, none⟩ ∧ g < w.heap.size ∧ w.cell? ⟨g, j, none⟩ = some (.string x) := by
  have hj := (List.getElem?_eq_some_iff.1 hx).1
  rcases h.2 with ⟨h1, h0⟩ | ⟨g, cap', cur, e1, e2, e3, e4⟩
  · omega
  · injection e1 with e1 e5 e6
    subst e1 e5 e6
    refine ⟨g, rfl, lt_of_heap e3, ?_⟩
    have hc := World.ownsRow.cellAt h j (by omega)
    rw [hc]
    simp [hx]
end
set_option maxRecDepth 100000 in
set_option maxHeartbeats 4000000 in
theorem rLinesE_any (s : ByteArray) (hs : s.size ≤ 100000) (w : World) : Calls Tryz.prog 55 #[.string s] w fun e w' => (∃ v, e = .returned v ∧ RowS w.heap.size w' v (linesS s)) ∧ Below w.heap.size w w' := by
  obtain ⟨i0, hi0, hz0, hz1, hz2⟩ := info_parts str_info
  go_enter Tryz.func55, Tryz.ntmps55
  go_wp2_with fail
  go_loopw [3, 4, 5] (fun o f i wr => ∃ (l : List ByteArray) (fr ii : Nat) (v : Value), o = v ∧ f = .int .i64 (fr : Nat) ∧ i = .int .i64 (ii : Nat) ∧ fr ≤ ii ∧ ii ≤ s.size + 1 ∧ l.length ≤ ii ∧ linesS s = l ++ linesS (dropB s fr) ∧ (ii ≤ s.size → ∀ k, fr ≤ k → k < ii → bt s k ≠ 10) ∧ (ii = s.size + 1 → s.size ≤ fr) ∧ RowS w.heap.size wr v l ∧ Below w.heap.size w wr) (fun _ _ i _ => s.size + 1 - (intOf i).toNat)
  case atStart => exact ⟨[], 0, 0, _, rfl, rfl, rfl, by omega, by omega, by simp, by rw [dropB_zero]; rfl, fun _ k h1 h2 => by omega, fun h => by omega, RowS.nil w, Below.refl _ _⟩
  case round =>
    obtain ⟨l, fr, ii, v, rfl, rfl, rfl, hfi, his, hll, heq, hno, hend, hacc, hb⟩ := hrel
    have HEQ := Lib.hid heq
    have HNO := Lib.hid hno
    have HEND := Lib.hid hend
    clear heq hno hend
    obtain ⟨va, vcap, hvf⟩ := hacc.form
    subst hvf
    by_cases hle : ii ≤ s.size
    · have hd1 : decide (ii ≤ s.size) = true := by simpa using hle
      have hd1b : decide ((ii : Int) ≤ (s.size : Int)) = true := by simpa using hle
      by_cases hpar : (ii < s.size ∧ bt s ii = 10) ∨ (ii = s.size ∧ fr < ii)
      · have HNEXT : Hid (linesS (dropB s fr) = s.extract fr ii :: linesS (dropB s (ii + 1))) := by
          show _ = _
          rcases hpar with ⟨h1, h2⟩ | ⟨rfl, h2⟩
          · exact lines_line hfi h1 (HNO.out hle) h2
          · rw [lines_last (by omega) (HNO.out hle), lines_none (by omega)]
        have hfi2 : (fr : Int) ≤ (ii : Int) := by omega
        have hii : (ii : Int) ≤ (s.size : Int) := by omega
        have HE : Hid (linesS s = (l ++ [s.extract fr ii]) ++ linesS (dropB s (ii + 1))) := by
          show _ = _
          rw [HEQ.out, HNEXT.out]
          simp
        have hb2 := below_alloc wr (.cells #[.string (s.extract fr ii)] 9)
        have hn2 := heap_alloc_new wr (.cells #[.string (s.extract fr ii)] 9)
        have hacc2 := hacc.below hb2
        have hbB := hb.trans (hb2.mono hb.size)
        clear hacc hb hb2
        rcases hpar with ⟨hlt, h10⟩ | ⟨hlast, hne⟩
        case' inl =>
          rw [bt_in hlt] at h10
          have hd2 : decide (ii < s.size) = true := by simpa using hlt
          have hd3 : ((s[ii].toNat : Int) == 10) = true := by simp [h10]
          go_upto_region 7 with fail
        case' inr =>
          have hd2 : decide (ii < s.size) = false := by simp; omega
          have hd2b : decide ((ii : Int) < (s.size : Int)) = false := by simp; omega
          have hd3 : ((ii : Int) == (s.size : Int)) = true := by simp; omega
          have hd4 : decide (fr < ii) = true := by simpa using hne
          have hex : s.extract fr s.size = s.extract fr ii := by rw [hlast]
          go_upto_region 7 with fail
        all_goals
          go_wp2_with (at_builtin; refine wpList_append_lies _ rfl (.tmp 33) (.tmp 38) 75 rfl w.heap.size 9 i0 _ 1 16 Tryz.underlying75 hi0 hz0 hz1 hz2 rfl (by decide) (.slice va l.length vcap) l.length (l.map Value.string) rfl hacc2 ⟨wr.heap.size, 0, none⟩ 1 1 [.string (s.extract fr ii)] rfl rfl (World.news_of_block hn2) (by simp [Value.oneCell']) (by omega) (by unfold maxLen; omega) (by omega) hbB.size _ rfl ?_; intro g cap w13 hown hgrow hat hglt)
          go_roundw
          case rel => exact ⟨l ++ [s.extract fr ii], ii + 1, ii + 1, _, rfl, by go_num, by go_num, by omega, by omega, by simp; omega, HE.out, fun _ k h1 h2 => by omega, fun h => by omega, by show World.ownsRow _ _ _ _ _ _ _; rw [List.length_append, List.map_append]; exact hown, hbB.trans (grown_belowE hgrow hbB.size fun g hg => (World.ownsRow.lt hacc2 g hg).1)⟩
          case measure => simp [intOf] <;> omega
      · have HNO2 : Hid (ii + 1 ≤ s.size → ∀ k, fr ≤ k → k < ii + 1 → bt s k ≠ 10) := by
          intro h k h1 h2
          by_cases hk : k = ii
          · subst hk
            intro h3
            exact hpar (.inl ⟨by omega, h3⟩)
          · exact HNO.out hle k h1 (by omega)
        have HEND2 : Hid (ii + 1 = s.size + 1 → s.size ≤ fr) := by
          intro h
          by_cases hk : fr < ii
          · exact absurd (.inr ⟨by omega, hk⟩) hpar
          · omega
        by_cases hlt : ii < s.size
        case' pos =>
          have h10 : ¬ (s[ii].toNat : Int) = 10 := fun h => hpar (.inl ⟨hlt, by rw [bt_in hlt]; exact h⟩)
          have hd2 : decide (ii < s.size) = true := by simpa using hlt
          have hd3 : ((s[ii].toNat : Int) == 10) = false := by simpa using h10
          clear hpar
          go_wp2_with fail
        case' neg =>
          obtain rfl : ii = s.size := by omega
          obtain rfl : fr = s.size := by
            by_cases hk : fr < s.size
            · exact absurd (.inr ⟨rfl, hk⟩) hpar
            · omega
          have hd2 : decide (s.size < s.size) = false := by simp
          clear hpar
          go_wp2_with fail
        all_goals
          go_roundw
          case rel => exact ⟨l, _, _, _, rfl, rfl, by go_num, by omega, by omega, by omega, HEQ.out, HNO2.out, HEND2.out, hacc, hb⟩
          case measure => simp [intOf] <;> omega
    · have hd1 : decide (ii ≤ s.size) = false := by simpa using hle
      have hd1b : decide ((ii : Int) ≤ (s.size : Int)) = false := by simpa using hle
      go_wp2_with fail
      go_ret
      exact ⟨⟨_, rfl, by rw [HEQ.out, lines_none (HEND.out (by omega)), List.append_nil]; exact hacc⟩, hb⟩
end Go.Proofs.YtjldbbcdhdfliaaGreatDoor
