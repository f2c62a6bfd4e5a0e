/-
  Walks over the reference of layer 23: Words.
-/
import Derived.Test.YtjldbbcdhdfliaaGreatDoorUaTw
import Derived.Test.YtjldbbcdhdfliaaGreatDoorAppM
import Derived.Test.YtjldbbcdhdfliaaGreatDoorBText
import Derived.IntWalk
import Derived.Laws.Concat
import Derived.Deep.Cut
namespace Go.Proofs.YtjldbbcdhdfliaaGreatDoor
open Go.RowKit

def strV (l : List UInt8) : Value := .string ⟨l.toArray⟩
/-- Words that lie in a row that was made. -/
def RowW (lo : Nat) (w : World) (v : Value) (l : List (List UInt8)) : Prop := w.ownsRow lo 9 1 v l.length (l.map strV)
theorem str_info : (Tryz.prog.info? 9).map (fun i => (i.zero, i.size, i.bytes)) = some (some (.string ⟨#[]⟩), 1, 16) := by kernel_rfl
theorem RowW.form {lo : Nat} {w : World} {v : Value} {l : List (List UInt8)} (h : RowW lo w v l) (hl : l ≠ []) : ∃ g cap, v = .slice (some ⟨g, 0, none⟩) l.length cap ∧ lo ≤ g ∧ g < w.heap.size := by
  rcases h.2 with ⟨_, h1⟩ | ⟨g, cap, cur, rfl, h2, h3, _⟩
  · exact absurd (List.eq_nil_of_length_eq_zero h1) hl
  · exact ⟨g, cap, rfl, h2, lt_of_heap h3⟩
theorem RowW.at_ {lo : Nat} {w : World} {g n cap : Nat} {l : List (List UInt8)} (h : RowW lo w (.slice (some ⟨g, 0, none⟩) n cap) l) {j : Nat} {x : List UInt8} (hx : l[j]? = some x) : w.cell? ⟨g, j, none⟩ = some (strV x) := by
  have hn : n = l.length := by
    rcases h.2 with ⟨h1, _⟩ | ⟨_, _, _, h1, _⟩
    · cases h1
    · injection h1
  subst hn
  have hlt := (List.getElem?_eq_some_iff.1 hx).1
  rw [World.ownsRow.cellAt h j (by omega), List.getElem?_map, hx]
  rfl
theorem RowW.below {lo : Nat} {w w' : World} {v : Value} {l : List (List UInt8)} (h : RowW lo w v l) (hb : Below w.heap.size w w') : RowW lo w' v l := by
  obtain ⟨h1, h2⟩ := h
  refine ⟨h1, ?_⟩
  rcases h2 with h2 | ⟨g, cap, cur, e1, e2, e3, e4⟩
  · exact .inl h2
  · exact .inr ⟨g, cap, cur, e1, e2, (hb.block g (lt_of_heap e3)).trans e3, e4⟩
theorem words_len : ∀ l : List UInt8, (wordsL l).length ≤ l.length + 1
  | [] => by simp [wordsL]
  | c :: r => by
    have := words_len r
    by_cases h : c = 32
    · subst h
      rw [wordsL_blank]
      simpa using this
    · obtain ⟨x, xs, hx⟩ := List.exists_cons_of_ne_nil (wordsL_ne r)
      rw [wordsL_cons h hx]
      rw [hx] at this
      simp at this ⊢
      omega
theorem word_len : ∀ (l : List UInt8), ∀ x ∈ wordsL l, x.length ≤ l.length
  | [], x, h => by simp [wordsL] at h; subst h; simp
  | c :: r, x, h => by
    by_cases hc : c = 32
    · subst hc
      rw [wordsL_blank] at h
      rcases List.mem_cons.1 h with rfl | h
      · simp
      · have := word_len r x h
        simp; omega
    · obtain ⟨y, ys, hy⟩ := List.exists_cons_of_ne_nil (wordsL_ne r)
      rw [wordsL_cons hc hy] at h
      rcases List.mem_cons.1 h with rfl | h
      · have := word_len r y (by rw [hy]; simp)
        simp; omega
      · have := word_len r x (by rw [hy]; simp [h])
        simp; omega
theorem strV_snoc (x : List UInt8) (s : ByteArray) (k : Nat) (h : k < s.size) : strV (x ++ [s[k]]) = .string ((⟨x.toArray⟩ : ByteArray) ++ s.extract k (k + 1)) := by
  unfold strV
  congr 1
  have h1 : (s.extract k (k + 1)).data.toList = [s[k]] := by
    rw [ByteArray.data_extract, Array.toList_extract]
    have h2 : k < s.data.toList.length := by simpa using h
    show (s.data.toList.drop k).take (k + 1 - k) = _
    rw [List.drop_eq_getElem_cons h2, show k + 1 - k = 1 by omega]
    rfl
  apply ByteArray.ext
  apply Array.toList_inj.1
  rw [ByteArray.data_append, Array.toList_append, h1]
theorem set_last (ini : List (List UInt8)) (x : List UInt8) (u : Value) : ((ini ++ [x]).map strV).set ini.length u = ini.map strV ++ [u] := by
  rw [List.map_append, List.set_append_right _ _ (by simp)]
  simp
theorem take_snocW (s : ByteArray) (k : Nat) (h : k < s.size) : s.data.toList.take (k + 1) = s.data.toList.take k ++ [s[k]] := by
  rw [List.take_succ_eq_append_getElem (by simpa using h)]
  rfl
set_option maxRecDepth 100000 in
set_option maxHeartbeats 2000000 in
theorem rWords_any (s : ByteArray) (hs : s.size ≤ 10000000) (w : World) : Calls Tryz.prog 36 #[.string s] w fun e w' => ∃ v, e = .returned v ∧ RowW w.heap.size w' v (wordsL s.data.toList) ∧ Below w.heap.size w w' := by
  obtain ⟨i0, hi0, hz0, hz1, hz2⟩ := info_parts str_info
  have hr0 : RowW w.heap.size (w.alloc (.cells #[.string ⟨#[]⟩] 9)) (.slice (some ⟨w.heap.size, 0, none⟩) 1 1) (wordsL (s.data.toList.take 0)) := World.ownsRow_lit w #[.string ⟨#[]⟩] 1 (Nat.le_refl _) (by decide) rfl
  have hb0 := below_alloc w (.cells #[.string ⟨#[]⟩] 9)
  go_enter Tryz.func36, Tryz.ntmps36
  go_wp2_with fail
  go_loopw [3, 4] (fun v i wr => ∃ k : Nat, i = .int .i64 (k : Nat) ∧ k ≤ s.size ∧ RowW w.heap.size wr v (wordsL (s.data.toList.take k)) ∧ Below w.heap.size w wr) (fun _ i _ => s.size - (intOf i).toNat)
  case atStart => exact ⟨0, rfl, Nat.zero_le _, hr0, hb0⟩
  case round =>
    clear hr0 hb0
    obtain ⟨k, rfl, hk, hrow, hb⟩ := hrel
    by_cases hlt : k < s.size
    · have hwl := words_len (s.data.toList.take k)
      have htl : (s.data.toList.take k).length ≤ k := List.length_take_le _ _
      have HT := Lib.hid (take_snocW s k hlt)
      have hne := wordsL_ne (s.data.toList.take k)
      obtain ⟨L, hL⟩ : ∃ L, wordsL (s.data.toList.take k) = L := ⟨_, rfl⟩
      rw [hL] at hrow hwl hne
      have HL := Lib.hid hL
      clear hL
      obtain ⟨g, cap, rfl, hg1, hg2⟩ := hrow.form hne
      have hpos := List.length_pos_iff.2 hne
      have hd1 : decide (k < s.size) = true := by simpa using hlt
      by_cases h32 : s[k] = 32
      · have hd2 : ((s[k].toNat : Int) == 32) = true := by rw [h32]; rfl
        have HN : Hid (wordsL (s.data.toList.take (k + 1)) = L ++ [[]]) := by
          show _ = _
          rw [HT.out, h32, wordsL_snoc32, HL.out]
        clear h32 hne
        go_upto_region 6 with fail
        have hrow2 : RowW w.heap.size (wr.alloc (.cells #[.string ⟨#[]⟩] 9)) (.slice (some ⟨g, 0, none⟩) L.length cap) L := hrow.below (below_alloc _ _)
        have hb2 := hb.trans ((below_alloc wr (.cells #[.string ⟨#[]⟩] 9)).mono hb.size)
        go_wp2_with (at_builtin; refine wpList_append_lies _ rfl (.tmp 16) (.tmp 17) 75 rfl w.heap.size 9 i0 _ 1 16 Tryz.underlying75 hi0 hz0 hz1 hz2 rfl (by decide) (.slice (some ⟨g, 0, none⟩) L.length cap) L.length (L.map strV) rfl hrow2 ⟨wr.heap.size, 0, none⟩ 1 1 [.string ⟨#[]⟩] rfl rfl (World.news_of_block (heap_alloc_new _ _)) (by intro u hu; simp at hu; subst hu; rfl) (by omega) (by unfold maxLen; omega) (by omega) hb2.size _ rfl ?_; intro g2 cap2 w13 hown hgrow hat hglt)
        go_roundw
        case rel => exact ⟨k + 1, by go_num, by omega, by rw [HN.out]; show World.ownsRow _ _ _ _ _ _ _; rw [List.length_append, List.map_append]; exact hown, hb2.trans (grown_belowE hgrow hb2.size fun g hg => (World.ownsRow.lt hrow2 g hg).1)⟩
        case measure => simp [intOf]; omega
      · have hd2 : ((s[k].toNat : Int) == 32) = false := by
          simp
          intro e
          exact h32 (UInt8.toNat_inj.1 (by have : (32 : UInt8).toNat = 32 := rfl; omega))
        obtain ⟨ini, x, rfl⟩ : ∃ ini x, L = ini ++ [x] := ⟨L.dropLast, L.getLast hne, (List.dropLast_concat_getLast hne).symm⟩
        have HN : Hid (wordsL (s.data.toList.take (k + 1)) = ini ++ [x ++ [s[k]]]) := by
          show _ = _
          rw [HT.out]
          exact wordsL_snoc h32 _ _ _ HL.out
        obtain ⟨n, hn⟩ : ∃ n, (ini ++ [x]).length = n := ⟨_, rfl⟩
        have hcell := hrow.at_ (j := ini.length) (x := x) (by simp)
        obtain ⟨X, hX⟩ : ∃ X : ByteArray, (⟨x.toArray⟩ : ByteArray) = X := ⟨_, rfl⟩
        unfold strV at hcell
        rw [hX] at hcell
        have hfz := World.ownsRow.frozenAt hrow ini.length
        obtain ⟨m, hm⟩ : ∃ m, ini.length = m := ⟨_, rfl⟩
        rw [hm] at hcell hfz
        have hnm : n = m + 1 := by rw [← hn, ← hm]; simp
        rw [hn] at hwl hrow hpos ⊢
        have HNN := Lib.hid hn
        have HM := Lib.hid hm
        have HX := Lib.hid hX
        have hm1 : m < n := by omega
        have hsub : IntKind.i64.wrap ((n : Int) - 1) = (m : Int) := by rw [hnm]; exact (IntWalk.i64_in _ (by omega)).trans (by omega)
        obtain ⟨q, hq⟩ : ∃ q, k + 1 = q := ⟨_, rfl⟩
        have hadd : IntKind.i64.wrap ((k : Int) + 1) = (q : Int) := (IntWalk.i64_in _ (by omega)).trans (by omega)
        have hqs : q ≤ s.size := by omega
        have hqs2 : (q : Int) ≤ (s.size : Int) := by omega
        have hkq : k ≤ q := by omega
        have hkq2 : (k : Int) ≤ (q : Int) := by omega
        have hXs : X.size ≤ 10000000 := by
          rw [← hX]
          have h1 := word_len (s.data.toList.take k) x (by rw [HL.out]; simp)
          have h2 : (ByteArray.mk x.toArray).size = x.length := by simp [ByteArray.size]
          omega
        have hsz2 : ¬ (9223372036854775807 < X.size + (q - k)) := by omega
        have hsz3 : X.size + (q - k) ≤ 9223372036854775807 := by omega
        have HQ := Lib.hid hq
        clear hn hm hX hnm h32 hne hq
        go_upto_region 7 with fail
        go_still_tail 17, (by kernel_rfl)
        go_wp2_with fail
        have hst := World.ownsRow.stored (show World.ownsRow wr.drew w.heap.size 9 1 (.slice (some ⟨g, 0, none⟩) n cap) n _ from by have := hrow; unfold RowW at this; rw [HNN.out] at this; exact this) m (.string (X ++ s.extract k q))
        have hnew : RowW w.heap.size (wr.drew.setCell ⟨g, m, none⟩ (.string (X ++ s.extract k q))) (.slice (some ⟨g, 0, none⟩) n cap) (wordsL (s.data.toList.take (k + 1))) := by
          have h1 := hst.1
          rw [← HM.out, set_last, ← HX.out, ← HQ.out, ← strV_snoc x s k hlt] at h1
          rw [HN.out, ← HM.out, ← HX.out, ← HQ.out, ← strV_snoc x s k hlt]
          unfold RowW
          have h2 : (ini ++ [x ++ [s[k]]]).length = n := by rw [← HNN.out]; simp
          rw [h2, List.map_append]
          exact h1
        have hb9 := (hb.trans ((⟨rfl, rfl, rfl, Nat.le_refl _, fun _ _ => rfl⟩ : Below w.heap.size wr wr.drew))).trans (grown_belowE hst.2 hb.size fun j hj => by injection hj with hj; omega)
        clear hst hrow hcell hfz
        rw [HQ.out] at hnew
        go_roundw
        case rel => first | exact ⟨q, rfl, hqs, hnew, hb9⟩ | exact ⟨q, by rw [← HQ.out]; go_num, hqs, hnew, hb9⟩
        case measure => have := HQ.out; simp [intOf]; omega
    · have hd1 : decide (k < s.size) = false := by simpa using hlt
      go_wp2_with fail
      go_ret
      exact ⟨_, rfl, by rw [show s.data.toList.take k = s.data.toList from List.take_of_length_le (by simp; omega)] at hrow; exact hrow, hb⟩
end Go.Proofs.YtjldbbcdhdfliaaGreatDoor
