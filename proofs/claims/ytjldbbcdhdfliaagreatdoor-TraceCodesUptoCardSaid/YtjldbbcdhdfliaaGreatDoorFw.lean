/-
 Layer 23: few. Printed by gen_ze.py at first.
-/
import Derived.Test.YtjldbbcdhdfliaaGreatDoorSiz
import Derived.Test.YtjldbbcdhdfliaaGreatDoorWNd
import Derived.Test.YtjldbbcdhdfliaaGreatDoorTkTl
namespace Go.Proofs.YtjldbbcdhdfliaaGreatDoor
open Go.RowKit Go.Shelf Go.Sort

/-- Are events at most twenty, of values of at most 40 parts? -/
def fewE (l : List Ev) : Bool := decide (l.length ≤ 20) && l.all fun x => decide (cnt x.v 0 ≤ 40)
theorem few_nd {l : List Ev} (h : fewE l = true) : l.length ≤ 20 ∧ ∀ x ∈ l, nd x.v ≤ 256 := by
 unfold fewE at h
 simp only [Bool.and_eq_true, decide_eq_true_eq, List.all_eq_true] at h
 refine ⟨h.1, fun x hx => ?_⟩
 have h1 := h.2 x hx
 rw [cnt_nd x.v 0 (by omega)] at h1
 omega
theorem few_bad {l : List Ev} {j : Nat} {x : Ev} (hx : l[j]? = some x) (h : 40 < cnt x.v 0) : fewE l = false := by
 unfold fewE
 have : l.all (fun x => decide (cnt x.v 0 ≤ 40)) = false := by
  rw [List.all_eq_false]
  exact ⟨x, List.mem_of_getElem? hx, by simp; omega⟩
 rw [this, Bool.and_false]
theorem few_long {l : List Ev} (h : 20 < l.length) : fewE l = false := by
 unfold fewE
 have : decide (l.length ≤ 20) = false := by simp; omega
 rw [this, Bool.false_and]
theorem few_good {l : List Ev} (h0 : l.length ≤ 20) (h : ∀ (j : Nat) (x : Ev), j < l.length → l[j]? = some x → cnt x.v 0 ≤ 40) : fewE l = true := by
 unfold fewE
 simp only [Bool.and_eq_true, decide_eq_true_eq, List.all_eq_true]
 refine ⟨h0, fun x hx => ?_⟩
 obtain ⟨j, hj, e⟩ := List.getElem_of_mem hx
 exact h j x hj (by rw [List.getElem?_eq_getElem hj, e])
set_option maxRecDepth 100000 in
set_option maxHeartbeats 2000000 in
theorem few_any (l : List Ev) (b1 : Option Addr) (cap : Nat) (hlc : l.length ≤ cap) (hcm : cap ≤ maxLen) (w : World) (hE1 : IsEs (· < w.heap.size) w l b1) (hnd : ∀ x ∈ l, nd x.v ≤ 2000000) :
  Calls Tryz.prog 13 #[.slice b1 l.length cap, .int .i64 20] w fun e w' => e = .returned (.bool (fewE l)) ∧ Below w.heap.size w w' := by
 have hnm : l.length ≤ maxLen := Nat.le_trans hlc hcm
 unfold maxLen at hnm
 clear hlc hcm
 obtain ⟨C, hC⟩ : ∃ C, fewE l = C := ⟨_, rfl⟩
 have HC := Lib.hid hC
 rw [hC]
 clear hC
 obtain ⟨n, hn⟩ : ∃ n, l.length = n := ⟨_, rfl⟩
 have HN := Lib.hid hn
 rw [hn] at hnm ⊢
 clear hn
 have HE1 := Lib.hid hE1
 have HND := Lib.hid hnd
 clear hE1 hnd
 by_cases hbig : 20 < n
 ·have hd : decide (20 < (n : Int)) = true := by simp; omega
  have hd2 : decide (20 < n) = true := by simpa using hbig
  obtain rfl : C = false := by rw [← HC.out]; exact few_long (by have := HN.out; omega)
  go_enter Tryz.func13, Tryz.ntmps13
  go_wp2_with fail
  go_ret
  exact ⟨rfl, Below.refl _ _⟩
 ·have hd : decide (20 < (n : Int)) = false := by simp; omega
  have hd2 : decide (20 < n) = false := by simpa using hbig
  go_enter Tryz.func13, Tryz.ntmps13
  go_wp2_with fail
  go_loopw [5] (fun i wr => ∃ j : Nat, i = .int .i64 (j : Nat) ∧ j ≤ n ∧ (∀ (m : Nat) (x : Ev), m < j → l[m]? = some x → cnt x.v 0 ≤ 40) ∧ Below w.heap.size w wr) (fun i _ => n - (intOf i).toNat)
  case atStart => exact ⟨0, rfl, Nat.zero_le _, fun m x hm => by omega, Below.refl _ _⟩
  case round =>
   obtain ⟨j, rfl, hj, hok, hb⟩ := hrel
   have HOK := Lib.hid hok
   clear hok
   by_cases hlt : j < n
   ·have hd1 : decide (j < n) = true := by simpa using hlt
    have hlt2 : (j : Int) < (n : Int) := by omega
    obtain ⟨x, hx⟩ : ∃ x, l[j]? = some x := ⟨l[j]'(by have := HN.out; omega), List.getElem?_eq_getElem _⟩
    have hndx := HND.out x (List.mem_of_getElem? hx)
    obtain ⟨g1, o1, kk, nn, a1, len1, cap1, ha1, hg1, hc1, hv1, hr1⟩ := HE1.out j x hx
    subst ha1
    have hv2 : IsV (· < wr.heap.size) wr x.v (.agg #[.int .i64 kk, .int .i64 nn, .slice a1 len1 cap1]) := (hv1.below hb).more fun g hg => Nat.lt_of_lt_of_le hg hb.size
    have p7 : wr.cell? ⟨g1, o1 + j * 10 + 7, none⟩ = some (.int .i64 kk) := (hb.cell (p := ⟨g1, o1 + j * 10 + 7, none⟩) hg1).trans (hc1 7 (.int .i64 kk) rfl)
    have p8 : wr.cell? ⟨g1, o1 + j * 10 + 8, none⟩ = some (.int .i64 nn) := (hb.cell (p := ⟨g1, o1 + j * 10 + 8, none⟩) hg1).trans (hc1 8 (.int .i64 nn) rfl)
    have p9 : wr.cell? ⟨g1, o1 + j * 10 + 9, none⟩ = some (.slice a1 len1 cap1) := (hb.cell (p := ⟨g1, o1 + j * 10 + 9, none⟩) hg1).trans (hc1 9 (.slice a1 len1 cap1) rfl)
    have p8b : wr.cell? ⟨g1, o1 + j * 10 + 7 + 1, none⟩ = some (.int .i64 nn) := p8
    have p9b : wr.cell? ⟨g1, o1 + j * 10 + 7 + 2, none⟩ = some (.slice a1 len1 cap1) := p9
    have HX := Lib.hid hx
    obtain ⟨c, hc⟩ : ∃ c, cnt x.v 0 = c := ⟨_, rfl⟩
    have HCC := Lib.hid hc
    have hcs := rSize_any x.v _ _ hv2 hndx
    rw [hc] at hcs
    have HCS := Lib.hid hcs
    clear hc1 hv1 hr1 hx hndx hc hcs hg1 hv2
    go_wp2_with fail
    refine HCS.out.mono ?_
    rintro e w2 ⟨rfl, hb2⟩
    have hb3 := hb.trans (hb2.mono hb.size)
    clear p7 p8 p9 p8b p9b hb2 hb
    by_cases h40 : 40 < c
    ·have hd3 : decide (40 < (c : Int)) = true := by simp; omega
     obtain rfl : C = false := by rw [← HC.out]; exact few_bad HX.out (by rw [HCC.out]; exact h40)
     go_wp2_with fail
     go_ret
     exact ⟨rfl, hb3⟩
    ·have hd3 : decide (40 < (c : Int)) = false := by simp; omega
     have HOK2 : Hid (∀ (m : Nat) (x : Ev), m < j + 1 → l[m]? = some x → cnt x.v 0 ≤ 40) := by
      intro m y hm hy
      rcases Nat.lt_or_ge m j with h1 | h1
      ·exact HOK.out m y h1 hy
      ·obtain rfl : m = j := by omega
       have := HX.out
       rw [hy] at this
       injection this with this
       subst this
       have := HCC.out
       omega
     clear h40
     go_wp2_with fail
     go_roundw
     case rel => first | exact ⟨j + 1, by go_num, by omega, HOK2.out, hb3⟩ | ((repeat apply Exists.intro); exact ⟨⟨j + 1, by go_num, by omega, HOK2.out, hb3⟩, rfl⟩)
     case measure => simp [intOf]; omega
   ·have hd1 : decide (j < n) = false := by simpa using hlt
    obtain rfl : C = true := by rw [← HC.out]; exact few_good (by have := HN.out; omega) (fun m x hm hx => HOK.out m x (by have := HN.out; omega) hx)
    go_wp2_with fail
    go_ret
    exact ⟨rfl, hb⟩
end Go.Proofs.YtjldbbcdhdfliaaGreatDoor
