/-
  Layer 23: few; the statement TraceChecks, walked. Printed by gen_ze.py.
-/
import Derived.Test.YtjldbbcdhdfliaaGreatDoorUl
import Derived.Test.YtjldbbcdhdfliaaGreatDoorZaZb
namespace Go.Proofs.YtjldbbcdhdfliaaGreatDoor
open Go.RowKit Go.Shelf Go.Sort

/-- Are events at most twenty, of values of at most 40 parts? -/
def fewE (l : List Ev) : Bool := decide (l.length ≤ 20) && l.all fun x => decide (cnt x.v 0 ≤ 40)
theorem few_nd {l : List Ev} (h : fewE l = true) : l.length ≤ 20 ∧ ∀ x ∈ l, nd x.v ≤ 256 := by
  unfold fewE at h
  simp only [Bool.and_eq_true, decide_eq_true_eq, List.all_eq_true] at h
  refine ⟨h.1, fun x hx => ?_⟩
  have h1 := h.2 x hx
  rw [cnt_nd x.v 0 (by omega)] at h1
  omega
theorem few_bad {l : List Ev} {j : Nat} {x : Ev} (hx : l[j]? = some x) (h : 40 < cnt x.v 0) : fewE l = false := by
  unfold fewE
  have : l.all (fun x => decide (cnt x.v 0 ≤ 40)) = false := by
    rw [List.all_eq_false]
    exact ⟨x, List.mem_of_getElem? hx, by simp; omega⟩
  rw [this, Bool.and_false]
theorem few_long {l : List Ev} (h : 20 < l.length) : fewE l = false := by
  unfold fewE
  have : decide (l.length ≤ 20) = false := by simp; omega
  rw [this, Bool.false_and]
theorem few_good {l : List Ev} (h0 : l.length ≤ 20) (h : ∀ (j : Nat) (x : Ev), j < l.length → l[j]? = some x → cnt x.v 0 ≤ 40) : fewE l = true := by
  unfold fewE
  simp only [Bool.and_eq_true, decide_eq_true_eq, List.all_eq_true]
  refine ⟨h0, fun x hx => ?_⟩
  obtain ⟨j, hj, e⟩ := List.getElem_of_mem hx
  exact h j x hj (by rw [List.getElem?_eq_getElem hj, e])
set_option maxRecDepth 100000 in
set_option maxHeartbeats 2000000 in
theorem few_any (l : List Ev) (b1 : Option Addr) (cap : Nat) (hlc : l.length ≤ cap) (hcm : cap ≤ maxLen) (w : World) (hE1 : IsEs (· < w.heap.size) w l b1) (hnd : ∀ x ∈ l, nd x.v ≤ 2000000) :
    Calls Tryz.prog 13 #[.slice b1 l.length cap, .int .i64 20] w fun e w' => e = .returned (.bool (fewE l)) ∧ Below w.heap.size w w' := by
  have hnm : l.length ≤ maxLen := Nat.le_trans hlc hcm
  unfold maxLen at hnm
  clear hlc hcm
  obtain ⟨C, hC⟩ : ∃ C, fewE l = C := ⟨_, rfl⟩
  have HC := Lib.hid hC
  rw [hC]
  clear hC
  obtain ⟨n, hn⟩ : ∃ n, l.length = n := ⟨_, rfl⟩
  have HN := Lib.hid hn
  rw [hn] at hnm ⊢
  clear hn
  have HE1 := Lib.hid hE1
  have HND := Lib.hid hnd
  clear hE1 hnd
  by_cases hbig : 20 < n
  · have hd : decide (20 < (n : Int)) = true := by simp; omega
    have hd2 : decide (20 < n) = true := by simpa using hbig
    obtain rfl : C = false := by rw [← HC.out]; exact few_long (by have := HN.out; omega)
    go_enter Tryz.func13, Tryz.ntmps13
    go_wp2_with fail
    go_ret
    exact ⟨rfl, Below.refl _ _⟩
  · have hd : decide (20 < (n : Int)) = false := by simp; omega
    have hd2 : decide (20 < n) = false := by simpa using hbig
    go_enter Tryz.func13, Tryz.ntmps13
    go_wp2_with fail
    go_loopw [5] (fun i wr => ∃ j : Nat, i = .int .i64 (j : Nat) ∧ j ≤ n ∧ (∀ (m : Nat) (x : Ev), m < j → l[m]? = some x → cnt x.v 0 ≤ 40) ∧ Below w.heap.size w wr) (fun i _ => n - (intOf i).toNat)
    case atStart => exact ⟨0, rfl, Nat.zero_le _, fun m x hm => by omega, Below.refl _ _⟩
    case round =>
      obtain ⟨j, rfl, hj, hok, hb⟩ := hrel
      have HOK := Lib.hid hok
      clear hok
      by_cases hlt : j < n
      · have hd1 : decide (j < n) = true := by simpa using hlt
        have hlt2 : (j : Int) < (n : Int) := by omega
        obtain ⟨x, hx⟩ : ∃ x, l[j]? = some x := ⟨l[j]'(by have := HN.out; omega), List.getElem?_eq_getElem _⟩
        have hndx := HND.out x (List.mem_of_getElem? hx)
        obtain ⟨g1, o1, kk, nn, a1, len1, cap1, ha1, hg1, hc1, hv1, hr1⟩ := HE1.out j x hx
        subst ha1
        have hv2 : IsV (· < wr.heap.size) wr x.v (.agg #[.int .i64 kk, .int .i64 nn, .slice a1 len1 cap1]) := (hv1.below hb).more fun g hg => Nat.lt_of_lt_of_le hg hb.size
        have p7 : wr.cell? ⟨g1, o1 + j * 10 + 7, none⟩ = some (.int .i64 kk) := (hb.cell (p := ⟨g1, o1 + j * 10 + 7, none⟩) hg1).trans (hc1 7 (.int .i64 kk) rfl)
        have p8 : wr.cell? ⟨g1, o1 + j * 10 + 8, none⟩ = some (.int .i64 nn) := (hb.cell (p := ⟨g1, o1 + j * 10 + 8, none⟩) hg1).trans (hc1 8 (.int .i64 nn) rfl)
        have p9 : wr.cell? ⟨g1, o1 + j * 10 + 9, none⟩ = some (.slice a1 len1 cap1) := (hb.cell (p := ⟨g1, o1 + j * 10 + 9, none⟩) hg1).trans (hc1 9 (.slice a1 len1 cap1) rfl)
        have p8b : wr.cell? ⟨g1, o1 + j * 10 + 7 + 1, none⟩ = some (.int .i64 nn) := p8
        have p9b : wr.cell? ⟨g1, o1 + j * 10 + 7 + 2, none⟩ = some (.slice a1 len1 cap1) := p9
        have HX := Lib.hid hx
        obtain ⟨c, hc⟩ : ∃ c, cnt x.v 0 = c := ⟨_, rfl⟩
        have HCC := Lib.hid hc
        have hcs := rSize_any x.v _ _ hv2 hndx
        rw [hc] at hcs
        have HCS := Lib.hid hcs
        clear hc1 hv1 hr1 hx hndx hc hcs hg1 hv2
        go_wp2_with fail
        refine HCS.out.mono ?_
        rintro e w2 ⟨rfl, hb2⟩
        have hb3 := hb.trans (hb2.mono hb.size)
        clear p7 p8 p9 p8b p9b hb2 hb
        by_cases h40 : 40 < c
        · have hd3 : decide (40 < (c : Int)) = true := by simp; omega
          obtain rfl : C = false := by rw [← HC.out]; exact few_bad HX.out (by rw [HCC.out]; exact h40)
          go_wp2_with fail
          go_ret
          exact ⟨rfl, hb3⟩
        · have hd3 : decide (40 < (c : Int)) = false := by simp; omega
          have HOK2 : Hid (∀ (m : Nat) (x : Ev), m < j + 1 → l[m]? = some x → cnt x.v 0 ≤ 40) := by
            intro m y hm hy
            rcases Nat.lt_or_ge m j with h1 | h1
            · exact HOK.out m y h1 hy
            · obtain rfl : m = j := by omega
              have := HX.out
              rw [hy] at this
              injection this with this
              subst this
              have := HCC.out
              omega
          clear h40
          go_wp2_with fail
          go_roundw
          case rel => first | exact ⟨j + 1, by go_num, by omega, HOK2.out, hb3⟩ | ((repeat apply Exists.intro); exact ⟨⟨j + 1, by go_num, by omega, HOK2.out, hb3⟩, rfl⟩)
          case measure => simp [intOf]; omega
      · have hd1 : decide (j < n) = false := by simpa using hlt
        obtain rfl : C = true := by rw [← HC.out]; exact few_good (by have := HN.out; omega) (fun m x hm hx => HOK.out m x (by have := HN.out; omega) hx)
        go_wp2_with fail
        go_ret
        exact ⟨rfl, hb⟩
theorem ckV_form (l : List Ev) : ∃ (k er : Nat), CkV l = .tuple #[.int .i64 (k : Nat), .int .i64 (er : Nat)] := by
  unfold CkV
  cases firstW l with
  | none => exact ⟨0, 0, rfl⟩
  | some k => exact ⟨k, 230, rfl⟩
theorem wrV_form (l : List Ev) : ∃ (S : ByteArray) (er : Nat), wrV l = .tuple #[.string S, .int .i64 (er : Nat)] := by
  unfold wrV
  cases firstW l with
  | none => exact ⟨_, 0, rfl⟩
  | some k => exact ⟨_, 230, rfl⟩
theorem ttV_form (x : Ev) : ∃ (S : ByteArray) (er : Nat), ttV x = .tuple #[.string S, .int .i64 (er : Nat)] := by
  unfold ttV
  split
  · exact ⟨_, 0, rfl⟩
  · exact ⟨_, 230, rfl⟩
set_option maxRecDepth 100000 in
set_option maxHeartbeats 8000000 in
theorem tchecks_law (l : List Ev) (b1 : Option Addr) (cap : Nat) (hlc : l.length ≤ cap) (hcm : cap ≤ maxLen) (w : World) (hE1 : IsEs (· < w.heap.size) w l b1) (hnd : ∀ x ∈ l, nd x.v ≤ 2000000) (hE : EnvT w) :
    Calls Tryz.prog 4 #[.slice b1 l.length cap] w fun e w' => e = .returned (.bool true) ∧ Below w.heap.size w w' := by
  have hfw := few_any l b1 cap hlc hcm w hE1 hnd
  cases hf : fewE l
  · rw [hf] at hfw
    have HFW := Lib.hid hfw
    clear hfw hf
    obtain ⟨n, hn⟩ : ∃ n, l.length = n := ⟨_, rfl⟩
    rw [hn] at HFW ⊢
    clear hn hlc hE1 hnd
    go_enter Tryz.func4, Tryz.ntmps4
    go_wp2_with fail
    refine HFW.out.mono ?_
    rintro e w1 ⟨rfl, hb1⟩
    have hE2 := hE.belowAll hb1
    go_wp2_with fail
    refine (tworks_any _ hE2).mono ?_
    rintro e w2 ⟨rfl, hb2⟩
    go_wp2_with fail
    go_ret
    exact ⟨rfl, hb1.trans (hb2.mono hb1.size)⟩
  · rw [hf] at hfw
    obtain ⟨h20, hnd2⟩ := few_nd hf
    have HFW := Lib.hid hfw
    have HE1 := Lib.hid hE1
    have HND := Lib.hid hnd
    obtain ⟨ck, ce, hck⟩ := ckV_form l
    obtain ⟨S, se, hws⟩ := wrV_form l
    have HC1 : Hid (∀ W, Below w.heap.size w W → Calls Tryz.prog 14 #[.slice b1 l.length cap] W fun e w' => e = .returned (.tuple #[.int .i64 (ck : Nat), .int .i64 (ce : Nat)]) ∧ Below W.heap.size W w') := by
      intro W hb
      rw [← hck]
      exact TCheck_any l (by omega) b1 cap W (hE1.later hb)
    have HC2 : Hid (∀ W, Below w.heap.size w W → Calls Tryz.prog 15 #[.slice b1 l.length cap] W fun e w' => e = .returned (.tuple #[.int .i64 (ck : Nat), .int .i64 (ce : Nat)]) ∧ Below W.heap.size W w') := by
      intro W hb
      rw [← hck]
      exact rCheckE_any l (by omega) b1 cap W (hE1.later hb) hnd
    have HC3 : Hid (∀ W, Below w.heap.size w W → Calls Tryz.prog 16 #[.slice b1 l.length cap] W fun e w' => e = .returned (.tuple #[.string S, .int .i64 (se : Nat)]) ∧ Below W.heap.size W w') := by
      intro W hb
      rw [← hws]
      exact TWrite_any l (by omega) b1 cap W (hE1.later hb) (hE.env.below hb hE.env.size)
    have HC4 : Hid (∀ W, Below w.heap.size w W → Calls Tryz.prog 17 #[.slice b1 l.length cap] W fun e w' => e = .returned (.tuple #[.string S, .int .i64 (se : Nat)]) ∧ Below W.heap.size W w') := by
      intro W hb
      rw [← hws]
      exact rWriteE_any l (by omega) b1 cap W (hE1.later hb) hnd
    obtain ⟨n, hn⟩ : ∃ n, l.length = n := ⟨_, rfl⟩
    have HN := Lib.hid hn
    rw [hn] at HFW HC1 HC2 HC3 HC4 hlc h20 ⊢
    have hsl : (S.toList == S.toList) = true := by simp
    clear hfw hf hn hE1 hnd hnd2 hck hws
    go_enter Tryz.func4, Tryz.ntmps4
    go_wp2_with fail
    refine HFW.out.mono ?_
    rintro e w1 ⟨rfl, hb1⟩
    go_wp2_with fail
    refine (HC1.out _ hb1).mono ?_
    rintro e w2 ⟨rfl, hb2⟩
    have hb2 := hb1.trans (hb2.mono hb1.size)
    clear hb1
    go_wp2_with fail
    refine (HC2.out _ hb2).mono ?_
    rintro e w3 ⟨rfl, hb3⟩
    have hb3 := hb2.trans (hb3.mono hb2.size)
    clear hb2
    go_wp2_with fail
    refine (HC3.out _ hb3).mono ?_
    rintro e w4 ⟨rfl, hb4⟩
    have hb4 := hb3.trans (hb4.mono hb3.size)
    clear hb3
    go_wp2_with fail
    refine (HC4.out _ hb4).mono ?_
    rintro e w5 ⟨rfl, hb5⟩
    have hb5 := hb4.trans (hb5.mono hb4.size)
    clear hb4
    go_wp2_with fail
    refine (num23_any _ _).mono ?_
    rintro e w6 ⟨rfl, rfl⟩
    go_wp2_with fail
    refine (num23_any _ _).mono ?_
    rintro e w6 ⟨rfl, rfl⟩
    go_wp2_with fail
    go_loopw [11] (fun i wr => ∃ j : Nat, i = .int .i64 (j : Nat) ∧ j ≤ n ∧ Below w.heap.size w wr) (fun i _ => n - (intOf i).toNat)
    case atStart => exact ⟨0, rfl, Nat.zero_le _, hb5⟩
    case round =>
      clear hb5 hsl
      obtain ⟨j, rfl, hj, hb⟩ := hrel
      by_cases hlt : j < n
      · have hd1 : decide (j < n) = true := by simpa using hlt
        have hlt2 : (j : Int) < (n : Int) := by omega
        obtain ⟨x, hx⟩ : ∃ x, l[j]? = some x := ⟨l[j]'(by have := HN.out; omega), List.getElem?_eq_getElem _⟩
        have hndx := HND.out x (List.mem_of_getElem? hx)
        obtain ⟨g1, o1, kk, nn, a1, len1, cap1, ha1, hg1, hc1, hv1, hr1⟩ := HE1.out j x hx
        subst ha1
        have hi1 : IsE (· < wr.heap.size) wr x (.agg #[.int .i64 x.k, .int .i64 x.st, .int .i64 x.th, .int .i64 x.sy, .int .i64 x.br, .int .i64 x.pa, .int .i64 x.n, .int .i64 kk, .int .i64 nn, .slice a1 len1 cap1]) := IsE.more (w := wr) ⟨kk, nn, a1, len1, cap1, rfl, hv1.below hb, hr1⟩ fun g hg => Nat.lt_of_lt_of_le hg hb.size
        have p0 : wr.cell? ⟨g1, o1 + j * 10, none⟩ = some (.int .i64 x.k) := (hb.cell (p := ⟨g1, o1 + j * 10, none⟩) hg1).trans (hc1 0 (.int .i64 x.k) rfl)
        have p1 : wr.cell? ⟨g1, o1 + j * 10 + 1, none⟩ = some (.int .i64 x.st) := (hb.cell (p := ⟨g1, o1 + j * 10 + 1, none⟩) hg1).trans (hc1 1 (.int .i64 x.st) rfl)
        have p2 : wr.cell? ⟨g1, o1 + j * 10 + 2, none⟩ = some (.int .i64 x.th) := (hb.cell (p := ⟨g1, o1 + j * 10 + 2, none⟩) hg1).trans (hc1 2 (.int .i64 x.th) rfl)
        have p3 : wr.cell? ⟨g1, o1 + j * 10 + 3, none⟩ = some (.int .i64 x.sy) := (hb.cell (p := ⟨g1, o1 + j * 10 + 3, none⟩) hg1).trans (hc1 3 (.int .i64 x.sy) rfl)
        have p4 : wr.cell? ⟨g1, o1 + j * 10 + 4, none⟩ = some (.int .i64 x.br) := (hb.cell (p := ⟨g1, o1 + j * 10 + 4, none⟩) hg1).trans (hc1 4 (.int .i64 x.br) rfl)
        have p5 : wr.cell? ⟨g1, o1 + j * 10 + 5, none⟩ = some (.int .i64 x.pa) := (hb.cell (p := ⟨g1, o1 + j * 10 + 5, none⟩) hg1).trans (hc1 5 (.int .i64 x.pa) rfl)
        have p6 : wr.cell? ⟨g1, o1 + j * 10 + 6, none⟩ = some (.int .i64 x.n) := (hb.cell (p := ⟨g1, o1 + j * 10 + 6, none⟩) hg1).trans (hc1 6 (.int .i64 x.n) rfl)
        have p7 : wr.cell? ⟨g1, o1 + j * 10 + 7, none⟩ = some (.int .i64 kk) := (hb.cell (p := ⟨g1, o1 + j * 10 + 7, none⟩) hg1).trans (hc1 7 (.int .i64 kk) rfl)
        have p8 : wr.cell? ⟨g1, o1 + j * 10 + 8, none⟩ = some (.int .i64 nn) := (hb.cell (p := ⟨g1, o1 + j * 10 + 8, none⟩) hg1).trans (hc1 8 (.int .i64 nn) rfl)
        have p9 : wr.cell? ⟨g1, o1 + j * 10 + 9, none⟩ = some (.slice a1 len1 cap1) := (hb.cell (p := ⟨g1, o1 + j * 10 + 9, none⟩) hg1).trans (hc1 9 (.slice a1 len1 cap1) rfl)
        obtain ⟨D, de, hD⟩ := ttV_form x
        have HD := Lib.hid hD
        have henv := hE.env.below hb hE.env.size
        clear hx hD
        go_wp2_with fail
        refine (TText_any x _ _ hi1 henv).mono ?_
        rw [HD.out]
        rintro e w2 ⟨rfl, hb2⟩
        have hi2 := hi1.later hb2
        have hb3 := hb.trans (hb2.mono hb.size)
        clear p0 p1 p2 p3 p4 p5 p6 p7 p8 p9 hi1 hb2 hb henv
        have p0 : w2.cell? ⟨g1, o1 + j * 10, none⟩ = some (.int .i64 x.k) := (hb3.cell (p := ⟨g1, o1 + j * 10, none⟩) hg1).trans (hc1 0 (.int .i64 x.k) rfl)
        have p1 : w2.cell? ⟨g1, o1 + j * 10 + 1, none⟩ = some (.int .i64 x.st) := (hb3.cell (p := ⟨g1, o1 + j * 10 + 1, none⟩) hg1).trans (hc1 1 (.int .i64 x.st) rfl)
        have p2 : w2.cell? ⟨g1, o1 + j * 10 + 2, none⟩ = some (.int .i64 x.th) := (hb3.cell (p := ⟨g1, o1 + j * 10 + 2, none⟩) hg1).trans (hc1 2 (.int .i64 x.th) rfl)
        have p3 : w2.cell? ⟨g1, o1 + j * 10 + 3, none⟩ = some (.int .i64 x.sy) := (hb3.cell (p := ⟨g1, o1 + j * 10 + 3, none⟩) hg1).trans (hc1 3 (.int .i64 x.sy) rfl)
        have p4 : w2.cell? ⟨g1, o1 + j * 10 + 4, none⟩ = some (.int .i64 x.br) := (hb3.cell (p := ⟨g1, o1 + j * 10 + 4, none⟩) hg1).trans (hc1 4 (.int .i64 x.br) rfl)
        have p5 : w2.cell? ⟨g1, o1 + j * 10 + 5, none⟩ = some (.int .i64 x.pa) := (hb3.cell (p := ⟨g1, o1 + j * 10 + 5, none⟩) hg1).trans (hc1 5 (.int .i64 x.pa) rfl)
        have p6 : w2.cell? ⟨g1, o1 + j * 10 + 6, none⟩ = some (.int .i64 x.n) := (hb3.cell (p := ⟨g1, o1 + j * 10 + 6, none⟩) hg1).trans (hc1 6 (.int .i64 x.n) rfl)
        have p7 : w2.cell? ⟨g1, o1 + j * 10 + 7, none⟩ = some (.int .i64 kk) := (hb3.cell (p := ⟨g1, o1 + j * 10 + 7, none⟩) hg1).trans (hc1 7 (.int .i64 kk) rfl)
        have p8 : w2.cell? ⟨g1, o1 + j * 10 + 8, none⟩ = some (.int .i64 nn) := (hb3.cell (p := ⟨g1, o1 + j * 10 + 8, none⟩) hg1).trans (hc1 8 (.int .i64 nn) rfl)
        have p9 : w2.cell? ⟨g1, o1 + j * 10 + 9, none⟩ = some (.slice a1 len1 cap1) := (hb3.cell (p := ⟨g1, o1 + j * 10 + 9, none⟩) hg1).trans (hc1 9 (.slice a1 len1 cap1) rfl)
        clear hc1 hv1 hr1 hg1
        go_wp2_with fail
        refine (rTextE_any x _ _ hi2 hndx).mono ?_
        rw [HD.out]
        rintro e w3 ⟨rfl, hb4⟩
        have hb5 := hb3.trans (hb4.mono hb3.size)
        clear p0 p1 p2 p3 p4 p5 p6 p7 p8 p9 hi2 hb4 hb3
        have hdl : (D.toList == D.toList) = true := by simp
        go_wp2_with fail
        refine (num23_any _ _).mono ?_
        rintro e w6 ⟨rfl, rfl⟩
        go_wp2_with fail
        clear hdl
        go_roundw
        case rel => first | exact ⟨j + 1, by go_num, by omega, hb5⟩ | ((repeat apply Exists.intro); exact ⟨⟨j + 1, by go_num, by omega, hb5⟩, rfl⟩)
        case measure => simp [intOf]; omega
      · have hd1 : decide (j < n) = false := by simpa using hlt
        have hE9 := hE.below hb hE.env.size
        go_wp2_with fail
        refine (tworks_any _ hE9).mono ?_
        rintro e w9 ⟨rfl, hb9⟩
        go_wp2_with fail
        go_ret
        exact ⟨rfl, hb.trans (hb9.mono hb.size)⟩
end Go.Proofs.YtjldbbcdhdfliaaGreatDoor
