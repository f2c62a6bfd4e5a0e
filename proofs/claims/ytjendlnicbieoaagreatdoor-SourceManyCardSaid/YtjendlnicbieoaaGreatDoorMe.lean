/-
  Layer 9's statements: SourceMany, for every input.
-/
import Derived.Test.YtjendlnicbieoaaGreatDoorKcKd
import Derived.Test.YtjendlnicbieoaaGreatDoorMc
import Derived.Laws.BytesArg
namespace Go.Proofs.YtjendlnicbieoaaGreatDoor
open Go.RowKit Go.Sort
attribute [local go_sem] Oper.semAt_some

theorem conv1 (w : World) (c : UInt8) : (convert 50 9 (.slice (some ⟨w.heap.size, 0, none⟩) 1 1)).run Tryz.prog (w.alloc (.cells #[.int .u8 (c.toNat : Nat)] 5)) = .ok (.string ⟨#[c]⟩) (w.alloc (.cells #[.int .u8 (c.toNat : Nat)] 5)) := by
  have hb := Blk.new w 5 [.int .u8 (c.toNat : Nat)]
  have h := run_convert_bytes_arg (P := Tryz.prog) (w.alloc (.cells #[.int .u8 (c.toNat : Nat)] 5)) 50 5 Tryz.underlying50 Tryz.underlying5 w.heap.size 0 1 1 [((c.toNat : Nat) : Int)] rfl (fun i hi => by
    obtain rfl : i = 0 := by omega
    exact hb.c 0 rfl) 9 Tryz.underlying9
  have e : strOfNums [((c.toNat : Nat) : Int)] = ⟨#[c]⟩ := by unfold strOfNums; simp
  rw [h, e]
theorem conv2 (w : World) (c d : UInt8) : (convert 50 9 (.slice (some ⟨w.heap.size, 0, none⟩) 2 2)).run Tryz.prog (w.alloc (.cells #[.int .u8 (c.toNat : Nat), .int .u8 (d.toNat : Nat)] 5)) = .ok (.string ⟨#[c, d]⟩) (w.alloc (.cells #[.int .u8 (c.toNat : Nat), .int .u8 (d.toNat : Nat)] 5)) := by
  have hb := Blk.new w 5 [.int .u8 (c.toNat : Nat), .int .u8 (d.toNat : Nat)]
  have h := run_convert_bytes_arg (P := Tryz.prog) (w.alloc (.cells #[.int .u8 (c.toNat : Nat), .int .u8 (d.toNat : Nat)] 5)) 50 5 Tryz.underlying50 Tryz.underlying5 w.heap.size 0 2 2 [((c.toNat : Nat) : Int), ((d.toNat : Nat) : Int)] rfl (fun i hi => by
    have : i = 0 ∨ i = 1 := by omega
    rcases this with rfl | rfl
    · exact hb.c 0 rfl
    · exact hb.c 1 rfl) 9 Tryz.underlying9
  have e : strOfNums [((c.toNat : Nat) : Int), ((d.toNat : Nat) : Int)] = ⟨#[c, d]⟩ := by unfold strOfNums; simp
  rw [h, e]
set_option maxRecDepth 100000 in
set_option maxHeartbeats 4000000 in
theorem smany_out (funs params lines : Int) (hin : ¬ (1 ≤ funs ∧ funs ≤ 70 ∧ 0 ≤ params ∧ params ≤ 15 ∧ 0 ≤ lines ∧ lines ≤ 3)) (w : World) (hE : EnvS w) :
    Calls Tryz.prog 5 #[.int .i64 funs, .int .i64 params, .int .i64 lines] w fun e w' => e = .returned (.bool true) ∧ Below w.heap.size w w' := by
  have hw := works_any w hE
  have hc : decide (funs < 1) = true ∨ (decide (funs < 1) = false ∧ (decide (funs > 70) = true ∨ (decide (funs > 70) = false ∧ (decide (params < 0) = true ∨ (decide (params < 0) = false ∧ (decide (params > 15) = true ∨ (decide (params > 15) = false ∧ (decide (lines < 0) = true ∨ (decide (lines < 0) = false ∧ decide (lines > 3) = true))))))))) := by
    simp only [decide_eq_true_eq, decide_eq_false_iff_not]
    omega
  clear hin
  go_enter Tryz.func5, Tryz.ntmps5
  rcases hc with h1 | ⟨h1, h2 | ⟨h2, h3 | ⟨h3, h4 | ⟨h4, h5 | ⟨h5, h6⟩⟩⟩⟩⟩
  all_goals
    go_wp2_with (go_at_call 8; refine hw.mono ?_; rintro e w1 ⟨rfl, hb⟩)
    go_ret
    exact ⟨rfl, hb⟩
theorem ofNat_toNat {n : Nat} (h : n < 256) : (UInt8.ofNat n).toNat = n := by simp; omega
set_option maxRecDepth 100000 in
set_option maxHeartbeats 8000000 in
theorem smany_in (n m lines : Nat) (h1 : 1 ≤ n) (h2 : n ≤ 70) (h3 : m ≤ 15) (h4 : lines ≤ 3) (w : World) (hE : EnvS w) :
    Calls Tryz.prog 5 #[.int .i64 (n : Nat), .int .i64 (m : Nat), .int .i64 (lines : Nat)] w fun e w' => e = .returned (.bool true) ∧ Below w.heap.size w w' := by
  have d1 : decide ((n : Int) < 1) = false := by simp; omega
  have d2 : decide ((n : Int) > 70) = false := by simp; omega
  have d3 : decide ((m : Int) < 0) = false := by simp
  have d4 : decide ((m : Int) > 15) = false := by simp; omega
  have d5 : decide ((lines : Int) < 0) = false := by simp
  have d6 : decide ((lines : Int) > 3) = false := by simp; omega
  go_enter Tryz.func5, Tryz.ntmps5
  go_wp2_with fail
  go_loopw [8, 9] (fun lv iv wr => ∃ (k : Nat) (S : ByteArray), iv = .int .i64 (k : Nat) ∧ k ≤ m ∧ lv = .string S ∧ S.data.toList = mPs k 0 false ∧ S.size ≤ 4 * k ∧ Below w.heap.size w wr) (fun _ iv _ => m - (intOf iv).toNat)
  case atStart => exact ⟨0, ByteArray.empty, rfl, Nat.zero_le _, rfl, rfl, by decide, Below.refl _ _⟩
  case round =>
    obtain ⟨k, S, rfl, hk, rfl, hS, hz, hbr⟩ := hrel
    have HS := Lib.hid hS
    clear hS
    by_cases hlt : k < m
    case' pos =>
      have hkd : decide (k < m) = true := decide_eq_true hlt
      obtain ⟨c, hc⟩ : ∃ c : UInt8, c.toNat = 97 + k := ⟨UInt8.ofNat (97 + k), ofNat_toNat (by omega)⟩
      have hcv := conv1 wr c
      rw [show ((c.toNat : Nat) : Int) = 97 + (k : Int) by omega] at hcv
      have HC : Hid (c = UInt8.ofNat (97 + k)) := by show _ = _; rw [← hc]; simp
      have hbA := below_new wr (.cells #[.int .u8 (97 + (k : Int))] 5)
      have hbr2 := hbr.trans (hbA.mono hbr.size)
      have HSN := Lib.hid (mPs_snoc k 0 false)
      clear hc hbA
      by_cases h0 : k = 0
      · have hk0 : decide (0 < k) = false := by simp; omega
        have H0 := Lib.hid h0
        clear h0
        go_wp2_with fail
        go_roundw
        case' rel =>
          refine ⟨k + 1, S ++ ⟨#[120]⟩ ++ ⟨#[c]⟩, by go_num, hlt, rfl, ?_, ?_, hbr2⟩
          · rw [HSN.out, Bool.false_or, hk0, ByteArray.data_append, ByteArray.data_append, Array.toList_append, Array.toList_append, HS.out, HC.out, Nat.zero_add]
            simp [mPn]
          · rw [ByteArray.size_append, ByteArray.size_append]
            show S.size + 1 + 1 ≤ _
            omega
        case' measure =>
          show m - ((k : Int) + 1).toNat < m - ((k : Nat) : Int).toNat
          omega
      · have hk0 : decide (0 < k) = true := by simp; omega
        clear h0
        go_wp2_with fail
        go_roundw
        case' rel =>
          refine ⟨k + 1, S ++ ⟨#[44, 32]⟩ ++ ⟨#[120]⟩ ++ ⟨#[c]⟩, by go_num, hlt, rfl, ?_, ?_, hbr2⟩
          · rw [HSN.out, Bool.false_or, hk0, ByteArray.data_append, ByteArray.data_append, ByteArray.data_append, Array.toList_append, Array.toList_append, Array.toList_append, HS.out, HC.out, Nat.zero_add]
            simp [mPn]
          · rw [ByteArray.size_append, ByteArray.size_append, ByteArray.size_append]
            show S.size + 2 + 1 + 1 ≤ _
            omega
        case' measure =>
          show m - ((k : Int) + 1).toNat < m - ((k : Nat) : Int).toNat
          omega
    case' neg =>
      have hkd : decide (k < m) = false := decide_eq_false hlt
      obtain rfl : k = m := by omega
      go_wp2_with fail
      go_loopw [7, 10, 11] (fun sv iv _ wx => ∃ (i : Nat) (T : ByteArray), iv = .int .i64 (i : Nat) ∧ i ≤ n ∧ sv = .string T ∧ T.data.toList = mTx k lines i 0 ∧ T.size ≤ 100 * i ∧ Below w.heap.size w wx) (fun _ iv _ _ => n - (intOf iv).toNat)
      case atStart => exact ⟨0, ByteArray.empty, rfl, Nat.zero_le _, rfl, rfl, by decide, hbr⟩
      case round =>
        clear hbr
        obtain ⟨i, T, rfl, hi, rfl, hT, hTz, hbx⟩ := hrel
        have HT := Lib.hid hT
        clear hT
        by_cases hlt2 : i < n
        case' neg =>
          have hid : decide (i < n) = false := decide_eq_false hlt2
          obtain rfl : i = n := by omega
          have hEr := hE.belowAll hbx
          have hN := num_any
          have hcase : ∃ (n3 : Nat) (ln no : Int), (Calls Tryz.prog 15 #[.string T] wr fun e w' => ∃ pa pc, e = .returned (.tuple #[.agg #[.slice pa n3 pc], .int .i64 ln, .int .i64 no]) ∧ Below wr.heap.size wr w') ∧
              ((decide ((1 : Int) < i) = true ∧ decide ((9 : Int) < k) = true ∧ ln = (lines : Nat) ∧ no = 90) ∨ ((decide ((1 : Int) < i) = false ∨ decide ((1 : Int) < i) = true ∧ decide ((9 : Int) < k) = false) ∧ decide ((64 : Int) < i) = true ∧ ln = 64 * (lines : Int) ∧ no = 90) ∨ ((decide ((1 : Int) < i) = false ∨ decide ((1 : Int) < i) = true ∧ decide ((9 : Int) < k) = false) ∧ decide ((64 : Int) < i) = false ∧ ln = 0 ∧ no = 0 ∧ n3 = i)) := by
            have hs := src_m k lines i h3 h4 h1 h2
            have hl := (mTx_len k lines h3 h4 i 0).1
            by_cases hA : 1 < i ∧ 9 < k
            · rw [if_pos hA] at hs
              exact ⟨0, lines, 90, (parseG _ hs (by omega) T HT.out wr hEr).mono fun e w' ⟨pa, pc, he, hb, _⟩ => ⟨pa, pc, he, hb⟩, .inl ⟨by simp; omega, by simp; omega, rfl, rfl⟩⟩
            · rw [if_neg hA] at hs
              have hA2 : decide ((1 : Int) < i) = false ∨ decide ((1 : Int) < i) = true ∧ decide ((9 : Int) < k) = false := by
                simp only [decide_eq_true_eq, decide_eq_false_iff_not]
                omega
              by_cases hB : 64 < i
              · rw [if_pos hB] at hs
                exact ⟨0, 64 * (lines : Int), 90, (parseG _ hs (by omega) T HT.out wr hEr).mono fun e w' ⟨pa, pc, he, hb, _⟩ => ⟨pa, pc, he.trans (by simp [RdR.ln, RdR.no, RdR.fs]), hb⟩, .inr (.inl ⟨hA2, by simp; omega, rfl, rfl⟩)⟩
              · rw [if_neg hB] at hs
                exact ⟨i, 0, 0, (parseG _ hs (by omega) T HT.out wr hEr).mono fun e w' ⟨pa, pc, he, hb, _⟩ => ⟨pa, pc, he.trans (by simp [RdR.ln, RdR.no, RdR.fs, mFs]), hb⟩, .inr (.inr ⟨hA2, by simp; omega, rfl, rfl, rfl⟩)⟩
          obtain ⟨n3, ln, no, hP, hcs⟩ := hcase
          have HCS := Lib.hid hcs
          clear hcs hid
          have hid : decide (i < i) = false := by simp
          go_upto_region 18 with (go_at_call 15; refine hP.mono ?_; rintro e w8 ⟨pa, pc, rfl, hb8⟩)
          have hb9 := below_new w8 (.cells #[.slice pa n3 pc] 24)
          have hq := Blk.new w8 24 [.slice pa n3 pc]
          have hbA := hbx.trans ((hb8.trans (hb9.mono hb8.size)).mono hbx.size)
          have hEA := hE.belowAll hbA
          clear hb8 hb9 hP hEr
          generalize w8.alloc (.cells #[.slice pa n3 pc] 24) = w9 at *
          generalize w8.heap.size = bq at *
          have q0 := hq.c 0 rfl
          have hW := works_any w9 hEA
          rcases HCS.out with ⟨m1, m2, rfl, rfl⟩ | ⟨(m1 | ⟨m1, m2⟩), m3, rfl, rfl⟩ | ⟨(m1 | ⟨m1, m2⟩), m3, rfl, rfl, rfl⟩
          all_goals
            go_wp2_with first
              | (go_at_call 13; refine (hN _ _).mono ?_; rintro e w10 ⟨rfl, rfl⟩)
              | (go_at_call 8; refine hW.mono ?_; rintro e w11 ⟨rfl, hb11⟩)
            go_ret
            exact ⟨ret_bool (by simp), hbA.trans (hb11.mono hbA.size)⟩
        case' pos =>
          have hid : decide (i < n) = true := decide_eq_true hlt2
          obtain ⟨c, hc⟩ : ∃ c : UInt8, c.toNat = 97 + i % 10 := ⟨UInt8.ofNat (97 + i % 10), ofNat_toNat (by omega)⟩
          obtain ⟨d, hd⟩ : ∃ d : UInt8, d.toNat = 97 + i / 10 := ⟨UInt8.ofNat (97 + i / 10), ofNat_toNat (by omega)⟩
          have hcv := conv2 wr c d
          rw [show ((c.toNat : Nat) : Int) = 97 + (i : Int) % 10 by omega, show ((d.toNat : Nat) : Int) = 97 + (i : Int) / 10 by omega] at hcv
          have HC : Hid (c = UInt8.ofNat (97 + i % 10)) := by show _ = _; rw [← hc]; simp
          have HD : Hid (d = UInt8.ofNat (97 + i / 10)) := by show _ = _; rw [← hd]; simp
          have hbA := below_new wr (.cells #[.int .u8 (97 + (i : Int) % 10), .int .u8 (97 + (i : Int) / 10)] 5)
          have hbr2 := hbx.trans (hbA.mono hbx.size)
          have HSN := Lib.hid (mTx_snoc k lines i 0)
          have hR := repS ⟨#[10]⟩
          clear hc hd hbA
          have fin : ∀ (T2 : ByteArray) (w9 : World), T2.data.toList = mTx k lines (i + 1) 0 → Below w.heap.size w w9 → ∃ (i2 : Nat) (T3 : ByteArray), Value.int .i64 ((i : Int) + 1) = .int .i64 (i2 : Nat) ∧ i2 ≤ n ∧ Value.string T2 = .string T3 ∧ T3.data.toList = mTx k lines i2 0 ∧ T3.size ≤ 100 * i2 ∧ Below w.heap.size w w9 := by
            intro T2 w9 hT2 hb9
            refine ⟨i + 1, T2, by go_num, hlt2, rfl, hT2, ?_, hb9⟩
            have h1 := (mTx_len k lines h3 h4 (i + 1) 0).1
            rw [← hT2] at h1
            exact h1
          have FIN := Lib.hid fin
          have hrl : (lines : Int).toNat = lines := Int.toNat_natCast lines
          have HRL := Lib.hid hrl
          clear fin hrl
          by_cases h0 : i = 1
          · have he : ((i : Int) == 1) = true := by simp; omega
            have H0 := Lib.hid h0
            clear h0
            go_wp2_with (go_at_call 19; refine (hR _ (by omega) (by omega) (by decide) _).mono ?_; rintro e w9 ⟨rfl, hz9, hb9⟩)
            refine ⟨FIN.out _ w9 ?_ (hbr2.trans (hb9.mono hbr2.size)), by show n - ((i : Int) + 1).toNat < n - ((i : Nat) : Int).toNat; omega⟩
            simp only [ByteArray.data_append, Array.toList_append, rpB_data]
            rw [HRL.out]
            rw [HSN.out, HT.out, HS.out, HC.out, HD.out, repB_one]
            unfold mFn
            rw [Nat.zero_add, if_pos H0.out]
            simp [wFun, mNm]
          · have he : ((i : Int) == 1) = false := by simp; omega
            go_wp2_with (go_at_call 19; refine (hR _ (by omega) (by omega) (by decide) _).mono ?_; rintro e w9 ⟨rfl, hz9, hb9⟩)
            refine ⟨FIN.out _ w9 ?_ (hbr2.trans (hb9.mono hbr2.size)), by show n - ((i : Int) + 1).toNat < n - ((i : Nat) : Int).toNat; omega⟩
            simp only [ByteArray.data_append, Array.toList_append, rpB_data]
            rw [HRL.out]
            rw [HSN.out, HT.out, HC.out, HD.out, repB_one]
            unfold mFn
            rw [Nat.zero_add, if_neg h0]
            simp [wFun, mNm]
theorem smany_law (funs params lines : Int) (w : World) (hE : EnvS w) : Calls Tryz.prog 5 #[.int .i64 funs, .int .i64 params, .int .i64 lines] w fun e w' => e = .returned (.bool true) ∧ Below w.heap.size w w' := by
  by_cases hin : 1 ≤ funs ∧ funs ≤ 70 ∧ 0 ≤ params ∧ params ≤ 15 ∧ 0 ≤ lines ∧ lines ≤ 3
  · obtain ⟨h1, h2, h3, h4, h5, h6⟩ := hin
    obtain ⟨n, rfl⟩ := Int.eq_ofNat_of_zero_le (show 0 ≤ funs by omega)
    obtain ⟨m, rfl⟩ := Int.eq_ofNat_of_zero_le h3
    obtain ⟨l, rfl⟩ := Int.eq_ofNat_of_zero_le h5
    exact smany_in n m l (by omega) (by omega) (by omega) (by omega) w hE
  · exact smany_out funs params lines hin w hE
end Go.Proofs.YtjendlnicbieoaaGreatDoor
