/-
  The reference's Text.
-/
import Derived.Test.YtjendlnicbieoaaGreatDoorTy
import Derived.Test.YtjendlnicbieoaaGreatDoorPw
import Derived.Test.YtjendlnicbieoaaGreatDoorWxWp
namespace Go.Proofs.YtjendlnicbieoaaGreatDoor
open Go.RowKit Go.Sort
attribute [local go_sem] Oper.semAt_some

theorem bsize_len (B : ByteArray) : B.size = B.data.toList.length := by
  show B.data.size = _
  rw [Array.length_toList]
theorem wf_okT : ∀ (t : Fo) (lt : Bool) (k : Nat) (d : Int), wfF lt k d t → okT t
  | .nil, _, _, _, _ => trivial
  | .cons _ _ _ c r, _, k, _, h => by
    obtain ⟨⟨h1, -, -, h4, h5⟩, h6⟩ := h
    refine ⟨h1, ⟨h4.1, by have := h4.2; omega⟩, wf_okT c _ _ _ h5, wf_okT r _ _ _ h6⟩
set_option maxRecDepth 100000 in
set_option maxHeartbeats 2000000 in
theorem rText_no (p : List Fn) (hok : okP p = false) (pa : Option Addr) (cap : Nat) (w : World) (hP : PAt (· < w.heap.size) w p pa cap) : Calls Tryz.prog 10 #[prV p pa cap] w (TxtE [] 70 w) := by
  have hbp := Blk.new w 24 [.slice pa p.length cap]
  have hw1 := below_new w (.cells #[.slice pa p.length cap] 24)
  have c0 := hbp.c 0 rfl
  have hCk := rright_any p pa cap _ (hP.later hw1)
  rw [hok] at hCk
  clear hok
  unfold prV at hCk ⊢
  go_enter Tryz.func10, Tryz.ntmps10
  go_wp2_with (go_at_call 29; refine hCk.mono ?_; rintro e w2 ⟨rfl, hb2⟩)
  go_ret2
  exact ⟨rfl, hw1.trans (hb2.mono hw1.size)⟩
set_option maxRecDepth 100000 in
set_option maxHeartbeats 8000000 in
theorem rText_yes (p : List Fn) (hok : okP p = true) (hn : ∀ f ∈ p, ∀ x ∈ f.ns, Rn x.n) (ts : List (Int × Fo)) (hts : Trs p ts) (pa : Option Addr) (cap : Nat) (w : World) (hP : PAt (· < w.heap.size) w p pa cap) :
    Calls Tryz.prog 10 #[prV p pa cap] w (TxtE (txP 0 ts) 0 w) := by
  have hbp := Blk.new w 24 [.slice pa p.length cap]
  have hw1 := below_new w (.cells #[.slice pa p.length cap] 24)
  have c0 := hbp.c 0 rfl
  have hCk := rright_any p pa cap _ (hP.later hw1)
  rw [hok] at hCk
  have hTo := okP_trOk hok hn hts
  have hp64 : p.length ≤ 64 := by
    unfold okP at hok
    simp only [Bool.and_eq_true, decide_eq_true_eq] at hok
    exact hok.1.1.1.2
  have hlen := hts.len
  obtain ⟨hx1, hx2, -⟩ := txP_len ts 0 hTo (by omega)
  obtain ⟨T, hT⟩ : ∃ T, txP 0 ts = T := ⟨_, rfl⟩
  rw [hT] at hx1 hx2 ⊢
  have HT := Lib.hid hT
  have HTO := Lib.hid hTo
  have HLEN := Lib.hid hlen
  have HTS := Lib.hid hts
  have HP := Lib.hid hP
  have htl : T.length ≤ 1043200 := by omega
  clear hok hn hT hTo hx1 hx2 hts hlen hP
  unfold prV at hCk ⊢
  go_enter Tryz.func10, Tryz.ntmps10
  go_upto_region 4 with (go_at_call 29; refine hCk.mono ?_; rintro e w2 ⟨rfl, hb2⟩)
  have hbp3 := hbp.belowAll hb2
  have hbw3 := hw1.trans (hb2.mono hw1.size)
  clear c0 hCk hbp hw1 hb2
  generalize w2 = w3 at *
  have hz3 := hbp3.lt
  go_wp2_with fail
  go_loopw [4, 5] (fun sv iv wr => ∃ (j : Nat) (S : ByteArray), sv = .string S ∧ iv = .int .i64 (j : Nat) ∧ j ≤ p.length ∧ S.data.toList = txP 0 (ts.take j) ∧ S.size ≤ 1043200 ∧ Below w3.heap.size w3 wr) (fun _ iv _ => p.length - (intOf iv).toNat)
  case atStart => exact ⟨0, ⟨#[]⟩, rfl, rfl, Nat.zero_le _, by simp [txP], Nat.zero_le _, Below.refl _ _⟩
  case round =>
    obtain ⟨j, S, rfl, rfl, hj, hS, hSz, hbr⟩ := hrel
    have HS := Lib.hid hS
    clear hS
    have hzr := hbr.size
    have hbwr : Below w.heap.size w wr := hbw3.trans (hbr.mono hbw3.size)
    have hbpr := hbp3.belowAll hbr
    have c0 := hbpr.c 0 rfl
    by_cases hlt : j < p.length
    case' neg =>
      have hd : decide (j < p.length) = false := by simp; omega
      have HJ : Hid (S = ⟨T.toArray⟩) := by
        have h1 : txP 0 (ts.take j) = T := by
          rw [List.take_of_length_le (by rw [HLEN.out]; omega)]
          exact HT.out
        have h2 := HS.out
        rw [h1] at h2
        exact tB_of h2
      go_wp2_with fail
      go_ret2
      exact ⟨by rw [HJ.out]; rfl, hbwr⟩
    case' pos =>
      have hd : decide (j < p.length) = true := by simp; omega
      obtain ⟨f, hf⟩ : ∃ f, p[j]? = some f := ⟨p[j], List.getElem?_eq_getElem hlt⟩
      obtain ⟨t, htj, hrd⟩ := HTS.out.at_ j f hf
      obtain ⟨g, o, na, fc, rfl, hg, q0, q1, hc1, hc2, hns, hrg⟩ := HP.out.fs j f hf
      obtain ⟨a1, a2, a3, a4, a5, -⟩ := HTO.out _ (List.mem_of_getElem? htj)
      dsimp only at a1 a2 a3 a4 a5
      have y0 := (hbwr.cell (p := ⟨g, o + j * 2, none⟩) hg).trans q0
      have y1 := (hbwr.cell (p := ⟨g, o + j * 2 + 1, none⟩) hg).trans q1
      obtain ⟨m, hm⟩ := Int.eq_ofNat_of_zero_le a1
      have HTJ : Hid (txP 0 (ts.take (j + 1)) = txP 0 (ts.take j) ++ txFn j m t) := by
        show _ = _
        obtain ⟨h1, h2⟩ := List.getElem?_eq_some_iff.1 htj
        rw [List.take_succ_eq_append_getElem h1, h2, txP_snoc, List.length_take, Nat.min_eq_left (by omega), Nat.zero_add, hm]
      have hTl : (txP 0 (ts.take (j + 1))).length ≤ 1043200 := by
        have : T = txP 0 (ts.take (j + 1)) ++ txP (0 + (ts.take (j + 1)).length) (ts.drop (j + 1)) := by rw [← HT.out, ← txP_app, List.take_append_drop]
        have := congrArg List.length this
        rw [List.length_append] at this
        omega
      rw [HTJ.out, List.length_append] at hTl
      have hfl : (txFn j m t).length = 4 + (1 + (Lib.itoa (j : Int)).length) + 1 + (joinC false (varsT m)).length + 4 + ((txF t m).getD 0 []).length + 1 := by
        unfold txFn
        simp only [List.length_append, List.length_cons, List.length_nil, Int.toNat_natCast]
        omega
      rw [hm] at a2 a5 y0
      have hbF := Blk.new wr 46 [.int .i64 (m : Nat), .slice na f.ns.length fc]
      have hb4 := below_new wr (.cells #[.int .i64 (m : Nat), .slice na f.ns.length fc] 46)
      have hgr : g < wr.heap.size := by have := hbwr.size; omega
      obtain ⟨jl, hjl⟩ : ∃ n, (joinC false (varsT m)).length = n := ⟨_, rfl⟩
      obtain ⟨xl, hxl⟩ : ∃ n, ((txF t m).getD 0 []).length = n := ⟨_, rfl⟩
      rw [hjl, hxl] at hfl
      have hjb : jl ≤ 1043200 := by omega
      have hxb : xl ≤ 1043200 := by omega
      have HJL := Lib.hid hjl
      have HXL := Lib.hid hxl
      clear q0 q1 hf htj hTl hfl hjl hxl
      go_upto_region 8 with fail
      have hbr4 : Below w3.heap.size w3 _ := hbr.trans (hb4.mono (by omega))
      have hbw4 := hbw3.trans (hbr4.mono hbw3.size)
      have hfn : FnAt (· < w.heap.size) _ f na fc := ⟨hns.below hbw4, hc1, hc2, hrg⟩
      clear y0 y1 hb4
      generalize wr.alloc (.cells #[.int .i64 (m : Nat), .slice na f.ns.length fc] 46) = w4 at *
      have hfb := hbF.lt
      generalize wr.heap.size = fb at *
      have hz4 := hbr4.size
      obtain ⟨O, hO⟩ : ∃ O, tB (102 :: Lib.itoa (j : Int)) = O := ⟨_, rfl⟩
      have hOw := own_any 102 (j : Nat) ⟨by omega, by omega⟩ w4
      rw [hO] at hOw
      have hOz : O.size ≤ 22 := by
        rw [← hO, tB_size]
        have := itoa_21 (n := (j : Int)) ⟨by omega, by omega⟩
        simp only [List.length_cons]
        omega
      have HOD : Hid (O.data.toList = 102 :: Lib.itoa (j : Int)) := by show _ = _; rw [← hO, tB_data]
      have z4 : (ByteArray.mk #[102, 117, 110, 32]).size = 4 := rfl
      have z1 : (ByteArray.mk #[40]).size = 1 := rfl
      have q1 : ¬ (9223372036854775807 < S.size + 4) := by omega
      have q2 : ¬ (9223372036854775807 < S.size + 4 + O.size) := by omega
      have q3 : ¬ (9223372036854775807 < S.size + 4 + O.size + 1) := by omega
      have g0 := hbF.c 0 rfl
      have HSA : Hid ((S ++ ⟨#[102, 117, 110, 32]⟩ ++ O ++ ⟨#[40]⟩ : ByteArray).data.toList = txP 0 (ts.take j) ++ [102, 117, 110, 32] ++ (102 :: Lib.itoa (j : Int)) ++ [40]) := by
        show _ = _
        simp only [ByteArray.data_append, Array.toList_append, HS.out, HOD.out]
      have hsz : (S ++ ⟨#[102, 117, 110, 32]⟩ ++ O ++ ⟨#[40]⟩ : ByteArray).size ≤ 1043300 := by
        simp only [ByteArray.size_append, z4, z1]
        omega
      clear hO c0
      go_upto_region 9 with (go_at_call 30; refine hOw.mono ?_; rintro e w5 ⟨rfl, rfl⟩)
      generalize S ++ ⟨#[102, 117, 110, 32]⟩ ++ O ++ ⟨#[40]⟩ = SA at *
      clear hOw q1 q2 q3
      go_wp2_with fail
      go_loopw [4, 7] (fun sv kv wq => ∃ (k : Nat) (Q : ByteArray) (tx : List UInt8), sv = .string Q ∧ kv = .int .i64 (k : Nat) ∧ k ≤ m ∧ Q.data.toList = txP 0 (ts.take j) ++ [102, 117, 110, 32] ++ (102 :: Lib.itoa (j : Int)) ++ [40] ++ tx ∧ Q.size = SA.size + tx.length ∧ tx ++ joinC (decide (0 < k)) ((varsT m).drop k) = joinC false (varsT m) ∧ w4 = wq) (fun _ kv _ => m - (intOf kv).toNat)
      case atStart => exact ⟨0, SA, [], rfl, rfl, Nat.zero_le _, by simpa using HSA.out, rfl, rfl, rfl⟩
      case round =>
        obtain ⟨k, Q, tx, rfl, rfl, hk, hQ, hQz, htx, rfl⟩ := hrel
        have HQ := Lib.hid hQ
        have HQZ := Lib.hid hQz
        have htl2 := congrArg List.length htx
        rw [List.length_append, HJL.out] at htl2
        have hqb : Q.size ≤ 2086500 := by omega
        clear hQ hQz
        have g0 := hbF.c 0 rfl
        by_cases hkm : k < m
        case' pos =>
          have hdk : decide (k < m) = true := by simp; omega
          rw [varsT_drop m k hkm] at htx
          rw [joinC_drop] at htx
          obtain ⟨V, hV⟩ : ∃ V, tB (118 :: Lib.itoa (k : Int)) = V := ⟨_, rfl⟩
          have hVw := own_any 118 (k : Nat) ⟨by omega, by omega⟩ w4
          rw [hV] at hVw
          have hVz : V.size = (118 :: Lib.itoa (k : Int)).length := by rw [← hV, tB_size]
          have hVb : V.size ≤ 22 := by
            rw [hVz]
            have := itoa_21 (n := (k : Int)) ⟨by omega, by omega⟩
            simp only [List.length_cons]
            omega
          have HVD : Hid (V.data.toList = 118 :: Lib.itoa (k : Int)) := by show _ = _; rw [← hV, tB_data]
          have HVZ := Lib.hid hVz
          have z2 : (ByteArray.mk #[44, 32]).size = 2 := rfl
          clear hV hVz htl2
          by_cases h0 : k = 0
          case' pos =>
            have hj0 : decide (0 < k) = false := by simp; omega
            rw [hj0] at htx
            have HTX : Hid ((tx ++ 118 :: Lib.itoa (k : Int)) ++ joinC (decide (0 < k + 1)) ((varsT m).drop (k + 1)) = joinC false (varsT m)) := by
              show _ = _
              rw [← htx]
              simp
            have q1 : ¬ (9223372036854775807 < Q.size + V.size) := by omega
            clear htx h0
            go_wp2_with (go_at_call 30; refine hVw.mono ?_; rintro e w8 ⟨rfl, rfl⟩)
            go_roundw
            case' rel => exact ⟨k + 1, Q ++ V, tx ++ 118 :: Lib.itoa (k : Int), rfl, by go_num, by omega, by rw [ByteArray.data_append, Array.toList_append, HQ.out, HVD.out]; simp, by rw [ByteArray.size_append, HQZ.out, HVZ.out, List.length_append]; omega, HTX.out, trivial⟩
            case' measure =>
              show m - ((k : Int) + 1).toNat < m - ((k : Nat) : Int).toNat
              omega
          case' neg =>
            have hj0 : decide (0 < k) = true := by simp; omega
            rw [hj0] at htx
            have HTX : Hid ((tx ++ [44, 32] ++ 118 :: Lib.itoa (k : Int)) ++ joinC (decide (0 < k + 1)) ((varsT m).drop (k + 1)) = joinC false (varsT m)) := by
              show _ = _
              rw [← htx]
              simp
            have q1 : ¬ (9223372036854775807 < Q.size + 2) := by omega
            have q2 : ¬ (9223372036854775807 < Q.size + 2 + V.size) := by omega
            clear htx h0
            go_wp2_with (go_at_call 30; refine hVw.mono ?_; rintro e w8 ⟨rfl, rfl⟩)
            go_roundw
            case' rel => exact ⟨k + 1, Q ++ ⟨#[44, 32]⟩ ++ V, tx ++ [44, 32] ++ 118 :: Lib.itoa (k : Int), rfl, by go_num, by omega, by rw [ByteArray.data_append, ByteArray.data_append, Array.toList_append, Array.toList_append, HQ.out, HVD.out]; simp, by rw [ByteArray.size_append, ByteArray.size_append, HQZ.out, HVZ.out, z2]; simp only [List.length_append, List.length_cons, List.length_nil]; omega, HTX.out, trivial⟩
            case' measure =>
              show m - ((k : Int) + 1).toNat < m - ((k : Nat) : Int).toNat
              omega
        case' neg =>
          have hdk : decide (k < m) = false := by simp; omega
          rw [varsT_nil m k (by omega)] at htx
          have htx : tx = joinC false (varsT m) := by simpa [joinC] using htx
          have HTX := Lib.hid htx
          clear htx htl2
          obtain ⟨c1, op1, n1, k1, ht1⟩ := fo_one a3
          rw [ht1] at hrd a4 a5
          obtain ⟨x1, l1, hcl, hx1, -⟩ := hrd.cons_inv
          obtain rfl : c1 = 0 := by
            injection hcl with h1 _
            omega
          have hXe : (txF (.cons 0 op1 n1 k1 .nil) (m : Int)).getD 0 [] = txN op1 n1 (txF k1 m) (txF k1 ((m : Int) + 1)) m := rfl
          have hXL := HXL.out
          rw [ht1, hXe] at hXL
          simp only [sizeF] at a4
          have hX := text_all 300 f na fc 0 op1 n1 k1 (m : Int) w4 (by omega) hrd (wf_okT _ _ _ _ a5) ⟨hfn.ns.more fun q hq => by have := hbw4.size; omega, hfn.le, hfn.cap, hfn.ps⟩ (by omega) (by omega) (by omega)
          obtain ⟨X, hXX⟩ : ∃ X, tB (txN op1 n1 (txF k1 m) (txF k1 ((m : Int) + 1)) m) = X := ⟨_, rfl⟩
          rw [hXX] at hX
          have hXz : X.size ≤ 1043200 := by rw [← hXX, tB_size, hXL]; exact hxb
          have HXD : Hid (X.data.toList = txN op1 n1 (txF k1 m) (txF k1 ((m : Int) + 1)) m) := by show _ = _; rw [← hXX, tB_data]
          have g1 := hbF.c 1 rfl
          unfold fnV at hX
          rw [hm] at hX
          have hX : Calls Tryz.prog 31 #[.agg #[.int .i64 (m : Nat), .slice na f.ns.length fc], .int .i64 0, .int .i64 (m : Nat)] w4 _ := hX
          have z4 : (ByteArray.mk #[41, 32, 61, 32]).size = 4 := rfl
          have z1 : (ByteArray.mk #[10]).size = 1 := rfl
          have q1 : ¬ (9223372036854775807 < Q.size + 4) := by omega
          have q2 : ¬ (9223372036854775807 < Q.size + 4 + X.size) := by omega
          have q3 : ¬ (9223372036854775807 < Q.size + 4 + X.size + 1) := by omega
          have HFIN : Hid ((Q ++ ⟨#[41, 32, 61, 32]⟩ ++ X ++ ⟨#[10]⟩ : ByteArray).data.toList = txP 0 (ts.take (j + 1))) := by
            show _ = _
            rw [HTJ.out, ht1]
            simp only [ByteArray.data_append, Array.toList_append, HQ.out, HXD.out, HTX.out]
            unfold txFn
            simp only [Int.toNat_natCast, txF, List.getD_cons_zero, List.append_assoc]
          have hFz : (Q ++ ⟨#[41, 32, 61, 32]⟩ ++ X ++ ⟨#[10]⟩ : ByteArray).size ≤ 1043200 := by
            have h1 : (Q ++ ⟨#[41, 32, 61, 32]⟩ ++ X ++ ⟨#[10]⟩ : ByteArray).size = (txP 0 (ts.take (j + 1))).length := by rw [bsize_len, HFIN.out]
            rw [h1]
            have : T = txP 0 (ts.take (j + 1)) ++ txP (0 + (ts.take (j + 1)).length) (ts.drop (j + 1)) := by rw [← HT.out, ← txP_app, List.take_append_drop]
            have := congrArg List.length this
            rw [List.length_append] at this
            omega
          clear hXX hXe hXL
          go_wp2_with (go_at_call 31; refine hX.mono ?_; rintro e w9 ⟨rfl, hb9⟩)
          go_roundw
          case' rel => exact ⟨j + 1, _, rfl, by go_num, by omega, HFIN.out, hFz, hbr4.trans (hb9.mono (by omega))⟩
          case' measure =>
            show p.length - ((j : Int) + 1).toNat < p.length - ((j : Nat) : Int).toNat
            omega
end Go.Proofs.YtjendlnicbieoaaGreatDoor
