/-
  The reference's own, texts, text.
-/
import Derived.Test.YtjendlnicbieoaaGreatDoorDg
import Derived.Test.YtjendlnicbieoaaGreatDoorOr
import Derived.Test.YtjendlnicbieoaaGreatDoorBwWl
import Derived.Lib.QuietBelow
namespace Go.Proofs.YtjendlnicbieoaaGreatDoor
open Go.RowKit Go.Sort
attribute [local go_sem] Oper.semAt_some

def tB (l : Bs) : ByteArray := ⟨l.toArray⟩
theorem tB_data (l : Bs) : (tB l).data.toList = l := by simp [tB]
theorem tB_size (l : Bs) : (tB l).size = l.length := by simp [tB, ByteArray.size]
theorem tB_of {S : ByteArray} {l : Bs} (h : S.data.toList = l) : S = tB l := by
  apply ByteArray.ext
  apply Array.toList_inj.1
  rw [h, tB_data]
theorem itoa_21 {n : Int} (hn : Rng n) : (Lib.itoa n).length ≤ 21 := Lib.itoa_length_le n hn.1 hn.2
set_option maxRecDepth 100000 in
theorem own_any (c : UInt8) (n : Int) (hn : Rng n) (w : World) : Calls Tryz.prog 30 #[.string ⟨#[c]⟩, .int .i64 n] w fun e w' => e = .returned (.string (tB (c :: Lib.itoa n))) ∧ w = w' := by
  have hD := rDigits_any n hn w
  obtain ⟨A, hA⟩ : ∃ A, (⟨(Lib.itoa n).toArray⟩ : ByteArray) = A := ⟨_, rfl⟩
  rw [hA] at hD
  have hz : A.size ≤ 21 := by rw [← hA]; simpa [ByteArray.size] using itoa_21 hn
  have h1 : (ByteArray.mk #[c]).size = 1 := rfl
  have HE : Hid ((ByteArray.mk #[c]) ++ A = tB (c :: Lib.itoa n)) := tB_of (by rw [ByteArray.data_append, Array.toList_append, ← hA]; simp)
  obtain ⟨B, hB⟩ : ∃ B, tB (c :: Lib.itoa n) = B := ⟨_, rfl⟩
  rw [hB] at HE ⊢
  clear hA hB
  go_enter Tryz.func30, Tryz.ntmps30
  go_wp2_with (go_at_call 55; refine hD.mono ?_; rintro e w1 ⟨rfl, rfl⟩)
  go_ret
  exact ⟨by rw [HE.out]; rfl, rfl⟩
/-- What the reference's text asks of trees. -/
def okT : Fo → Prop
  | .nil => True
  | .cons _ op n k r => kidsOk op (cntF k) = true ∧ Rng n ∧ okT k ∧ okT r
/-- text writes what it shall, for trees of at most that size. -/
def TxC (m : Nat) : Prop := ∀ (f : Fn) (na : Option Addr) (cap : Nat) (c : Nat) (op n : Int) (k : Fo) (d : Int) (w : World),
  1 + sizeF k ≤ m → RdF f.ns [(c : Int)] (.cons c op n k .nil) → okT (.cons c op n k .nil) → FnAt (· < w.heap.size) w f na cap → 0 ≤ d → d + (1 + sizeF k) ≤ 1000000 → (txN op n (txF k d) (txF k (d + 1)) d).length ≤ 1000000000 →
  Calls Tryz.prog 31 #[fnV f na cap, .int .i64 (c : Nat), .int .i64 d] w fun e w' => e = .returned (.string (tB (txN op n (txF k d) (txF k (d + 1)) d))) ∧ Below w.heap.size w w'
theorem rdF_atT {ns : List Nd} {l : List Int} {t : Fo} (h : RdF ns l t) : ∀ (j : Nat), j < l.length → okT t → ∃ (c : Nat) (op n : Int) (k r : Fo), l[j]? = some (c : Int) ∧ dropF j t = .cons c op n k r ∧ RdF ns [(c : Int)] (.cons c op n k .nil) ∧ okT (.cons c op n k .nil) ∧ 1 + sizeF k ≤ sizeF t ∧ dropF (j + 1) t = r := by
  induction h with
  | nil => intro j hj; simp at hj
  | @cons c x l k r hx hk hl ih1 ih2 =>
    intro j hj ho
    obtain ⟨h1, h2, h6, h7⟩ := ho
    cases j with
    | zero => exact ⟨c, x.op, x.n, k, r, rfl, rfl, .cons hx hk .nil, ⟨h1, h2, h6, trivial⟩, by simp [sizeF], rfl⟩
    | succ j =>
      obtain ⟨c2, op2, n2, k2, r2, e1, e2, e3, e4, e5, e6⟩ := ih2 j (by simpa using hj) h7
      exact ⟨c2, op2, n2, k2, r2, by simpa using e1, e2, e3, e4, by simp only [sizeF]; omega, e6⟩
theorem cntF_tx (t : Fo) (d : Int) : (txF t d).length = cntF t := by
  induction t with
  | nil => rfl
  | cons _ _ _ _ r _ ih => simp [txF, cntF, ih]; omega
set_option maxRecDepth 100000 in
set_option maxHeartbeats 4000000 in
theorem texts_any (m : Nat) (hX : TxC m) (f : Fn) (na : Option Addr) (cap : Nat) (ks : List Int) (la : Option Addr) (lc : Nat) (t : Fo) (d : Int) (w : World)
    (hm : sizeF t ≤ m) (hr : RdF f.ns ks t) (ho : okT t) (hf : FnAt (· < w.heap.size) w f na cap) (hki : IsI (· < w.heap.size) w ks la) (hkc : ks.length ≤ lc) (hlc : lc ≤ maxLen) (hd0 : 0 ≤ d) (hd : d + sizeF t ≤ 1000000) (hlen : (brk (txF t d)).length ≤ 1000000000) :
    Calls Tryz.prog 56 #[fnV f na cap, .slice la ks.length lc, .int .i64 d] w fun e w' => e = .returned (.string (tB (brk (txF t d)))) ∧ Below w.heap.size w w' := by
  have hbf := Blk.new w 46 [.int .i64 f.ps, .slice na f.ns.length cap]
  have hw1 := below_new w (.cells #[.int .i64 f.ps, .slice na f.ns.length cap] 46)
  unfold fnV
  have hkl := rdF_cnt hr
  obtain ⟨J, hJ⟩ : ∃ J, brk (txF t d) = J := ⟨_, rfl⟩
  rw [hJ] at hlen ⊢
  have HJ : Hid (J = 40 :: (joinC false (txF t d) ++ [41])) := hJ.symm
  have hjl : J.length = (joinC false (txF t d)).length + 2 := by rw [HJ.out]; simp
  have HX := Lib.hid hX
  have HR := Lib.hid hr
  have HO := Lib.hid ho
  have HKL := Lib.hid hkl
  unfold maxLen at hlc
  obtain ⟨jl, hjl2⟩ : ∃ n, (joinC false (txF t d)).length = n := ⟨_, rfl⟩
  have hjb : jl + 2 ≤ 1000000000 := by omega
  have HJL := Lib.hid hjl2
  clear hX hr ho hJ hkl hjl hlen hjl2
  go_enter Tryz.func56, Tryz.ntmps56
  go_upto_region 1 with fail
  generalize w.alloc (.cells #[.int .i64 f.ps, .slice na f.ns.length cap] 46) = w1 at *
  go_wp2_with fail
  go_loopw [7, 8] (fun sv jv wr => ∃ (j : Nat) (S : ByteArray) (tx : Bs), jv = .int .i64 (j : Nat) ∧ j ≤ ks.length ∧ sv = .string S ∧ S.data.toList = 40 :: tx ∧ S.size = tx.length + 1 ∧ tx.length ≤ jl ∧ tx ++ joinC (decide (0 < j)) ((txF t d).drop j) = joinC false (txF t d) ∧ Below w1.heap.size w1 wr) (fun _ jv _ => ks.length - (intOf jv).toNat)
  case atStart => exact ⟨0, ⟨#[40]⟩, [], rfl, Nat.zero_le _, rfl, rfl, rfl, Nat.zero_le _, rfl, Below.refl _ _⟩
  case round =>
    obtain ⟨j, S, tx, rfl, hj, rfl, hS, hSz, htl, htx, hbr⟩ := hrel
    have hbw := hw1.trans (hbr.mono hw1.size)
    have hbfr := hbf.belowAll hbr
    have HS := Lib.hid hS
    have HSZ := Lib.hid hSz
    have hsb : S.size ≤ 1000000000 := by omega
    by_cases hlt : j < ks.length
    case' neg =>
      have hdj : decide (j < ks.length) = false := decide_eq_false hlt
      have hdr : (txF t d).drop j = [] := List.drop_eq_nil_of_le (by rw [cntF_tx, ← HKL.out]; omega)
      rw [hdr] at htx
      have HT : Hid (S ++ ⟨#[41]⟩ = tB J) := tB_of (by
        rw [ByteArray.data_append, Array.toList_append, HS.out, HJ.out, ← htx]
        simp [joinC])
      have z41 : (ByteArray.mk #[41]).size = 1 := rfl
      clear hdr htx hS hSz
      go_wp2_with fail
      go_ret
      exact ⟨by rw [HT.out]; rfl, hbw⟩
    case' pos =>
      have hdj : decide (j < ks.length) = true := decide_eq_true hlt
      obtain ⟨c, op, n, k, r, e1, e2, e3, e4, e5, e6⟩ := rdF_atT HR.out j hlt HO.out
      have hdr : (txF t d).drop j = txN op n (txF k d) (txF k (d + 1)) d :: (txF t d).drop (j + 1) := by
        rw [← txF_drop, ← txF_drop, e2, e6]
        rfl
      rw [hdr] at htx
      obtain ⟨X, hXe⟩ : ∃ X, txN op n (txF k d) (txF k (d + 1)) d = X := ⟨_, rfl⟩
      rw [hXe] at htx
      obtain ⟨g, o, rfl, hg, q0, hrc⟩ := hki j _ e1
      have y0 := (hbw.cell (p := ⟨g, o + j, none⟩) hg).trans q0
      have f0 := hbfr.c 0 rfl
      have f1 := hbfr.c 1 rfl
      have hfr : FnAt (· < wr.heap.size) wr f na cap := hf.later hbw
      have hXl := congrArg List.length htx
      rw [HJL.out, joinC_drop] at hXl
      rw [joinC_drop] at htx
      simp only [List.length_append] at hXl
      have hXb : X.length ≤ jl := by omega
      have hd64 : d + (1 + sizeF k) ≤ 1000000 := by omega
      obtain ⟨Y, hY⟩ : ∃ Y, tB X = Y := ⟨_, rfl⟩
      have hYz : Y.size = X.length := by rw [← hY, tB_size]
      have hYb : Y.size ≤ 1000000000 := by omega
      have HYD : Hid (Y.data.toList = X) := by show _ = _; rw [← hY, tB_data]
      have HYZ := Lib.hid hYz
      have hXc := fun wx (hx : Below wr.heap.size wr wx) => HX.out f na cap c op n k d wx (by omega) e3 e4 (hfr.later hx) hd0 hd64 (by rw [hXe]; omega)
      rw [hXe, hY] at hXc
      unfold fnV at hXc
      have cT : ∀ d' os, Calls Tryz.prog 31 #[.agg #[.int .i64 f.ps, .slice na f.ns.length cap], .int .i64 (c : Nat), .int .i64 d] (grow (redrawn wr d') os) fun e w'' => e = .returned (.string Y) ∧ ∃ p : Regrown, w'' = grow (redrawn wr p.d) p.os := fun d' os => Calls.regrown_of (hXc _ (below_regrown wr d' os))
      have g0 := fun d os => cell_regrown f0 d os
      have g1 := fun d os => cell_regrown f1 d os
      have g2 := fun d os => cell_regrown y0 d os
      clear q0 hXe hY hYz hdr e2 e6 hXc hS hSz e1
      by_cases h0 : j = 0
      case' pos =>
        have hj0 : decide (0 < j) = false := by simp; omega
        rw [hj0] at htx hXl
        simp only [Bool.false_eq_true, if_false, List.nil_append, List.length_nil, Nat.zero_add] at htx hXl
        have HTX : Hid ((tx ++ X) ++ joinC (decide (0 < j + 1)) ((txF t d).drop (j + 1)) = joinC false (txF t d)) := by
          show _ = _
          rw [← htx]
          simp
        have q1 : ¬ (9223372036854775807 < S.size + Y.size) := by omega
        have hl2 : (tx ++ X).length ≤ jl := by rw [List.length_append]; omega
        clear htx hXl h0
        go_upto_region 7 with fail
        refine wp_region_quiet_below (by kernel_rfl) (by kernel_rfl) ?_
        repeat (go_big_quiet_step (with_reducible exact cT _ _))
        refine wpQuiet_nil ?_
        intro _ hw'
        obtain ⟨⟨dq, osq⟩, hw''⟩ := hw'
        subst hw''
        have hb3 := hbr.trans ((below_regrown wr dq osq).mono hbr.size)
        clear cT g0 g1 g2 f0 f1 y0 q1
        generalize grow (redrawn wr dq) osq = w3 at *
        go_wp2_with fail
        go_roundw
        case' rel => exact ⟨j + 1, S ++ Y, tx ++ X, by go_num, by omega, rfl, by rw [ByteArray.data_append, Array.toList_append, HS.out, HYD.out]; rfl, by rw [ByteArray.size_append, HSZ.out, HYZ.out, List.length_append]; omega, hl2, HTX.out, hb3⟩
        case' measure =>
          show ks.length - ((j : Int) + 1).toNat < ks.length - ((j : Nat) : Int).toNat
          omega
      case' neg =>
        have hj0 : decide (0 < j) = true := by simp; omega
        rw [hj0] at htx hXl
        simp only [if_true, List.length_cons, List.length_nil] at hXl
        have HTX : Hid ((tx ++ [44, 32] ++ X) ++ joinC (decide (0 < j + 1)) ((txF t d).drop (j + 1)) = joinC false (txF t d)) := by
          show _ = _
          rw [← htx]
          simp
        have z44 : (ByteArray.mk #[44, 32]).size = 2 := rfl
        have q1 : ¬ (9223372036854775807 < S.size + 2 + Y.size) := by omega
        have hl2 : (tx ++ [44, 32] ++ X).length ≤ jl := by simp only [List.length_append, List.length_cons, List.length_nil]; omega
        clear htx hXl h0
        go_upto_region 7 with fail
        refine wp_region_quiet_below (by kernel_rfl) (by kernel_rfl) ?_
        repeat (go_big_quiet_step (with_reducible exact cT _ _))
        refine wpQuiet_nil ?_
        intro _ hw'
        obtain ⟨⟨dq, osq⟩, hw''⟩ := hw'
        subst hw''
        have hb3 := hbr.trans ((below_regrown wr dq osq).mono hbr.size)
        clear cT g0 g1 g2 f0 f1 y0 q1
        generalize grow (redrawn wr dq) osq = w3 at *
        go_wp2_with fail
        go_roundw
        case' rel => exact ⟨j + 1, S ++ ⟨#[44, 32]⟩ ++ Y, tx ++ [44, 32] ++ X, by go_num, by omega, rfl, by rw [ByteArray.data_append, ByteArray.data_append, Array.toList_append, Array.toList_append, HS.out, HYD.out]; simp, by rw [ByteArray.size_append, ByteArray.size_append, HSZ.out, HYZ.out, z44]; simp only [List.length_append, List.length_cons, List.length_nil]; omega, hl2, HTX.out, hb3⟩
        case' measure =>
          show ks.length - ((j : Int) + 1).toNat < ks.length - ((j : Nat) : Int).toNat
          omega
end Go.Proofs.YtjendlnicbieoaaGreatDoor
