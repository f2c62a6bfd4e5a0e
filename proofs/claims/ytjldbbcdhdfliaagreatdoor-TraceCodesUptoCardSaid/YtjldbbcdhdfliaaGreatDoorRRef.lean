
/-
 Walks over the reference of layer 5: Kind, Digits, numbered, text, Text, Lines.
-/
import Derived.Test.YtjldbbcdhdfliaaGreatDoorSiz
namespace Go.Proofs.YtjldbbcdhdfliaaGreatDoor
open Go.RowKit

set_option maxHeartbeats 400000 in
theorem rnumbered_any (k : Int) (w : World) (hk : k ≤ 13) : Calls Tryz.prog 110 #[.int .i64 k] w fun e w' => e = .returned (.bool (numd k)) ∧ w = w' := by
 by_cases h4 : k = 4
 ·subst h4
  go_enter Tryz.func110, Tryz.ntmps110
  go_wp2_with fail
  go_ret
  exact ⟨rfl, rfl⟩
 ·have e4 : (k == 4) = false := by rw [beq_eq_false_iff_ne]; exact h4
  go_enter Tryz.func110, Tryz.ntmps110
  go_wp2_with fail
  go_ret
  refine ⟨ret_bool ?_, rfl⟩
  unfold numd
  rw [Bool.eq_iff_iff]
  simp [h4]
  omega

/-- Where Digits stands. -/
def DigAt (m0 m : Nat) (l : List UInt8) : Prop := (l = [] ∧ m = m0) ∨ (l ≠ [] ∧ ((m = 0 ∧ Lib.decDigits m0 = l) ∨ (0 < m ∧ Lib.decDigits m0 = Lib.decDigits m ++ l)))
theorem DigAt.step {m0 m : Nat} {l : List UInt8} (h : DigAt m0 m l) (hgo : 0 < m ∨ l = []) : DigAt m0 (m / 10) (UInt8.ofNat (48 + m % 10) :: l) := by
 have hd : Lib.decDigits m0 = Lib.decDigits m ++ l := by
  rcases h with ⟨rfl, rfl⟩ | ⟨hl, ⟨rfl, _⟩ | ⟨_, h⟩⟩
  ·simp
  ·rcases hgo with h0 | h0
   ·omega
   ·exact absurd h0 hl
  ·exact h
 refine .inr ⟨by simp, ?_⟩
 rw [hd, Lib.decDigits]
 by_cases h10 : m < 10
 ·refine .inl ⟨by omega, ?_⟩
  rw [dif_pos h10, Nat.mod_eq_of_lt h10]
  rfl
 ·refine .inr ⟨by omega, ?_⟩
  rw [dif_neg h10]
  simp
theorem DigAt.end_ {m0 m : Nat} {l : List UInt8} (h : DigAt m0 m l) (h0 : m = 0) (hl : l ≠ []) : l = Lib.decDigits m0 := by
 rcases h with ⟨rfl, _⟩ | ⟨_, ⟨_, h⟩ | ⟨h, _⟩⟩
 ·exact absurd rfl hl
 ·exact h.symm
 ·omega
theorem wrap_u64 (m : Nat) (h : m ≤ 9223372036854775808) : IntKind.u64.wrap (-IntKind.u64.wrap (-(m : Int))) = m := by
 simp only [IntKind.wrap, IntKind.bits, IntKind.signed]
 simp
 omega
def strLen : Value → Nat | .string b => b.size | _ => 0
theorem DigAt.len {m0 m : Nat} {l : List UInt8} (h : DigAt m0 m l) (h0 : m0 < 18446744073709551616) : l.length ≤ 20 := by
 have h1 := Lib.decDigits_length m0
 have h2 := Lib.nDigits_le20 m0 h0
 rcases h with ⟨rfl, _⟩ | ⟨_, ⟨_, h⟩ | ⟨_, h⟩⟩
 ·simp
 ·rw [h] at h1; omega
 ·rw [h, List.length_append] at h1; omega
theorem dig1 (d : Nat) (h : d < 10) : (ByteArray.mk #[48, 49, 50, 51, 52, 53, 54, 55, 56, 57]).extract d (d + 1) = ⟨#[UInt8.ofNat (48 + d)]⟩ := by
 have : d = 0 ∨ d = 1 ∨ d = 2 ∨ d = 3 ∨ d = 4 ∨ d = 5 ∨ d = 6 ∨ d = 7 ∨ d = 8 ∨ d = 9 := by omega
 rcases this with rfl | rfl | rfl | rfl | rfl | rfl | rfl | rfl | rfl | rfl <;> rfl
theorem dig1_size (d : Nat) (h : d < 10) : ((ByteArray.mk #[48, 49, 50, 51, 52, 53, 54, 55, 56, 57]).extract d (d + 1)).size = 1 := by rw [dig1 d h]; rfl
theorem mk_cons (c : UInt8) (l : List UInt8) : ByteArray.mk #[c] ++ ByteArray.mk l.toArray = ByteArray.mk (c :: l).toArray := by
 apply ByteArray.ext
 rw [ByteArray.data_append]
 apply Array.ext'
 simp
theorem dig1_cons (d : Nat) (h : d < 10) (l : List UInt8) : (ByteArray.mk #[48, 49, 50, 51, 52, 53, 54, 55, 56, 57]).extract d (d + 1) ++ ByteArray.mk l.toArray = ByteArray.mk (UInt8.ofNat (48 + d) :: l).toArray := by
 rw [dig1 d h, mk_cons]
theorem emp_cons (c : UInt8) (l : List UInt8) : (ByteArray.mk (c :: l).toArray).toList.isEmpty = false := by simp [ByteArray.toList_eq]
set_option maxHeartbeats 1000000 in
theorem rDigits_any (n : Int) (hn : Rng n) (w : World) : Calls Tryz.prog 51 #[.int .i64 n] w fun e w' => e = .returned (.string ⟨(Lib.itoa n).toArray⟩) ∧ w = w' := by
 obtain ⟨hn1, hn2⟩ := hn
 by_cases hneg : n < 0
 ·obtain ⟨m0, rfl⟩ : ∃ m : Nat, n = -(m : Int) := ⟨n.natAbs, by omega⟩
  go_enter Tryz.func51, Tryz.ntmps51
  go_wp2_with fail
  go_loop [3, 4] (fun x s => ∃ (m : Nat) (l : List UInt8), x = .int .u64 m ∧ s = .string ⟨l.toArray⟩ ∧ m ≤ m0 ∧ DigAt m0 m l) (fun x s => (intOf x).toNat + (1 - strLen s))
  case atStart => exact ⟨m0, [], congrArg (Value.int .u64) (wrap_u64 m0 (by omega)), rfl, Nat.le_refl _, .inl ⟨rfl, rfl⟩⟩
  case round =>
   obtain ⟨m, l, rfl, rfl, hm, hd⟩ := hrel
   have hl20 := hd.len (by omega)
   have hsz : (ByteArray.mk l.toArray).size = l.length := rfl
   have hds := dig1_size (m % 10) (by omega)
   have HD := Lib.hid (dig1_cons (m % 10) (by omega) l)
   by_cases hm0 : 0 < m
   ·have HS := Lib.hid (hd.step (.inl hm0))
    go_wp2_with fail
    refine ⟨⟨m / 10, _, by go_num, congrArg Value.string HD.out, by omega, HS.out⟩, ?_⟩
    simp only [intOf, strLen, ByteArray.size_append, hds]
    omega
   ·obtain rfl : m = 0 := by omega
    cases l with
    | nil =>
     have HS := Lib.hid (hd.step (.inr rfl))
     go_wp2_with fail
     refine ⟨⟨0, _, rfl, congrArg Value.string HD.out, by omega, HS.out⟩, ?_⟩
     simp only [intOf, strLen, ByteArray.size_append]
     decide
    | cons c l =>
     have HE := Lib.hid (hd.end_ rfl (by simp))
     have hne := emp_cons c l
     have h45 : (ByteArray.mk #[45]).size = 1 := rfl
     have hsz9 : (ByteArray.mk (c :: l).toArray).size ≤ 20 := hl20
     go_wp2_with fail
     go_ret
     exact ⟨by rw [Lib.itoa_neg m0 (by omega), ← HE.out, mk_cons]; rfl, rfl⟩
 ·obtain ⟨m0, rfl⟩ : ∃ m : Nat, n = (m : Int) := ⟨n.toNat, by omega⟩
  go_enter Tryz.func51, Tryz.ntmps51
  go_wp2_with fail
  go_loop [3, 4] (fun x s => ∃ (m : Nat) (l : List UInt8), x = .int .u64 m ∧ s = .string ⟨l.toArray⟩ ∧ m ≤ m0 ∧ DigAt m0 m l) (fun x s => (intOf x).toNat + (1 - strLen s))
  case atStart => exact ⟨m0, [], by go_num, rfl, Nat.le_refl _, .inl ⟨rfl, rfl⟩⟩
  case round =>
   obtain ⟨m, l, rfl, rfl, hm, hd⟩ := hrel
   have hl20 := hd.len (by omega)
   have hsz : (ByteArray.mk l.toArray).size = l.length := rfl
   have hds := dig1_size (m % 10) (by omega)
   have HD := Lib.hid (dig1_cons (m % 10) (by omega) l)
   by_cases hm0 : 0 < m
   ·have HS := Lib.hid (hd.step (.inl hm0))
    go_wp2_with fail
    refine ⟨⟨m / 10, _, by go_num, congrArg Value.string HD.out, by omega, HS.out⟩, ?_⟩
    simp only [intOf, strLen, ByteArray.size_append, hds]
    omega
   ·obtain rfl : m = 0 := by omega
    cases l with
    | nil =>
     have HS := Lib.hid (hd.step (.inr rfl))
     go_wp2_with fail
     refine ⟨⟨0, _, rfl, congrArg Value.string HD.out, by omega, HS.out⟩, ?_⟩
     simp only [intOf, strLen, ByteArray.size_append]
     decide
    | cons c l =>
     have HE := Lib.hid (hd.end_ rfl (by simp))
     have hne := emp_cons c l
     have h45 : (ByteArray.mk #[45]).size = 1 := rfl
     have hsz9 : (ByteArray.mk (c :: l).toArray).size ≤ 20 := hl20
     go_wp2_with fail
     go_ret
     exact ⟨by rw [Lib.itoa_nonneg m0, ← HE.out]; rfl, rfl⟩
end Go.Proofs.YtjldbbcdhdfliaaGreatDoor
/-
 Walks over the reference of layer 5: text, Text, Lines.
-/
namespace Go.Proofs.YtjldbbcdhdfliaaGreatDoor
open Go.RowKit

theorem mk_app (a b : List UInt8) : ByteArray.mk a.toArray ++ ByteArray.mk b.toArray = ByteArray.mk (a ++ b).toArray := by
 apply ByteArray.ext
 rw [ByteArray.data_append]
 apply Array.ext'
 simp
theorem word_new (w : World) (j : Nat) (hj : j < 14) : (w.alloc (.cells wordCells 9)).cell? ⟨w.heap.size, j, none⟩ = some (.string (wdB j)) := by
 have h : j = 0 ∨ j = 1 ∨ j = 2 ∨ j = 3 ∨ j = 4 ∨ j = 5 ∨ j = 6 ∨ j = 7 ∨ j = 8 ∨ j = 9 ∨ j = 10 ∨ j = 11 ∨ j = 12 ∨ j = 13 := by omega
 rw [World.cell?_alloc_new]
 rcases h with rfl | rfl | rfl | rfl | rfl | rfl | rfl | rfl | rfl | rfl | rfl | rfl | rfl | rfl <;> rfl
theorem text_start (w : World) (j : Nat) (hj : j < 14) (k n : Int) (a : Option Addr) (len cap : Nat) :
  ((w.alloc (.cells #[.int .i64 k, .int .i64 n, .slice a len cap] 27)).alloc (.cells wordCells 9)).cell? ⟨w.heap.size + 1, j, none⟩ = some (.string (wdB j)) ∧
  Bx ((w.alloc (.cells #[.int .i64 k, .int .i64 n, .slice a len cap] 27)).alloc (.cells wordCells 9)) w.heap.size 27 (.int .i64 k) (.int .i64 n) (.slice a len cap) ∧
  Below w.heap.size w ((w.alloc (.cells #[.int .i64 k, .int .i64 n, .slice a len cap] 27)).alloc (.cells wordCells 9)) := by
 have h1 := word_new (w.alloc (.cells #[.int .i64 k, .int .i64 n, .slice a len cap] 27)) j hj
 have hs : (w.alloc (.cells #[.int .i64 k, .int .i64 n, .slice a len cap] 27)).heap.size = w.heap.size + 1 := by simp
 rw [hs] at h1
 exact ⟨h1, (Bx.new w 27 _ _ _).alloc _, (below_alloc _ _).trans ((below_alloc _ _).mono (by simp))⟩
/-- A string of bytes, with its length at hand. -/
def bstr (l : List UInt8) : ByteArray := ⟨l.toArray⟩
theorem bstr_size (l : List UInt8) : (bstr l).size = l.length := rfl
theorem bstr_app (a b : List UInt8) : bstr a ++ bstr b = bstr (a ++ b) := mk_app a b
set_option maxRecDepth 100000 in
set_option maxHeartbeats 2000000 in
theorem rtext_any (m : Nat) : ∀ (t : VT) (v : Value) (w : World), SizeOf.sizeOf t ≤ m → IsV (· < w.heap.size) w t v → shps t = true → (txt t).length ≤ 1000000 →
  Calls Tryz.prog 86 #[v] w fun e w' => e = .returned (.string (bstr (txt t))) ∧ Below w.heap.size w w' := by
 induction m with
 | zero => intro t; cases t; simp
 | succ m ih =>
  intro t v w hk hv hsh hlen
  obtain ⟨kd, nn, l⟩ := t
  rw [IsV] at hv
  obtain ⟨a, cap, rfl, hkr, hnr, hl, hcap, hrow⟩ := hv
  unfold maxLen at hcap
  have HI := Lib.hid ih
  clear ih
  rw [shps, Bool.and_eq_true] at hsh
  have hkind := shp_kind hsh.1
  have HSL := Lib.hid hsh.2
  clear hsh
  have hb0 := below_alloc w (.cells #[.int .i64 kd, .int .i64 nn, .slice a l.length cap] 27)
  have hbx := Bx.new w 27 (.int .i64 kd) (.int .i64 nn) (.slice a l.length cap)
  have hf15 : (bstr [40]).size = 1 := rfl
  have hf16 : (bstr [41]).size = 1 := rfl
  have hf17 : (bstr [44]).size = 1 := rfl
  by_cases h2 : kd = 2
  ·subst h2
   have HT : Hid (txt (.mk 2 nn l) = Lib.itoa nn) := by show _ = _; rw [txt, if_pos rfl]
   go_enter Tryz.func86, Tryz.ntmps86
   go_wp2_with fail
   refine (rDigits_any nn hnr _).mono ?_
   rintro e w1 ⟨rfl, rfl⟩
   go_wp2_with fail
   go_ret
   exact ⟨by rw [HT.out]; rfl, hb0⟩
  ·obtain ⟨j, rfl⟩ := Int.eq_ofNat_of_zero_le (show 0 ≤ kd by omega)
   have hj : j < 14 := by omega
   have e2 : ((j : Int) == 2) = false := by rw [beq_eq_false_iff_ne]; exact h2
   obtain ⟨hwn, hbx1, hb1⟩ := text_start w j hj j nn a l.length cap
   by_cases hleaf : (j : Int) = 1 ∨ (j : Int) = 8
   ·have HT : Hid (txt (.mk j nn l) = wdl j) := by
     show _ = _
     rw [txt, if_neg h2, if_pos hleaf]
     simp
    have hd : ((j : Int) == 1 || (j : Int) == 8) = true := by simpa using hleaf
    go_enter Tryz.func86, Tryz.ntmps86
    go_wp2_with fail
    refine (refwords_any _).mono ?_
    rintro e w1 ⟨rfl, rfl⟩
    generalize (w.alloc (.cells #[.int .i64 (j : Int), .int .i64 nn, .slice a l.length cap] 27)).alloc (.cells wordCells 9) = w2 at *
    rcases hleaf with h1 | h1
    all_goals
     obtain rfl : j = _ := Int.ofNat_inj.1 h1
     go_wp2_with fail
     go_ret
     exact ⟨(congrArg (fun x => Ending.returned (.string (bstr x))) HT.out).symm, hb1⟩
   ·have e1 : ((j : Int) == 1) = false := by rw [beq_eq_false_iff_ne]; omega
    have e8 : ((j : Int) == 8) = false := by rw [beq_eq_false_iff_ne]; omega
    cases hnd : numd j
    ·have HND := Lib.hid hnd
     clear hnd
     have HT : Hid (txt (.mk j nn l) = (wdl j ++ [40]) ++ txtL l false ++ [41]) := by
      show _ = _
      rw [txt, if_neg h2, if_neg hleaf, HND.out]
      simp
     rw [HT.out] at hlen
     simp only [List.length_append, List.length_cons, List.length_nil] at hlen
     have hws : (wdB j).size = (wdl j).length := rfl
     have h40 : (ByteArray.mk #[40]).size = 1 := rfl
     have h41 : (ByteArray.mk #[41]).size = 1 := rfl
     have h44 : (ByteArray.mk #[44]).size = 1 := rfl
     go_enter Tryz.func86, Tryz.ntmps86
     go_wp2_with fail
     refine (refwords_any _).mono ?_
     rintro e w1 ⟨rfl, rfl⟩
     generalize (w.alloc (.cells #[.int .i64 (j : Int), .int .i64 nn, .slice a l.length cap] 27)).alloc (.cells wordCells 9) = w2 at *
     go_wp2_with fail
     have hS0 : wdB j ++ ByteArray.mk #[40] = bstr (wdl j ++ [40]) := bstr_app (wdl j) [40]
     have hz0 : (wdB j ++ ByteArray.mk #[40]).size = (wdl j).length + 1 := by rw [hS0, bstr_size]; simp
     generalize wdB j ++ ByteArray.mk #[40] = S0 at *
     have HS0 := Lib.hid hS0
     clear hS0
     refine (rnumbered_any _ _ (by omega)).mono ?_
     rintro e w3 ⟨rfl, rfl⟩
     rw [HND.out]
     clear hwn
     have x1 := hbx1.c1
     have x2 := hbx1.c2
     go_wp2_with fail
     go_loopw [4, 5] (fun sv x wr => ∃ (i : Nat) (done : List UInt8) (S : ByteArray), i ≤ l.length ∧ x = .int .i64 i ∧ sv = .string S ∧ S = bstr ((wdl j ++ [40]) ++ done) ∧ txtL l false = done ++ txtL (l.drop i) (decide (0 < i) || false) ∧ Below w.heap.size w wr ∧ Bx wr w.heap.size 27 (.int .i64 j) (.int .i64 nn) (.slice a l.length cap)) (fun _ x _ => l.length - (intOf x).toNat)
     case atStart => exact ⟨0, [], _, by omega, rfl, rfl, by rw [List.append_nil]; exact HS0.out, rfl, hb1, hbx1⟩
     case round =>
      clear x1 x2 hbx1 hb1
      obtain ⟨i, done, S, hi, rfl, rfl, hS, hq, hb, hbx1⟩ := hrel
      have HQ := Lib.hid hq
      have hqlen : (txtL l false).length = done.length + (txtL (l.drop i) (decide (0 < i) || false)).length := by rw [hq, List.length_append]
      have hpd : S.size = (wdl j ++ [40]).length + done.length := by rw [hS, bstr_size, List.length_append]
      simp only [List.length_append, List.length_cons, List.length_nil] at hpd
      have HSS := Lib.hid hS
      clear hq hS
      have hsz := hb.size
      have x2 := hbx1.c2
      have hxl := hbx1.lt
      by_cases hlt : i < l.length
      ·obtain ⟨kk, n2, ll, g, o, a', cap', hlj, rfl, hg, c0, c1, c2, ht⟩ := hrow.at_ hlt
       have d0 := (hb.cell (p := ⟨g, o + i * 3, none⟩) hg).trans c0
       have d1 := (hb.cell (p := ⟨g, o + i * 3 + 1, none⟩) hg).trans c1
       have d2 := (hb.cell (p := ⟨g, o + i * 3 + 2, none⟩) hg).trans c2
       have hsub : shps (.mk kk n2 ll) = true := by rw [← hlj]; exact shpsL_mem HSL.out (List.getElem_mem hlt)
       have hszk : SizeOf.sizeOf (VT.mk kk n2 ll) ≤ m := by rw [← hlj]; exact sz_lt (List.getElem_mem hlt) hk
       have hstep : ∀ c, txtL (l.drop i) c = (if c then [44] else []) ++ (txt (.mk kk n2 ll) ++ txtL (l.drop (i + 1)) true) := by
        intro c
        rw [List.drop_eq_getElem_cons hlt, txtL, hlj]
       have HS := Lib.hid hstep
       have HSUB := Lib.hid hsub
       clear hstep hlj c0 c1 c2 hsub
       have hc1 : Hid ((decide (0 < i + 1) || false) = true) := by show _ = _; simp
       have hvk := ht.later hb
       by_cases hi0 : i = 0
       ·subst hi0
        rw [Nat.zero_mul, Nat.add_zero] at d0 d1 d2
        have hcz : (decide (0 < 0) || false) = false := by simp
        have hl9 : (txtL (l.drop 0) (decide (0 < 0) || false)).length = (txt (.mk kk n2 ll)).length + (txtL (l.drop (0 + 1)) true).length := by rw [HS.out, hcz]; simp
        have HCZ := Lib.hid hcz
        clear hcz
        have hd0 : decide ((0 : Int) < ((0 : Nat) : Int)) = false := by simp
        go_wp2_with (go_at_call 110; refine (rnumbered_any _ _ (by omega)).mono ?_; rintro e w3 ⟨rfl, rfl⟩; rw [HND.out])
        refine (HI.out (.mk kk n2 ll) _ _ hszk hvk HSUB.out (by omega)).mono ?_
        rintro e w5 ⟨rfl, hb5⟩
        have htk : (bstr (txt (.mk kk n2 ll))).size = (txt (.mk kk n2 ll)).length := rfl
        have HAP : Hid (S ++ bstr (txt (.mk kk n2 ll)) = bstr ((wdl j ++ [40]) ++ (done ++ txt (.mk kk n2 ll)))) := by show _ = _; rw [HSS.out, bstr_app]; simp
        generalize bstr (txt (.mk kk n2 ll)) = T at *
        go_wp2_with fail
        go_roundw
        case rel =>
         refine ⟨0 + 1, done ++ txt (.mk kk n2 ll), _, by omega, by go_num, rfl, HAP.out, ?_, hb.trans (hb5.mono hsz), hbx1.belowAll hb5⟩
         rw [HQ.out, HS.out, HCZ.out, hc1.out]; simp
        case measure => simp [intOf]; omega
       ·have hip : 0 < i := by omega
        have hcz : (decide (0 < i) || false) = true := by simp [hip]
        have hl9 : (txtL (l.drop i) (decide (0 < i) || false)).length = 1 + ((txt (.mk kk n2 ll)).length + (txtL (l.drop (i + 1)) true).length) := by rw [HS.out, hcz]; simp; omega
        have HCZ := Lib.hid hcz
        clear hcz
        go_wp2_with (go_at_call 110; refine (rnumbered_any _ _ (by omega)).mono ?_; rintro e w3 ⟨rfl, rfl⟩; rw [HND.out])
        have h442 : S ++ ByteArray.mk #[44] = bstr ((wdl j ++ [40]) ++ done ++ [44]) := by rw [HSS.out]; exact bstr_app _ [44]
        have hz44 : (S ++ ByteArray.mk #[44]).size = S.size + 1 := by rw [ByteArray.size_append]; rfl
        generalize S ++ ByteArray.mk #[44] = S2 at *
        have H44 := Lib.hid h442
        clear h442
        refine (HI.out (.mk kk n2 ll) _ _ hszk hvk HSUB.out (by omega)).mono ?_
        rintro e w5 ⟨rfl, hb5⟩
        have htk : (bstr (txt (.mk kk n2 ll))).size = (txt (.mk kk n2 ll)).length := rfl
        have HAP : Hid (S2 ++ bstr (txt (.mk kk n2 ll)) = bstr ((wdl j ++ [40]) ++ (done ++ [44] ++ txt (.mk kk n2 ll)))) := by show _ = _; rw [H44.out, bstr_app]; simp
        generalize bstr (txt (.mk kk n2 ll)) = T at *
        go_wp2_with fail
        go_roundw
        case rel =>
         refine ⟨i + 1, done ++ [44] ++ txt (.mk kk n2 ll), _, by omega, by go_num, rfl, HAP.out, ?_, hb.trans (hb5.mono hsz), hbx1.belowAll hb5⟩
         rw [HQ.out, HS.out, HCZ.out, hc1.out]; simp
        case measure => simp [intOf]; omega
      ·have hnil : txtL (l.drop i) (decide (0 < i) || false) = [] := by rw [List.drop_of_length_le (by omega), txtL]
       rw [hnil] at hqlen
       have HN := Lib.hid hnil
       have H41 : Hid (S ++ ByteArray.mk #[41] = bstr ((wdl j ++ [40]) ++ done ++ [41])) := by show _ = _; rw [HSS.out]; exact bstr_app _ [41]
       clear hnil
       simp only [List.length_nil] at hqlen
       go_wp2_with fail
       go_ret
       refine ⟨?_, hb⟩
       have e9 : txt (.mk j nn l) = (wdl j ++ [40]) ++ done ++ [41] := by rw [HT.out, HQ.out, HN.out]; simp
       rw [e9, ← H41.out]; rfl
    ·have HND := Lib.hid hnd
     clear hnd
     have HT : Hid (txt (.mk j nn l) = (wdl j ++ [40] ++ Lib.itoa nn) ++ txtL l true ++ [41]) := by
      show _ = _
      rw [txt, if_neg h2, if_neg hleaf, HND.out]
      simp
     rw [HT.out] at hlen
     simp only [List.length_append, List.length_cons, List.length_nil] at hlen
     have hws : (wdB j).size = (wdl j).length := rfl
     have h40 : (ByteArray.mk #[40]).size = 1 := rfl
     have h41 : (ByteArray.mk #[41]).size = 1 := rfl
     have h44 : (ByteArray.mk #[44]).size = 1 := rfl
     go_enter Tryz.func86, Tryz.ntmps86
     go_wp2_with fail
     refine (refwords_any _).mono ?_
     rintro e w1 ⟨rfl, rfl⟩
     generalize (w.alloc (.cells #[.int .i64 (j : Int), .int .i64 nn, .slice a l.length cap] 27)).alloc (.cells wordCells 9) = w2 at *
     go_wp2_with fail
     have hS0 : wdB j ++ ByteArray.mk #[40] = bstr (wdl j ++ [40]) := bstr_app (wdl j) [40]
     have hz0 : (wdB j ++ ByteArray.mk #[40]).size = (wdl j).length + 1 := by rw [hS0, bstr_size]; simp
     generalize wdB j ++ ByteArray.mk #[40] = S0 at *
     have HS0 := Lib.hid hS0
     clear hS0
     refine (rnumbered_any _ _ (by omega)).mono ?_
     rintro e w3 ⟨rfl, rfl⟩
     rw [HND.out]
     clear hwn
     have x1 := hbx1.c1
     have x2 := hbx1.c2
     go_wp2_with fail
     refine (rDigits_any nn hnr _).mono ?_
     rintro e w4 ⟨rfl, rfl⟩
     have hit : (ByteArray.mk (Lib.itoa nn).toArray).size = (Lib.itoa nn).length := rfl
     have hSI : ByteArray.mk (Lib.itoa nn).toArray = bstr (Lib.itoa nn) := rfl
     generalize ByteArray.mk (Lib.itoa nn).toArray = SI at *
     have HSI := Lib.hid hSI
     clear hSI
     go_wp2_with fail
     have hS1 : S0 ++ SI = bstr (wdl j ++ [40] ++ Lib.itoa nn) := by rw [HS0.out, HSI.out]; exact bstr_app _ _
     generalize S0 ++ SI = S1 at *
     have HS1 := Lib.hid hS1
     clear hS1
     go_loopw [4, 5] (fun sv x wr => ∃ (i : Nat) (done : List UInt8) (S : ByteArray), i ≤ l.length ∧ x = .int .i64 i ∧ sv = .string S ∧ S = bstr ((wdl j ++ [40] ++ Lib.itoa nn) ++ done) ∧ txtL l true = done ++ txtL (l.drop i) (decide (0 < i) || true) ∧ Below w.heap.size w wr ∧ Bx wr w.heap.size 27 (.int .i64 j) (.int .i64 nn) (.slice a l.length cap)) (fun _ x _ => l.length - (intOf x).toNat)
     case atStart => exact ⟨0, [], _, by omega, rfl, rfl, by rw [List.append_nil]; exact HS1.out, rfl, hb1, hbx1⟩
     case round =>
      clear x1 x2 hbx1 hb1
      obtain ⟨i, done, S, hi, rfl, rfl, hS, hq, hb, hbx1⟩ := hrel
      have HQ := Lib.hid hq
      have hqlen : (txtL l true).length = done.length + (txtL (l.drop i) (decide (0 < i) || true)).length := by rw [hq, List.length_append]
      have hpd : S.size = (wdl j ++ [40] ++ Lib.itoa nn).length + done.length := by rw [hS, bstr_size, List.length_append]
      simp only [List.length_append, List.length_cons, List.length_nil] at hpd
      have HSS := Lib.hid hS
      clear hq hS
      have hsz := hb.size
      have x2 := hbx1.c2
      have hxl := hbx1.lt
      by_cases hlt : i < l.length
      ·obtain ⟨kk, n2, ll, g, o, a', cap', hlj, rfl, hg, c0, c1, c2, ht⟩ := hrow.at_ hlt
       have d0 := (hb.cell (p := ⟨g, o + i * 3, none⟩) hg).trans c0
       have d1 := (hb.cell (p := ⟨g, o + i * 3 + 1, none⟩) hg).trans c1
       have d2 := (hb.cell (p := ⟨g, o + i * 3 + 2, none⟩) hg).trans c2
       have hsub : shps (.mk kk n2 ll) = true := by rw [← hlj]; exact shpsL_mem HSL.out (List.getElem_mem hlt)
       have hszk : SizeOf.sizeOf (VT.mk kk n2 ll) ≤ m := by rw [← hlj]; exact sz_lt (List.getElem_mem hlt) hk
       have hstep : ∀ c, txtL (l.drop i) c = (if c then [44] else []) ++ (txt (.mk kk n2 ll) ++ txtL (l.drop (i + 1)) true) := by
        intro c
        rw [List.drop_eq_getElem_cons hlt, txtL, hlj]
       have HS := Lib.hid hstep
       have HSUB := Lib.hid hsub
       clear hstep hlj c0 c1 c2 hsub
       have hc1 : Hid ((decide (0 < i + 1) || true) = true) := by show _ = _; simp
       have hvk := ht.later hb
       by_cases hi0 : i = 0
       ·subst hi0
        rw [Nat.zero_mul, Nat.add_zero] at d0 d1 d2
        have hcz : (decide (0 < 0) || true) = true := by simp
        have hl9 : (txtL (l.drop 0) (decide (0 < 0) || true)).length = 1 + ((txt (.mk kk n2 ll)).length + (txtL (l.drop (0 + 1)) true).length) := by rw [HS.out, hcz]; simp; omega
        have HCZ := Lib.hid hcz
        clear hcz
        go_wp2_with (go_at_call 110; refine (rnumbered_any _ _ (by omega)).mono ?_; rintro e w3 ⟨rfl, rfl⟩; rw [HND.out])
        have h442 : S ++ ByteArray.mk #[44] = bstr ((wdl j ++ [40] ++ Lib.itoa nn) ++ done ++ [44]) := by rw [HSS.out]; exact bstr_app _ [44]
        have hz44 : (S ++ ByteArray.mk #[44]).size = S.size + 1 := by rw [ByteArray.size_append]; rfl
        generalize S ++ ByteArray.mk #[44] = S2 at *
        have H44 := Lib.hid h442
        clear h442
        refine (HI.out (.mk kk n2 ll) _ _ hszk hvk HSUB.out (by omega)).mono ?_
        rintro e w5 ⟨rfl, hb5⟩
        have htk : (bstr (txt (.mk kk n2 ll))).size = (txt (.mk kk n2 ll)).length := rfl
        have HAP : Hid (S2 ++ bstr (txt (.mk kk n2 ll)) = bstr ((wdl j ++ [40] ++ Lib.itoa nn) ++ (done ++ [44] ++ txt (.mk kk n2 ll)))) := by show _ = _; rw [H44.out, bstr_app]; simp
        generalize bstr (txt (.mk kk n2 ll)) = T at *
        go_wp2_with fail
        go_roundw
        case rel =>
         refine ⟨0 + 1, done ++ [44] ++ txt (.mk kk n2 ll), _, by omega, by go_num, rfl, HAP.out, ?_, hb.trans (hb5.mono hsz), hbx1.belowAll hb5⟩
         rw [HQ.out, HS.out, HCZ.out, hc1.out]; simp
        case measure => simp [intOf]; omega
       ·have hip : 0 < i := by omega
        have hcz : (decide (0 < i) || true) = true := by simp [hip]
        have hl9 : (txtL (l.drop i) (decide (0 < i) || true)).length = 1 + ((txt (.mk kk n2 ll)).length + (txtL (l.drop (i + 1)) true).length) := by rw [HS.out, hcz]; simp; omega
        have HCZ := Lib.hid hcz
        clear hcz
        go_wp2_with (go_at_call 110; refine (rnumbered_any _ _ (by omega)).mono ?_; rintro e w3 ⟨rfl, rfl⟩; rw [HND.out])
        have h442 : S ++ ByteArray.mk #[44] = bstr ((wdl j ++ [40] ++ Lib.itoa nn) ++ done ++ [44]) := by rw [HSS.out]; exact bstr_app _ [44]
        have hz44 : (S ++ ByteArray.mk #[44]).size = S.size + 1 := by rw [ByteArray.size_append]; rfl
        generalize S ++ ByteArray.mk #[44] = S2 at *
        have H44 := Lib.hid h442
        clear h442
        refine (HI.out (.mk kk n2 ll) _ _ hszk hvk HSUB.out (by omega)).mono ?_
        rintro e w5 ⟨rfl, hb5⟩
        have htk : (bstr (txt (.mk kk n2 ll))).size = (txt (.mk kk n2 ll)).length := rfl
        have HAP : Hid (S2 ++ bstr (txt (.mk kk n2 ll)) = bstr ((wdl j ++ [40] ++ Lib.itoa nn) ++ (done ++ [44] ++ txt (.mk kk n2 ll)))) := by show _ = _; rw [H44.out, bstr_app]; simp
        generalize bstr (txt (.mk kk n2 ll)) = T at *
        go_wp2_with fail
        go_roundw
        case rel =>
         refine ⟨i + 1, done ++ [44] ++ txt (.mk kk n2 ll), _, by omega, by go_num, rfl, HAP.out, ?_, hb.trans (hb5.mono hsz), hbx1.belowAll hb5⟩
         rw [HQ.out, HS.out, HCZ.out, hc1.out]; simp
        case measure => simp [intOf]; omega
      ·have hnil : txtL (l.drop i) (decide (0 < i) || true) = [] := by rw [List.drop_of_length_le (by omega), txtL]
       rw [hnil] at hqlen
       have HN := Lib.hid hnil
       have H41 : Hid (S ++ ByteArray.mk #[41] = bstr ((wdl j ++ [40] ++ Lib.itoa nn) ++ done ++ [41])) := by show _ = _; rw [HSS.out]; exact bstr_app _ [41]
       clear hnil
       simp only [List.length_nil] at hqlen
       go_wp2_with fail
       go_ret
       refine ⟨?_, hb⟩
       have e9 : txt (.mk j nn l) = (wdl j ++ [40] ++ Lib.itoa nn) ++ done ++ [41] := by rw [HT.out, HQ.out, HN.out]; simp
       rw [e9, ← H41.out]; rfl
end Go.Proofs.YtjldbbcdhdfliaaGreatDoor
/-
 Walks over the reference of layer 5: Text, Lines.
-/
namespace Go.Proofs.YtjldbbcdhdfliaaGreatDoor
open Go.RowKit

set_option maxHeartbeats 1000000 in
theorem rText_any (t : VT) (v : Value) (w : World) (hv : IsV (· < w.heap.size) w t v) (hnd : nd t ≤ 2000000) :
  Calls Tryz.prog 52 #[v] w fun e w' => e = .returned (textV t) ∧ Below w.heap.size w w' := by
 obtain ⟨k, n, a, len, cap, rfl⟩ := hv.form
 have hrg := hv.rng
 have hck := fun w1 (hb : Below w.heap.size w w1) => rRight_any t _ w1 (hv.later hb) hnd
 cases hr : right t
 ·have HR := Lib.hid hr
  clear hr
  have HK := Lib.hid hck
  clear hck
  go_enter Tryz.func52, Tryz.ntmps52
  go_wp2_with fail
  refine (HK.out _ (below_alloc _ _)).mono ?_
  rw [HR.out]
  rintro e w1 ⟨rfl, hb1⟩
  go_wp2_with fail
  go_ret2
  exact ⟨by rw [textV, HR.out]; rfl, (below_alloc _ _).trans (hb1.mono (by simp))⟩
 ·have hlen := right_len hr hrg
  have hsh : shps t = true := by unfold right at hr; rw [Bool.and_eq_true] at hr; exact hr.2
  have HSH := Lib.hid hsh
  have HR := Lib.hid hr
  have HK := Lib.hid hck
  clear hr hsh hck
  go_enter Tryz.func52, Tryz.ntmps52
  go_wp2_with fail
  refine (HK.out _ (below_alloc _ _)).mono ?_
  rw [HR.out]
  rintro e w1 ⟨rfl, hb1⟩
  have hbx := (Bx.new w 27 (.int .i64 k) (.int .i64 n) (.slice a len cap)).belowAll hb1
  have hb : Below w.heap.size w w1 := (below_alloc _ _).trans (hb1.mono (by simp))
  have hsz := hb.size
  have hbl := hbx.lt
  have q0 := hbx.c0
  have q1 := hbx.c1
  have q2 := hbx.c2
  go_wp2_with fail
  refine (rtext_any _ t _ _ (Nat.le_refl _) (hv.later hb) HSH.out (by omega)).mono ?_
  rintro e w3 ⟨rfl, hb3⟩
  go_wp2_with fail
  go_ret2
  exact ⟨by rw [textV, HR.out]; rfl, hb.trans (hb3.mono hsz)⟩

end Go.Proofs.YtjldbbcdhdfliaaGreatDoor
