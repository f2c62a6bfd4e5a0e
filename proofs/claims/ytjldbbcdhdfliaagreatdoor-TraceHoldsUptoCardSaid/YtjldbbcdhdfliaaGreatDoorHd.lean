/-
  Layer 23: the statement TraceHolds, walked. Printed by gen_hd.py.
-/
import Derived.Test.YtjldbbcdhdfliaaGreatDoorHaHc
import Derived.Lib.QuietBelow
import Derived.Deep.QuietTactic
import Derived.BigQuiet
namespace Go.Proofs.YtjldbbcdhdfliaaGreatDoor
open Go.RowKit Go.Shelf Go.Sort

theorem wr_ge : ∀ l : List Ev, 2 * l.length ≤ (wrL l).length
  | [] => by simp [wrL]
  | x :: r => by
    have h1 := wr_ge r
    have h2 : 1 ≤ (textE x).length := by
      unfold textE
      simp only [List.length_append, List.length_cons]
      omega
    rw [wrL, List.length_append, List.length_cons, List.length_cons]
    omega
theorem enc_ge : ∀ (l : List Ev) (last : Int), l.length ≤ (encGo last l).length
  | [], _ => by simp [encGo]
  | x :: r, last => by
    have h1 := enc_ge r x.st
    have h2 : 1 ≤ (bytesE x last).length := by
      unfold bytesE
      simp
    rw [encGo, List.length_append, List.length_cons]
    omega
theorem nlE_len (l : List UInt8) : (nlE l).length ≤ l.length + 1 := by
  unfold nlE
  split
  · simp
  · omega
theorem read_len {s : ByteArray} {l : List Ev} (h : readE s = .ok l) (hs : s.size ≤ 1000) : l.length ≤ 1000 := by
  have h1 := wr_ge l
  have h2 := nlE_len s.data.toList
  rw [(readE_inv h).2] at h1
  have h3 : s.data.toList.length = s.size := by simp
  omega
theorem dec_len {b : List UInt8} {l : List Ev} (h : decE b = some l) (hs : b.length ≤ 1000) : l.length ≤ 1000 ∧ b ≠ [] ∧ 4 ≤ b.length := by
  have h1 := enc_ge l 0
  have h2 := (decE_inv h).2
  have h3 := congrArg List.length h2
  unfold encB at h3
  rw [List.length_append, sum4_len] at h3
  refine ⟨by omega, fun e => ?_, by omega⟩
  rw [e] at h3
  simp at h3
theorem wrV_none {l : List Ev} (h : firstW l = none) : wrV l = .tuple #[.string ⟨(wrL l).toArray⟩, .int .i64 0] := by
  unfold wrV
  rw [h]
theorem few_txt {l : List Ev} (h : fewE l = true) (hr : ∀ x ∈ l, RngE x ∧ AllR x.v) : ∀ x ∈ l, (txt x.v).length ≤ 1600 := by
  intro x hx
  unfold fewE at h
  simp only [Bool.and_eq_true, decide_eq_true_eq, List.all_eq_true] at h
  have h1 := h.2 x hx
  rw [cnt_nd x.v 0 (by omega)] at h1
  have h2 := txt_len x.v (hr x hx).2
  omega
theorem isEs_rng {ok : Nat → Prop} {w : World} {l : List Ev} {a : Option Addr} (h : IsEs ok w l a) : ∀ x ∈ l, RngE x ∧ AllR x.v := by
  intro x hx
  obtain ⟨j, hj, e⟩ := List.getElem_of_mem hx
  obtain ⟨g, o, kk, nn, a', len, cap, -, -, -, hv, hr⟩ := h j x (by rw [List.getElem?_eq_getElem hj, e])
  exact ⟨hr, hv.rng⟩
set_option maxRecDepth 100000 in
/-- The bytes that came in, as a string. -/
theorem cel_conv {w : World} {g o cap : Nat} {l : List UInt8} (h : Cel w g o l) : (convert 55 9 (.slice (some ⟨g, o, none⟩) l.length cap)).run Tryz.prog w = .ok (.string ⟨l.toArray⟩) w := by
  have h1 := run_convert_bytes_arg w 55 5 Tryz.underlying55 Tryz.underlying5 g o l.length cap (l.map fun c => ((c.toNat : Nat) : Int)) (by simp) (fun i hi => by
    have h2 : l[i]? = some (l[i]'hi) := List.getElem?_eq_getElem _
    rw [h i _ h2]
    simp [hi]) 9 Tryz.underlying9
  rw [h1]
  congr 2
  unfold strOfNums
  congr 2
  simp [List.map_map, Function.comp_def]
theorem byt_cel {B : Nat} {w : World} {g cap : Nat} {l : List UInt8} (h : Byt B w (.slice (some ⟨g, 0, none⟩) l.length cap) l) : Cel w g 0 l := by
  intro i c hc
  rw [Nat.zero_add]
  exact h.at_ hc
theorem byt_lies {B : Nat} {w : World} {v : Value} {l : List UInt8} (h : Byt B w v l) (hl : l ≠ []) : ∃ g cap, v = .slice (some ⟨g, 0, none⟩) l.length cap ∧ g < w.heap.size ∧ B ≤ g ∧ Cel w g 0 l ∧ l.length ≤ cap ∧ ∃ cur, w.heap[g]? = some (.cells cur 5 (0, 0)) := by
  have h' := h
  rcases h.2 with ⟨rfl, h0⟩ | ⟨g, cap, cur, rfl, e2, e3, e4, _⟩
  · exact absurd (List.eq_nil_of_length_eq_zero h0) hl
  · exact ⟨g, cap, rfl, lt_of_heap e3, e2, byt_cel h', e4, cur, e3⟩
/-- A byte of a row is set. -/
theorem cel_set {w : World} {g i : Nat} {l : List UInt8} {c : UInt8} {v : Value} (h : Cel w g 0 l) (hv : v = .int .u8 (c.toNat : Nat)) (hi : i < l.length) : Cel (w.setCell ⟨g, i, none⟩ v) g 0 (l.set i c) := by
  intro k d hk
  rw [Nat.zero_add]
  rcases Nat.lt_or_ge k l.length with hl | hl
  · have h0 := h k l[k] (List.getElem?_eq_getElem hl)
    rw [Nat.zero_add] at h0
    by_cases e : i = k
    · subst e
      rw [List.getElem?_set_self hi] at hk
      injection hk with hk
      subst hk
      subst hv
      exact World.cell?_setCell_same _ _ _ h0
    · rw [List.getElem?_set_ne e, List.getElem?_eq_getElem hl] at hk
      injection hk with hk
      subst hk
      exact (World.cell?_setCell_other _ _ _ _ (by intro e2; injection e2 with _ e2; exact e e2)).trans h0
  · rw [List.getElem?_eq_none (by simpa using hl)] at hk
    cases hk
theorem byte_add (c : UInt8) (by_ : Int) (h1 : 0 < by_) (h2 : by_ ≤ 255) : ∃ c' : UInt8, IntKind.u8.wrap ((c.toNat : Int) + by_) = ((c'.toNat : Nat) : Int) ∧ c ≠ c' := by
  have hc := u8_lt c
  refine ⟨UInt8.ofNat ((c.toNat + by_.toNat) % 256), ?_, fun e => ?_⟩
  · have hw : IntKind.u8.wrap ((c.toNat : Int) + by_) = ((c.toNat : Int) + by_) % 256 := by simp [IntKind.wrap, IntKind.bits, IntKind.signed]
    rw [u8_of (Nat.mod_lt _ (by decide)), hw]
    omega
  · have := congrArg UInt8.toNat e
    rw [u8_of (Nat.mod_lt _ (by decide))] at this
    omega
set_option maxRecDepth 100000 in
set_option maxHeartbeats 16000000 in
theorem tholds_law (l : List Ev) (b1 : Option Addr) (cap : Nat) (hlc : l.length ≤ cap) (hcm : cap ≤ maxLen) (s : ByteArray) (hs : s.size ≤ maxLen) (Lb : List UInt8) (b2 : Option Addr) (cap2 : Nat) (hlc2 : Lb.length ≤ cap2) (hcm2 : cap2 ≤ maxLen) (at_ by_ : Int) (hat : Rng at_) (hby : 0 ≤ by_ ∧ by_ ≤ 255)
    (w : World) (hE1 : IsEs (· < w.heap.size) w l b1) (hnd : ∀ x ∈ l, nd x.v ≤ 2000000) (hE2 : Lb ≠ [] → ∃ g o, b2 = some ⟨g, o, none⟩ ∧ g < w.heap.size ∧ Cel w g o Lb) (hE : EnvT w) :
    Calls Tryz.prog 7 #[.slice b1 l.length cap, .string s, .slice b2 Lb.length cap2, .int .i64 at_, .int .u8 by_] w fun e w' => e = .returned (.bool true) ∧ Below w.heap.size w w' := by
  have hsm := hs
  have hnm := Nat.le_trans hlc hcm
  have hbm := Nat.le_trans hlc2 hcm2
  unfold maxLen at hsm hnm hbm
  have hfw := few_any l b1 cap hlc hcm w hE1 hnd
  obtain ⟨n, hn⟩ : ∃ n, l.length = n := ⟨_, rfl⟩
  obtain ⟨nb, hnb⟩ : ∃ nb, Lb.length = nb := ⟨_, rfl⟩
  have HN := Lib.hid hn
  have HNB := Lib.hid hnb
  have HE2 := Lib.hid hE2
  have HE1 := Lib.hid hE1
  clear hE2
  cases hf : fewE l
  · rw [hf] at hfw
    rw [hn] at hfw ⊢
    rw [hnb]
    have HFW := Lib.hid hfw
    clear hfw hf hn hnb hlc hlc2 hE1 hnd hs
    go_enter Tryz.func7, Tryz.ntmps7
    go_wp2_with fail
    refine HFW.out.mono ?_
    rintro e w1 ⟨rfl, hb1⟩
    go_wp2_with fail
    refine (tworks_any _ (hE.below hb1 hE.env.size)).mono ?_
    rintro e w99 ⟨rfl, hb99⟩
    go_wp2_with fail
    go_ret
    exact ⟨rfl, hb1.trans (hb99.mono hb1.size)⟩
  rw [hf] at hfw
  obtain ⟨h20, hnd2⟩ := few_nd hf
  have hrg := isEs_rng hE1
  have htx := few_txt hf hrg
  have HRG := Lib.hid hrg
  have HTX := Lib.hid htx
  have HND := Lib.hid hnd2
  have HCK : Hid (∀ W, Below w.heap.size w W → Calls Tryz.prog 14 #[.slice b1 n cap] W fun e w' => e = .returned (CkV l) ∧ Below W.heap.size W w') := by
    intro W hb
    rw [← hn]
    exact TCheck_any l (by omega) b1 cap W (hE1.later hb)
  have HWR : Hid (∀ W, Below w.heap.size w W → Calls Tryz.prog 16 #[.slice b1 n cap] W fun e w' => e = .returned (wrV l) ∧ Below W.heap.size W w') := by
    intro W hb
    rw [← hn]
    exact TWrite_any l (by omega) b1 cap W (hE1.later hb) (hE.env.below hb hE.env.size)
  have HEC : Hid (∀ W, Below w.heap.size w W → Calls Tryz.prog 24 #[.slice b1 n cap] W (EncEnds l W)) := by
    intro W hb
    rw [← hn]
    exact TEncode_any l (by omega) b1 cap W (hE1.later hb) (hE.env.below hb hE.env.size)
  have HDB : Hid (nb ≤ 1000 → ∀ W, Below w.heap.size w W → Calls Tryz.prog 22 #[.slice b2 nb cap2] W (DcEnds (decE Lb) W)) := by
    intro h W hb
    rw [← hnb]
    refine Decode_any Lb (by omega) b2 cap2 hlc2 W (hE.below hb hE.env.size) fun h4 => ?_
    obtain ⟨g, o, e1, e2, e3⟩ := HE2.out (fun e => by rw [e] at h4; simp at h4)
    exact ⟨g, o, e1, Nat.lt_of_lt_of_le e2 hb.size, e3.below hb e2⟩
  have HCV : Hid (Lb ≠ [] → ∀ W, Below w.heap.size w W → (convert 55 9 (.slice b2 nb cap2)).run Tryz.prog W = .ok (.string ⟨Lb.toArray⟩) W) := by
    intro h W hb
    obtain ⟨g, o, rfl, e2, e3⟩ := HE2.out h
    rw [← hnb]
    exact cel_conv (e3.below hb e2)
  rw [hn] at hfw h20 ⊢
  rw [hnb]
  have HFW := Lib.hid hfw
  clear hfw hf hn hnb hlc hlc2 hE1 hnd hnd2 hs hrg htx
  by_cases hl : 1000 < s.size
  · have hd : decide (1000 < (s.size : Int)) = true := by simp; omega
    go_enter Tryz.func7, Tryz.ntmps7
    go_wp2_with fail
    refine HFW.out.mono ?_
    rintro e w1 ⟨rfl, hb1⟩
    go_wp2_with fail
    refine (tworks_any _ (hE.below hb1 hE.env.size)).mono ?_
    rintro e w99 ⟨rfl, hb99⟩
    go_wp2_with fail
    go_ret
    exact ⟨rfl, hb1.trans (hb99.mono hb1.size)⟩
  have hd : decide (1000 < (s.size : Int)) = false := by simp; omega
  by_cases hl2 : 1000 < nb
  · have hd2 : decide (1000 < (nb : Int)) = true := by simp; omega
    go_enter Tryz.func7, Tryz.ntmps7
    go_wp2_with fail
    refine HFW.out.mono ?_
    rintro e w1 ⟨rfl, hb1⟩
    go_wp2_with fail
    refine (tworks_any _ (hE.below hb1 hE.env.size)).mono ?_
    rintro e w99 ⟨rfl, hb99⟩
    go_wp2_with fail
    go_ret
    exact ⟨rfl, hb1.trans (hb99.mono hb1.size)⟩
  have hd2 : decide (1000 < (nb : Int)) = false := by simp; omega
  go_enter Tryz.func7, Tryz.ntmps7
  go_wp2_with fail
  refine HFW.out.mono ?_
  rintro e w1 ⟨rfl, hb1⟩
  go_wp2_with fail
  refine (Read_any s (by omega) _ (hE.below hb1 hE.env.size)).mono ?_
  intro e w2 h2
  obtain ⟨ra, rn, rc, ln, er, rfl, hb2, hres⟩ := read_form h2
  have hb2 := hb1.trans (hb2.mono hb1.size)
  clear h2 hb1 hd hd2
  go_wp2_with fail
  refine (num23_any _ _).mono ?_
  rintro e w98 ⟨rfl, rfl⟩
  go_upto_if 60 with fail
  go_cut [1] from 11 to 86 (fun s1 wx => Below w.heap.size w wx)
  case first =>
    rcases hres with ⟨rfl, rfl, X, hX, rfl, hrc, hXs⟩ | rfl
    · have hx1 := read_len hX (by omega)
      obtain ⟨hx2, hx3⟩ := readE_inv hX
      have hXs2 : IsEs (· < w2.heap.size) w2 X ra := hXs.more fun g hg => hg.2
      have HX3 := Lib.hid hx3
      clear hX hXs
      go_wp2_with fail
      refine (TWrite_any X hx1 ra rc _ hXs2 (hE.env.below hb2 hE.env.size)).mono ?_
      rw [wrV_none hx2]
      rintro e w3 ⟨rfl, hb3⟩
      have hb3 := hb2.trans (hb3.mono hb2.size)
      obtain ⟨T, hT⟩ : ∃ T : ByteArray, ⟨(wrL X).toArray⟩ = T := ⟨_, rfl⟩
      have hT2 : T.data.toList = nlE s.data.toList := by
        rw [← hT, ← HX3.out]
      rw [hT]
      clear hb2 hx1 hx2 hXs2 HX3 hT
      by_cases h0 : s.size = 0
      · obtain rfl := size_zero h0
        obtain rfl : T = ⟨#[]⟩ := ba_ext (by rw [hT2]; rfl)
        clear hT2
        have nx : ∀ w : World, (binOp .neq 9 (.string ⟨#[]⟩) (.string ⟨#[]⟩)).run Tryz.prog w = .ok (.bool false) w := fun _ => by kernel_rfl
        go_wp2_with fail
        refine (num23_any _ _).mono ?_
        rintro e w98 ⟨rfl, rfl⟩
        go_wp2_with fail
        go_meet
        exact hb3
      · obtain ⟨c, hc, hix⟩ := last_of s h0
        have hne0 : s.data.toList ≠ [] := fun e => h0 (by have := congrArg List.length e; simpa using this)
        have hne1 : ¬ s.toList = [] := by rw [ByteArray.toList_eq]; exact hne0
        have hne2 : s.toList.isEmpty = false := by simpa using hne1
        have hne3 : (s.toList == []) = false := by rw [beq_eq_false_iff_ne]; exact hne1
        by_cases h10 : c = 10
        · subst h10
          have hTs : T = s := ba_ext (by
            rw [hT2]
            unfold nlE
            rw [if_neg (by rw [hc]; simp)])
          subst hTs
          have nt : (T.toList == T.toList) = true := by simp
          clear hT2 hc
          go_wp2_with fail
          refine (num23_any _ _).mono ?_
          rintro e w98 ⟨rfl, rfl⟩
          go_wp2_with fail
          go_meet
          exact hb3
        · have hd10 : ((c.toNat : Int) == 10) = false := by
            rw [beq_eq_false_iff_ne]
            intro e
            exact h10 (UInt8.toNat_inj.1 (by have : (10 : UInt8).toNat = 10 := rfl; omega))
          have z10 : (ByteArray.mk #[10]).size = 1 := rfl
          have q1 : ¬ (9223372036854775807 < s.size + 1) := by omega
          have nt : (T.toList == (s ++ ByteArray.mk #[10]).toList) = true := by
            rw [ByteArray.toList_eq, ByteArray.toList_eq, hT2, beq_iff_eq]
            unfold nlE
            rw [if_pos ⟨hne0, fun e => by rw [e] at hc; injection hc with hc; exact h10 hc.symm⟩]
            simp [ByteArray.data_append]
          clear hT2 hc
          go_wp2_with fail
          refine (num23_any _ _).mono ?_
          rintro e w98 ⟨rfl, rfl⟩
          go_wp2_with fail
          go_meet
          exact hb3
    · go_wp2_with fail
      go_meet
      exact hb2
  case rest =>
    have hb3 := hcut
    clear hcut hres hb2
    go_wp2_with fail
    refine (HDB.out (by omega) _ hb3).mono ?_
    intro e w4 h4
    obtain ⟨da, dn, dc, er2, rfl, hb4, hres⟩ := dec_form h4
    have hb4 := hb3.trans (hb4.mono hb3.size)
    clear h4 hb3
    go_wp2_with fail
    refine (num23_any _ _).mono ?_
    rintro e w98 ⟨rfl, rfl⟩
    go_upto_if 93 with fail
    go_cut [] from 16 to 109 (fun wx => Below w.heap.size w wx)
    case first =>
      rcases hres with ⟨rfl, X, hX, rfl, hdc, hXs⟩ | rfl
      · obtain ⟨hx1, hne, hx4⟩ := dec_len hX (by have := HNB.out; omega)
        obtain ⟨hx2, hx3⟩ := decE_inv hX
        have hXs2 : IsEs (· < w4.heap.size) w4 X da := hXs.more fun g hg => hg.2
        clear hX hXs
        go_wp2_with fail
        refine (TEncode_any X hx1 da dc _ hXs2 (hE.env.below hb4 hE.env.size)).mono ?_
        intro e w5 h5
        unfold EncEnds at h5
        rw [hx2] at h5
        obtain ⟨⟨v, rfl, hv⟩, hb5⟩ := h5
        have hb5 := hb4.trans (hb5.mono hb4.size)
        have hcv1 := hv.conv (by rw [hx3]; exact hne)
        rw [hx3] at hcv1
        have hcv2 := HCV.out hne _ hb5
        have nt : ((⟨Lb.toArray⟩ : ByteArray).toList == (⟨Lb.toArray⟩ : ByteArray).toList) = true := by simp
        obtain ⟨va, vn, vc, rfl⟩ := hv.form
        clear hv hx1 hx2 hx3 hXs2 hb4
        go_wp2_with fail
        refine (num23_any _ _).mono ?_
        rintro e w98 ⟨rfl, rfl⟩
        go_wp2_with fail
        go_meet
        exact hb5
      · go_wp2_with fail
        go_meet
        exact hb4
    case rest =>
      have hb5 := hcut
      clear hcut hres hb4 HCV HDB HE2
      go_wp2_with fail
      refine (HCK.out _ hb5).mono ?_
      unfold CkV
      rcases hF : firstW l with _ | k
      case some =>
        rintro e w6 ⟨rfl, hb6⟩
        have hb6 := hb5.trans (hb6.mono hb5.size)
        go_wp2_with fail
        refine (num23_any _ _).mono ?_
        rintro e w98 ⟨rfl, rfl⟩
        go_wp2_with fail
        refine (tworks_any _ (hE.below hb6 hE.env.size)).mono ?_
        rintro e w99 ⟨rfl, hb99⟩
        go_wp2_with fail
        go_ret
        exact ⟨rfl, hb6.trans (hb99.mono hb6.size)⟩
      case none =>
        have HF := Lib.hid hF
        have hrT := readE_wr hF HRG.out
        have hdT := decE_enc hF HRG.out
        have hch := chain_none hF
        obtain ⟨T, hT⟩ : ∃ T : ByteArray, ⟨(wrL l).toArray⟩ = T := ⟨_, rfl⟩
        have hTz : T.size ≤ 1000000 := by
          have h1 := wrL_len l fun x hx => textE_short (HRG.out x hx).1 (HTX.out x hx)
          have h2 := HN.out
          rw [← hT]
          show (wrL l).length ≤ 1000000
          rw [h2] at h1
          omega
        rw [hT] at hrT
        obtain ⟨C, hC⟩ : ∃ C, encB l = C := ⟨_, rfl⟩
        have hC4 : C.length = (encGo 0 l).length + 4 := by
          rw [← hC]
          unfold encB
          rw [List.length_append, sum4_len]
        have hCz : C.length ≤ 1000000 := by
          have h1 := encGo_len l 0 (Int.le_refl _) hch fun x hx => ⟨(HRG.out x hx).1, HTX.out x hx⟩
          have h2 := HN.out
          rw [h2] at h1
          omega
        rw [hC] at hdT
        have HRT := Lib.hid hrT
        have HDT := Lib.hid hdT
        have hwr := wrV_none hF
        rw [hT] at hwr
        have HWV := Lib.hid hwr
        have HC := Lib.hid hC
        clear hrT hdT hT hC hwr hch
        rintro e w6 ⟨rfl, hb6⟩
        have hb6 := hb5.trans (hb6.mono hb5.size)
        clear hb5
        go_wp2_with fail
        refine (num23_any _ _).mono ?_
        rintro e w98 ⟨rfl, rfl⟩
        go_wp2_with fail
        refine (HWR.out _ hb6).mono ?_
        rw [HWV.out]
        rintro e w7 ⟨rfl, hb7⟩
        have hb7 := hb6.trans (hb7.mono hb6.size)
        clear hb6
        go_wp2_with fail
        refine (Read_any T hTz _ (hE.below hb7 hE.env.size)).mono ?_
        intro e w8 h8
        rw [HRT.out] at h8
        unfold RdEnds at h8
        obtain ⟨⟨xa, xc, rfl, hxc, -, hxs⟩, hb8⟩ := h8
        have hb8 := hb7.trans (hb8.mono hb7.size)
        have hxs := hxs.more fun g hg => hg.2
        rw [HN.out]
        clear hb7 hxc
        go_wp2_with fail
        refine (HEC.out _ hb8).mono ?_
        intro e w9 h9
        unfold EncEnds at h9
        rw [HF.out, HC.out] at h9
        obtain ⟨⟨v, rfl, hv⟩, hb9⟩ := h9
        have hxs := hxs.later hb9
        obtain ⟨g, vc, rfl, hgl, hgB, hcl, hvc, cur, hgc⟩ := byt_lies hv (fun e => by rw [e] at hC4; simp at hC4)
        have hgw := Nat.le_trans hb8.size hgB
        have hb9 := hb8.trans (hb9.mono hb8.size)
        obtain ⟨m, hm⟩ : ∃ m, C.length = m := ⟨_, rfl⟩
        have hmc := hvc
        rw [hm] at hmc
        have HM := Lib.hid hm
        have HCL := Lib.hid hcl
        have hDD := Decode_any C hCz (some ⟨g, 0, none⟩) vc hvc _ (hE.below hb9 hE.env.size) fun _ => ⟨g, 0, rfl, hgl, hcl⟩
        rw [hm] at hDD
        have HDD := Lib.hid hDD
        rw [hm] at hCz ⊢
        clear hb8 hv hcl hDD hvc hm hC4
        go_wp2_with fail
        refine HDD.out.mono ?_
        intro e w10 h10
        rw [HDT.out] at h10
        unfold DcEnds at h10
        obtain ⟨⟨ya, yc, rfl, -, -, hys⟩, hb10⟩ := h10
        have hys := hys.more fun g hg => hg.2
        have hxs := hxs.later hb10
        have HCL2 := Lib.hid (HCL.out.below hb10 hgl)
        have hgc := (hb10.block g hgl).trans hgc
        have hgl := Nat.lt_of_lt_of_le hgl hb10.size
        have hb10 := hb9.trans (hb10.mono hb9.size)
        have hnn : ((n : Int) != (n : Int)) = false := by simp
        rw [HN.out]
        clear hb9 HDD HCL
        go_wp2_with fail
        refine (num23_any _ _).mono ?_
        rintro e w98 ⟨rfl, rfl⟩
        go_wp2_with fail
        refine (num23_any _ _).mono ?_
        rintro e w98 ⟨rfl, rfl⟩
        go_wp2_with fail
        refine (num23_any _ _).mono ?_
        rintro e w98 ⟨rfl, rfl⟩
        go_wp2_with fail
        refine (num23_any _ _).mono ?_
        rintro e w98 ⟨rfl, rfl⟩
        have HXS := Lib.hid hxs
        have HYS := Lib.hid hys
        clear hxs hys
        go_wp2_with fail
        go_loopw [31] (fun i wr => ∃ j : Nat, i = .int .i64 (j : Nat) ∧ j ≤ n ∧ Below w10.heap.size w10 wr) (fun i _ => n - (intOf i).toNat)
        case atStart => exact ⟨0, rfl, Nat.zero_le _, Below.refl _ _⟩
        case round =>
          obtain ⟨j, rfl, hj, hb⟩ := hrel
          have hbw := hb10.trans (hb.mono hb10.size)
          by_cases hlt : j < n
          · have hd1 : decide (j < n) = true := by simpa using hlt
            have hlt2 : (j : Int) < (n : Int) := by omega
            obtain ⟨x, hx⟩ : ∃ x, l[j]? = some x := ⟨l[j]'(by have := HN.out; omega), List.getElem?_eq_getElem _⟩
            have hmx := List.mem_of_getElem? hx
            have hndx := HND.out x hmx
            obtain ⟨hrx, -⟩ := right_of_none HF.out hx
            have hrgx := HRG.out x hmx
            obtain ⟨g1, o1, kk1, nn1, a1, len1, cp1, ha1, hg1, hc1, hv1, hr1⟩ := HE1.out j x hx
            obtain ⟨g2, o2, kk2, nn2, a2, len2, cp2, ha2, hg2, hc2, hv2, hr2⟩ := HXS.out j x hx
            obtain ⟨g3, o3, kk3, nn3, a3, len3, cp3, ha3, hg3, hc3, hv3, hr3⟩ := HYS.out j x hx
            subst ha1 ha2 ha3
            have hi1 : IsE (· < wr.heap.size) wr x (.agg #[.int .i64 x.k, .int .i64 x.st, .int .i64 x.th, .int .i64 x.sy, .int .i64 x.br, .int .i64 x.pa, .int .i64 x.n, .int .i64 kk1, .int .i64 nn1, .slice a1 len1 cp1]) := IsE.more (w := wr) ⟨kk1, nn1, a1, len1, cp1, rfl, hv1.below hbw, hr1⟩ fun g hg => Nat.lt_of_lt_of_le hg hbw.size
            have p0 : wr.cell? ⟨g1, o1 + j * 10, none⟩ = some (.int .i64 x.k) := (hbw.cell (p := ⟨g1, o1 + j * 10, none⟩) hg1).trans (hc1 0 (.int .i64 x.k) rfl)
            have p1 : wr.cell? ⟨g1, o1 + j * 10 + 1, none⟩ = some (.int .i64 x.st) := (hbw.cell (p := ⟨g1, o1 + j * 10 + 1, none⟩) hg1).trans (hc1 1 (.int .i64 x.st) rfl)
            have p2 : wr.cell? ⟨g1, o1 + j * 10 + 2, none⟩ = some (.int .i64 x.th) := (hbw.cell (p := ⟨g1, o1 + j * 10 + 2, none⟩) hg1).trans (hc1 2 (.int .i64 x.th) rfl)
            have p3 : wr.cell? ⟨g1, o1 + j * 10 + 3, none⟩ = some (.int .i64 x.sy) := (hbw.cell (p := ⟨g1, o1 + j * 10 + 3, none⟩) hg1).trans (hc1 3 (.int .i64 x.sy) rfl)
            have p4 : wr.cell? ⟨g1, o1 + j * 10 + 4, none⟩ = some (.int .i64 x.br) := (hbw.cell (p := ⟨g1, o1 + j * 10 + 4, none⟩) hg1).trans (hc1 4 (.int .i64 x.br) rfl)
            have p5 : wr.cell? ⟨g1, o1 + j * 10 + 5, none⟩ = some (.int .i64 x.pa) := (hbw.cell (p := ⟨g1, o1 + j * 10 + 5, none⟩) hg1).trans (hc1 5 (.int .i64 x.pa) rfl)
            have p6 : wr.cell? ⟨g1, o1 + j * 10 + 6, none⟩ = some (.int .i64 x.n) := (hbw.cell (p := ⟨g1, o1 + j * 10 + 6, none⟩) hg1).trans (hc1 6 (.int .i64 x.n) rfl)
            have p7 : wr.cell? ⟨g1, o1 + j * 10 + 7, none⟩ = some (.int .i64 kk1) := (hbw.cell (p := ⟨g1, o1 + j * 10 + 7, none⟩) hg1).trans (hc1 7 (.int .i64 kk1) rfl)
            have p8 : wr.cell? ⟨g1, o1 + j * 10 + 8, none⟩ = some (.int .i64 nn1) := (hbw.cell (p := ⟨g1, o1 + j * 10 + 8, none⟩) hg1).trans (hc1 8 (.int .i64 nn1) rfl)
            have p9 : wr.cell? ⟨g1, o1 + j * 10 + 9, none⟩ = some (.slice a1 len1 cp1) := (hbw.cell (p := ⟨g1, o1 + j * 10 + 9, none⟩) hg1).trans (hc1 9 (.slice a1 len1 cp1) rfl)
            have htz := textE_short hrgx.1 (HTX.out x hmx)
            have hpe := parseE_text hrx hrgx.1 hrgx.2
            obtain ⟨D, hD⟩ : ∃ D : ByteArray, (⟨(textE x).toArray⟩ : ByteArray) = D := ⟨_, rfl⟩
            rw [hD] at hpe
            have hDz : D.size ≤ 10000000 := by
              rw [← hD]
              show (textE x).length ≤ 10000000
              omega
            have HTT : Hid (ttV x = .tuple #[.string D, .int .i64 0]) := by
              show _ = _
              unfold ttV
              rw [if_pos hrx, hD]
            have HPE := Lib.hid hpe
            clear hx hmx hrx hrgx htz hpe hD
            go_wp2_with fail
            refine (TText_any x _ _ hi1 (hE.env.below hbw hE.env.size)).mono ?_
            rw [HTT.out]
            rintro e w11 ⟨rfl, hb11⟩
            have hb11 := hb.trans (hb11.mono hb.size)
            have hbw11 := hb10.trans (hb11.mono hb10.size)
            clear p0 p1 p2 p3 p4 p5 p6 p7 p8 p9 hi1 hb hbw
            go_wp2_with fail
            refine (TParse_any D hDz _ (hE.below hbw11 hE.env.size)).mono ?_
            rw [HPE.out]
            rintro e w12 ⟨⟨vz, rfl, hz⟩, hb12⟩
            obtain ⟨kkz, nnz, az, lenz, cpz, rfl, hvz, hrz⟩ := hz
            have hb12 := hb11.trans (hb12.mono hb11.size)
            clear hb11 hbw11
            unfold evC
            go_upto_region 29 with fail
            have hbz := below_alloc w12 (.cells #[.int .i64 x.k, .int .i64 x.st, .int .i64 x.th, .int .i64 x.sy, .int .i64 x.br, .int .i64 x.pa, .int .i64 x.n, .int .i64 kkz, .int .i64 nnz, .slice az lenz cpz] 29)
            have hbe : BE (w12.alloc (.cells #[.int .i64 x.k, .int .i64 x.st, .int .i64 x.th, .int .i64 x.sy, .int .i64 x.br, .int .i64 x.pa, .int .i64 x.n, .int .i64 kkz, .int .i64 nnz, .slice az lenz cpz] 29)) w12.heap.size #[.int .i64 x.k, .int .i64 x.st, .int .i64 x.th, .int .i64 x.sy, .int .i64 x.br, .int .i64 x.pa, .int .i64 x.n, .int .i64 kkz, .int .i64 nnz, .slice az lenz cpz] := heap_alloc_new _ _
            have hvz2 := IsV.later (w := w12) (hvz.more fun g hg => hg.2) hbz
            have hb13 := hb12.trans (hbz.mono hb12.size)
            have hbw13 := hb10.trans (hb13.mono hb10.size)
            clear hb12 hbz hvz
            generalize w12.alloc (.cells #[.int .i64 x.k, .int .i64 x.st, .int .i64 x.th, .int .i64 x.sy, .int .i64 x.br, .int .i64 x.pa, .int .i64 x.n, .int .i64 kkz, .int .i64 nnz, .slice az lenz cpz] 29) = w13 at *
            generalize w12.heap.size = zb at *
            obtain ⟨zc0, zc1, zc2, zc3, zc4, zc5, zc6, zc7, zc8, zc9⟩ := BE.c hbe
            have hi1 : IsE (· < w13.heap.size) w13 x (.agg #[.int .i64 x.k, .int .i64 x.st, .int .i64 x.th, .int .i64 x.sy, .int .i64 x.br, .int .i64 x.pa, .int .i64 x.n, .int .i64 kk1, .int .i64 nn1, .slice a1 len1 cp1]) := IsE.more (w := w13) ⟨kk1, nn1, a1, len1, cp1, rfl, hv1.below hbw13, hr1⟩ fun g hg => Nat.lt_of_lt_of_le hg hbw13.size
            have hi2 : IsE (· < w13.heap.size) w13 x (.agg #[.int .i64 x.k, .int .i64 x.st, .int .i64 x.th, .int .i64 x.sy, .int .i64 x.br, .int .i64 x.pa, .int .i64 x.n, .int .i64 kk2, .int .i64 nn2, .slice a2 len2 cp2]) := IsE.more (w := w13) ⟨kk2, nn2, a2, len2, cp2, rfl, hv2.below hb13, hr2⟩ fun g hg => Nat.lt_of_lt_of_le hg hb13.size
            have hi3 : IsE (· < w13.heap.size) w13 x (.agg #[.int .i64 x.k, .int .i64 x.st, .int .i64 x.th, .int .i64 x.sy, .int .i64 x.br, .int .i64 x.pa, .int .i64 x.n, .int .i64 kk3, .int .i64 nn3, .slice a3 len3 cp3]) := IsE.more (w := w13) ⟨kk3, nn3, a3, len3, cp3, rfl, hv3.below hb13, hr3⟩ fun g hg => Nat.lt_of_lt_of_le hg hb13.size
            have hiz : IsE (· < w13.heap.size) w13 x (.agg #[.int .i64 x.k, .int .i64 x.st, .int .i64 x.th, .int .i64 x.sy, .int .i64 x.br, .int .i64 x.pa, .int .i64 x.n, .int .i64 kkz, .int .i64 nnz, .slice az lenz cpz]) := ⟨kkz, nnz, az, lenz, cpz, rfl, hvz2, hrz⟩
            have p0 := fun d os => cell_regrown (show w13.cell? ⟨g1, o1 + j * 10, none⟩ = some (.int .i64 x.k) from (hbw13.cell (p := ⟨g1, o1 + j * 10, none⟩) hg1).trans (hc1 0 (.int .i64 x.k) rfl)) d os
            have p1 := fun d os => cell_regrown (show w13.cell? ⟨g1, o1 + j * 10 + 1, none⟩ = some (.int .i64 x.st) from (hbw13.cell (p := ⟨g1, o1 + j * 10 + 1, none⟩) hg1).trans (hc1 1 (.int .i64 x.st) rfl)) d os
            have p2 := fun d os => cell_regrown (show w13.cell? ⟨g1, o1 + j * 10 + 2, none⟩ = some (.int .i64 x.th) from (hbw13.cell (p := ⟨g1, o1 + j * 10 + 2, none⟩) hg1).trans (hc1 2 (.int .i64 x.th) rfl)) d os
            have p3 := fun d os => cell_regrown (show w13.cell? ⟨g1, o1 + j * 10 + 3, none⟩ = some (.int .i64 x.sy) from (hbw13.cell (p := ⟨g1, o1 + j * 10 + 3, none⟩) hg1).trans (hc1 3 (.int .i64 x.sy) rfl)) d os
            have p4 := fun d os => cell_regrown (show w13.cell? ⟨g1, o1 + j * 10 + 4, none⟩ = some (.int .i64 x.br) from (hbw13.cell (p := ⟨g1, o1 + j * 10 + 4, none⟩) hg1).trans (hc1 4 (.int .i64 x.br) rfl)) d os
            have p5 := fun d os => cell_regrown (show w13.cell? ⟨g1, o1 + j * 10 + 5, none⟩ = some (.int .i64 x.pa) from (hbw13.cell (p := ⟨g1, o1 + j * 10 + 5, none⟩) hg1).trans (hc1 5 (.int .i64 x.pa) rfl)) d os
            have p6 := fun d os => cell_regrown (show w13.cell? ⟨g1, o1 + j * 10 + 6, none⟩ = some (.int .i64 x.n) from (hbw13.cell (p := ⟨g1, o1 + j * 10 + 6, none⟩) hg1).trans (hc1 6 (.int .i64 x.n) rfl)) d os
            have p7 := fun d os => cell_regrown (show w13.cell? ⟨g1, o1 + j * 10 + 7, none⟩ = some (.int .i64 kk1) from (hbw13.cell (p := ⟨g1, o1 + j * 10 + 7, none⟩) hg1).trans (hc1 7 (.int .i64 kk1) rfl)) d os
            have p8 := fun d os => cell_regrown (show w13.cell? ⟨g1, o1 + j * 10 + 8, none⟩ = some (.int .i64 nn1) from (hbw13.cell (p := ⟨g1, o1 + j * 10 + 8, none⟩) hg1).trans (hc1 8 (.int .i64 nn1) rfl)) d os
            have p9 := fun d os => cell_regrown (show w13.cell? ⟨g1, o1 + j * 10 + 9, none⟩ = some (.slice a1 len1 cp1) from (hbw13.cell (p := ⟨g1, o1 + j * 10 + 9, none⟩) hg1).trans (hc1 9 (.slice a1 len1 cp1) rfl)) d os
            have q0 := fun d os => cell_regrown (show w13.cell? ⟨g2, o2 + j * 10, none⟩ = some (.int .i64 x.k) from (hb13.cell (p := ⟨g2, o2 + j * 10, none⟩) hg2).trans (hc2 0 (.int .i64 x.k) rfl)) d os
            have q1 := fun d os => cell_regrown (show w13.cell? ⟨g2, o2 + j * 10 + 1, none⟩ = some (.int .i64 x.st) from (hb13.cell (p := ⟨g2, o2 + j * 10 + 1, none⟩) hg2).trans (hc2 1 (.int .i64 x.st) rfl)) d os
            have q2 := fun d os => cell_regrown (show w13.cell? ⟨g2, o2 + j * 10 + 2, none⟩ = some (.int .i64 x.th) from (hb13.cell (p := ⟨g2, o2 + j * 10 + 2, none⟩) hg2).trans (hc2 2 (.int .i64 x.th) rfl)) d os
            have q3 := fun d os => cell_regrown (show w13.cell? ⟨g2, o2 + j * 10 + 3, none⟩ = some (.int .i64 x.sy) from (hb13.cell (p := ⟨g2, o2 + j * 10 + 3, none⟩) hg2).trans (hc2 3 (.int .i64 x.sy) rfl)) d os
            have q4 := fun d os => cell_regrown (show w13.cell? ⟨g2, o2 + j * 10 + 4, none⟩ = some (.int .i64 x.br) from (hb13.cell (p := ⟨g2, o2 + j * 10 + 4, none⟩) hg2).trans (hc2 4 (.int .i64 x.br) rfl)) d os
            have q5 := fun d os => cell_regrown (show w13.cell? ⟨g2, o2 + j * 10 + 5, none⟩ = some (.int .i64 x.pa) from (hb13.cell (p := ⟨g2, o2 + j * 10 + 5, none⟩) hg2).trans (hc2 5 (.int .i64 x.pa) rfl)) d os
            have q6 := fun d os => cell_regrown (show w13.cell? ⟨g2, o2 + j * 10 + 6, none⟩ = some (.int .i64 x.n) from (hb13.cell (p := ⟨g2, o2 + j * 10 + 6, none⟩) hg2).trans (hc2 6 (.int .i64 x.n) rfl)) d os
            have q7 := fun d os => cell_regrown (show w13.cell? ⟨g2, o2 + j * 10 + 7, none⟩ = some (.int .i64 kk2) from (hb13.cell (p := ⟨g2, o2 + j * 10 + 7, none⟩) hg2).trans (hc2 7 (.int .i64 kk2) rfl)) d os
            have q8 := fun d os => cell_regrown (show w13.cell? ⟨g2, o2 + j * 10 + 8, none⟩ = some (.int .i64 nn2) from (hb13.cell (p := ⟨g2, o2 + j * 10 + 8, none⟩) hg2).trans (hc2 8 (.int .i64 nn2) rfl)) d os
            have q9 := fun d os => cell_regrown (show w13.cell? ⟨g2, o2 + j * 10 + 9, none⟩ = some (.slice a2 len2 cp2) from (hb13.cell (p := ⟨g2, o2 + j * 10 + 9, none⟩) hg2).trans (hc2 9 (.slice a2 len2 cp2) rfl)) d os
            have r0 := fun d os => cell_regrown (show w13.cell? ⟨g3, o3 + j * 10, none⟩ = some (.int .i64 x.k) from (hb13.cell (p := ⟨g3, o3 + j * 10, none⟩) hg3).trans (hc3 0 (.int .i64 x.k) rfl)) d os
            have r1 := fun d os => cell_regrown (show w13.cell? ⟨g3, o3 + j * 10 + 1, none⟩ = some (.int .i64 x.st) from (hb13.cell (p := ⟨g3, o3 + j * 10 + 1, none⟩) hg3).trans (hc3 1 (.int .i64 x.st) rfl)) d os
            have r2 := fun d os => cell_regrown (show w13.cell? ⟨g3, o3 + j * 10 + 2, none⟩ = some (.int .i64 x.th) from (hb13.cell (p := ⟨g3, o3 + j * 10 + 2, none⟩) hg3).trans (hc3 2 (.int .i64 x.th) rfl)) d os
            have r3 := fun d os => cell_regrown (show w13.cell? ⟨g3, o3 + j * 10 + 3, none⟩ = some (.int .i64 x.sy) from (hb13.cell (p := ⟨g3, o3 + j * 10 + 3, none⟩) hg3).trans (hc3 3 (.int .i64 x.sy) rfl)) d os
            have r4 := fun d os => cell_regrown (show w13.cell? ⟨g3, o3 + j * 10 + 4, none⟩ = some (.int .i64 x.br) from (hb13.cell (p := ⟨g3, o3 + j * 10 + 4, none⟩) hg3).trans (hc3 4 (.int .i64 x.br) rfl)) d os
            have r5 := fun d os => cell_regrown (show w13.cell? ⟨g3, o3 + j * 10 + 5, none⟩ = some (.int .i64 x.pa) from (hb13.cell (p := ⟨g3, o3 + j * 10 + 5, none⟩) hg3).trans (hc3 5 (.int .i64 x.pa) rfl)) d os
            have r6 := fun d os => cell_regrown (show w13.cell? ⟨g3, o3 + j * 10 + 6, none⟩ = some (.int .i64 x.n) from (hb13.cell (p := ⟨g3, o3 + j * 10 + 6, none⟩) hg3).trans (hc3 6 (.int .i64 x.n) rfl)) d os
            have r7 := fun d os => cell_regrown (show w13.cell? ⟨g3, o3 + j * 10 + 7, none⟩ = some (.int .i64 kk3) from (hb13.cell (p := ⟨g3, o3 + j * 10 + 7, none⟩) hg3).trans (hc3 7 (.int .i64 kk3) rfl)) d os
            have r8 := fun d os => cell_regrown (show w13.cell? ⟨g3, o3 + j * 10 + 8, none⟩ = some (.int .i64 nn3) from (hb13.cell (p := ⟨g3, o3 + j * 10 + 8, none⟩) hg3).trans (hc3 8 (.int .i64 nn3) rfl)) d os
            have r9 := fun d os => cell_regrown (show w13.cell? ⟨g3, o3 + j * 10 + 9, none⟩ = some (.slice a3 len3 cp3) from (hb13.cell (p := ⟨g3, o3 + j * 10 + 9, none⟩) hg3).trans (hc3 9 (.slice a3 len3 cp3) rfl)) d os
            have s0 := fun d os => cell_regrown zc0 d os
            have s1 := fun d os => cell_regrown zc1 d os
            have s2 := fun d os => cell_regrown zc2 d os
            have s3 := fun d os => cell_regrown zc3 d os
            have s4 := fun d os => cell_regrown zc4 d os
            have s5 := fun d os => cell_regrown zc5 d os
            have s6 := fun d os => cell_regrown zc6 d os
            have s7 := fun d os => cell_regrown zc7 d os
            have s8 := fun d os => cell_regrown zc8 d os
            have s9 := fun d os => cell_regrown zc9 d os
            have cX : ∀ d os, Calls Tryz.prog 28 #[.agg #[.int .i64 x.k, .int .i64 x.st, .int .i64 x.th, .int .i64 x.sy, .int .i64 x.br, .int .i64 x.pa, .int .i64 x.n, .int .i64 kk2, .int .i64 nn2, .slice a2 len2 cp2], .agg #[.int .i64 x.k, .int .i64 x.st, .int .i64 x.th, .int .i64 x.sy, .int .i64 x.br, .int .i64 x.pa, .int .i64 x.n, .int .i64 kk1, .int .i64 nn1, .slice a1 len1 cp1]] (grow (redrawn w13 d) os) fun e w'' => e = .returned (.bool true) ∧ ∃ p : Regrown, w'' = grow (redrawn w13 p.d) p.os := fun d os => Calls.regrown_of (tsame_self x _ _ _ (isE_regrown hi2 d os) (isE_regrown hi1 d os) hndx)
            have cY : ∀ d os, Calls Tryz.prog 28 #[.agg #[.int .i64 x.k, .int .i64 x.st, .int .i64 x.th, .int .i64 x.sy, .int .i64 x.br, .int .i64 x.pa, .int .i64 x.n, .int .i64 kk3, .int .i64 nn3, .slice a3 len3 cp3], .agg #[.int .i64 x.k, .int .i64 x.st, .int .i64 x.th, .int .i64 x.sy, .int .i64 x.br, .int .i64 x.pa, .int .i64 x.n, .int .i64 kk1, .int .i64 nn1, .slice a1 len1 cp1]] (grow (redrawn w13 d) os) fun e w'' => e = .returned (.bool true) ∧ ∃ p : Regrown, w'' = grow (redrawn w13 p.d) p.os := fun d os => Calls.regrown_of (tsame_self x _ _ _ (isE_regrown hi3 d os) (isE_regrown hi1 d os) hndx)
            have cZ : ∀ d os, Calls Tryz.prog 28 #[.agg #[.int .i64 x.k, .int .i64 x.st, .int .i64 x.th, .int .i64 x.sy, .int .i64 x.br, .int .i64 x.pa, .int .i64 x.n, .int .i64 kkz, .int .i64 nnz, .slice az lenz cpz], .agg #[.int .i64 x.k, .int .i64 x.st, .int .i64 x.th, .int .i64 x.sy, .int .i64 x.br, .int .i64 x.pa, .int .i64 x.n, .int .i64 kk1, .int .i64 nn1, .slice a1 len1 cp1]] (grow (redrawn w13 d) os) fun e w'' => e = .returned (.bool true) ∧ ∃ p : Regrown, w'' = grow (redrawn w13 p.d) p.os := fun d os => Calls.regrown_of (tsame_self x _ _ _ (isE_regrown hiz d os) (isE_regrown hi1 d os) hndx)
            have cN : ∀ d os, Calls Tryz.prog 12 #[.int .i64 0] (grow (redrawn w13 d) os) fun e w'' => e = .returned (.int .i64 0) ∧ ∃ p : Regrown, w'' = grow (redrawn w13 p.d) p.os := fun d os => Calls.regrown_of (num23_bel 0 _)
            clear hc1 hc2 hc3 hv1 hv2 hv3 hr1 hr2 hr3 hi1 hi2 hi3 hiz hvz2 hrz hndx zc0 zc1 zc2 zc3 zc4 zc5 zc6 zc7 zc8 zc9 hbe
            refine wp_region_quiet_below (by kernel_rfl) (by kernel_rfl) ?_
            repeat (go_big_quiet_step (first | (with_reducible exact cN _ _) | (with_reducible exact cX _ _) | (with_reducible exact cY _ _) | (with_reducible exact cZ _ _)))
            refine wpQuiet_nil ?_
            intro _ hw'
            obtain ⟨⟨dq, osq⟩, hw''⟩ := hw'
            subst hw''
            have hb14 := below_regrown w13 dq osq
            have hb15 := hb13.trans (hb14.mono hb13.size)
            clear p0 p1 p2 p3 p4 p5 p6 p7 p8 p9 q0 q1 q2 q3 q4 q5 q6 q7 q8 q9 r0 r1 r2 r3 r4 r5 r6 r7 r8 r9 s0 s1 s2 s3 s4 s5 s6 s7 s8 s9 cN cX cY cZ hb14 hbw13 hb13
            generalize grow (redrawn w13 dq) osq = w15 at *
            go_wp2_with fail
            go_roundw
            case rel => first | exact ⟨j + 1, by go_num, by omega, hb15⟩ | ((repeat apply Exists.intro); exact ⟨⟨j + 1, by go_num, by omega, hb15⟩, rfl⟩)
            case measure => simp [intOf]; omega
          · have hd1 : decide (j < n) = false := by simpa using hlt
            clear HXS HYS
            by_cases ha : 0 < by_
            case' neg =>
              have hda : decide (0 < by_) = false := by simpa using ha
              go_wp2_with fail
              refine (tworks_any _ (hE.below hbw hE.env.size)).mono ?_
              rintro e w99 ⟨rfl, hb99⟩
              go_wp2_with fail
              go_ret
              exact ⟨rfl, hbw.trans (hb99.mono hbw.size)⟩
            have hda : decide (0 < by_) = true := by simpa using ha
            by_cases hb0 : 0 ≤ at_
            case' neg =>
              have hdb : decide (0 ≤ at_) = false := by simpa using hb0
              go_wp2_with fail
              refine (tworks_any _ (hE.below hbw hE.env.size)).mono ?_
              rintro e w99 ⟨rfl, hb99⟩
              go_wp2_with fail
              go_ret
              exact ⟨rfl, hbw.trans (hb99.mono hbw.size)⟩
            have hdb : decide (0 ≤ at_) = true := by simpa using hb0
            obtain ⟨k, rfl⟩ : ∃ k : Nat, at_ = (k : Nat) := ⟨at_.toNat, by omega⟩
            by_cases hc : k < m
            case' neg =>
              have hdc : decide (k < m) = false := by simpa using hc
              go_wp2_with fail
              refine (tworks_any _ (hE.below hbw hE.env.size)).mono ?_
              rintro e w99 ⟨rfl, hb99⟩
              go_wp2_with fail
              go_ret
              exact ⟨rfl, hbw.trans (hb99.mono hbw.size)⟩
            have hdc : decide (k < m) = true := by simpa using hc
            have hkC : k < C.length := by have := HM.out; omega
            have hcl := (HCL2.out).below hb hgl
            have hck := hcl k C[k] (List.getElem?_eq_getElem hkC)
            rw [Nat.zero_add] at hck
            obtain ⟨c', hc', hne⟩ := byte_add C[k] by_ ha hby.2
            have hgc2 := (hb.block g hgl).trans hgc
            have hfz : wr.frozen? ⟨g, k, none⟩ = false := by simp [World.frozen?, hgc2]
            have hcs := cel_set (i := k) (c := c') hcl rfl hkC
            have hdn := decE_set HDT.out (List.getElem?_eq_getElem hkC) hne
            have hbs := hbw.setCell (p := ⟨g, k, none⟩) hgw (.int .u8 (c'.toNat : Nat))
            have hlen : (C.set k c').length = m := by rw [List.length_set]; exact HM.out
            have hgl3 : g < (wr.setCell ⟨g, k, none⟩ (.int .u8 (c'.toNat : Nat))).heap.size := by
              simp [World.setCell]
              exact Nat.lt_of_lt_of_le hgl hb.size
            have hDD := Decode_any (C.set k c') (by omega) (some ⟨g, 0, none⟩) vc (by omega) _ (hE.below hbs hE.env.size) fun _ => ⟨g, 0, rfl, hgl3, hcs⟩
            rw [hlen, hdn] at hDD
            have HDD := Lib.hid hDD
            clear hDD hcs hdn hlen hgl3 hcl hgc hgc2
            go_upto_region 33 with fail
            clear hck hfz hb hbw
            generalize wr.setCell ⟨g, k, none⟩ (.int .u8 (c'.toNat : Nat)) = w16 at *
            go_wp2_with fail
            refine HDD.out.mono ?_
            intro e w17 h17
            unfold DcEnds at h17
            obtain ⟨rfl, hb17⟩ := h17
            have hb17 := hbs.trans (hb17.mono hbs.size)
            clear hbs
            go_wp2_with fail
            refine (num23_any _ _).mono ?_
            rintro e w98 ⟨rfl, rfl⟩
            go_wp2_with fail
            refine (tworks_any _ (hE.below hb17 hE.env.size)).mono ?_
            rintro e w99 ⟨rfl, hb99⟩
            go_wp2_with fail
            go_ret
            exact ⟨rfl, hb17.trans (hb99.mono hb17.size)⟩
end Go.Proofs.YtjldbbcdhdfliaaGreatDoor
