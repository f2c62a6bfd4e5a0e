/-
  Package source's reader: the tokens that it stands before; move, fail, isMark, isWord, need.
-/
import Derived.Test.YtjendlnicbieoaaGreatDoorIvMv
import Derived.Test.YtjendlnicbieoaaGreatDoorPlA
namespace Go.Proofs.YtjendlnicbieoaaGreatDoor
open Go.RowKit Go.Sort

/-- A token out of its cells. -/
abbrev tkO (k : Nat) (S : ByteArray) (n : Nat) : Tk := ⟨k, S.data.toList, n⟩
/-- The tokens from two that have been read on. -/
def strm (s : ByteArray) (i n : Nat) (t1 t2 : Tk) : List Tk := if t1.k = 0 then [t1] else t1 :: if t2.k = 0 then [t2] else t2 :: lex (bs s i) n
theorem tok1_end {l l2 : Bs} {n m : Nat} {t : Tk} (h : tok1 l n = (t, l2, m)) (hk : t.k = 0) : t = ⟨0, [], m⟩ ∧ l2 = [] := by
  unfold tok1 at h
  split at h
  · rename_i m2 he
    injection h with h1 h2
    injection h2 with h2 h3
    subst h1 h2 h3
    exact ⟨rfl, rfl⟩
  · rename_i c r m2 he
    injection h with h1 h2
    injection h2 with h2 h3
    subst h1
    exfalso
    unfold tokD at hk
    revert hk
    repeat' split
    all_goals simp
/-- The reader's cells: the tokens before it, the rest of its block. -/
structure Rdr (w : World) (R : Nat) (s : ByteArray) (ts : List Tk) (tl : List Value) : Prop where
  nu : ∀ t ∈ ts, (t.k = 3 → (intD t.s).isSome = true) ∧ t.s.length ≤ 4000000
  at_ : ∃ (i n k1 : Nat) (S1 : ByteArray) (l1 k2 : Nat) (S2 : ByteArray) (l2 : Nat), LxB w R 124 s i n (tkC k1 S1 l1 (tkC k2 S2 l2 tl)) ∧ i ≤ s.size ∧ n ≤ i ∧ l1 ≤ s.size ∧ l2 ≤ s.size ∧ k1 ≤ 4 ∧ k2 ≤ 4 ∧
    ts = strm s i n (tkO k1 S1 l1) (tkO k2 S2 l2) ∧ (k2 = 0 → lex (bs s i) n = [tkO k2 S2 l2]) ∧ (k1 = 0 → tkO k2 S2 l2 = tkO k1 S1 l1)
theorem strm_hd {s : ByteArray} {i n : Nat} {t1 t2 : Tk} : hd (strm s i n t1 t2) = t1 := by
  unfold strm
  split <;> rfl
theorem strm_hd2 {s : ByteArray} {i n : Nat} {t1 t2 : Tk} (h : t1.k = 0 → t2 = t1) : hd (mv (strm s i n t1 t2)) = t2 := by
  unfold strm
  split
  · rename_i h1
    rw [h h1]
    rfl
  · split <;> rfl
theorem strm_mv {s : ByteArray} {i n j m : Nat} {t1 t2 t : Tk} (h2 : t2.k = 0 → lex (bs s i) n = [t2]) (h1 : t1.k = 0 → t2 = t1) (ht : tok1 (bs s i) n = (t, bs s j, m)) :
    mv (strm s i n t1 t2) = strm s j m t2 t ∧ (t.k = 0 → lex (bs s j) m = [t]) ∧ (t2.k = 0 → t = t2) := by
  have hl := lex_eq (bs s i) n
  rw [ht] at hl
  dsimp only at hl
  have hend : t.k = 0 → lex (bs s j) m = [t] := fun hk => by
    obtain ⟨e1, e2⟩ := tok1_end ht hk
    rw [e2, lex_nil, e1]
  have h3 : t2.k = 0 → t = t2 := fun hk => by
    rw [h2 hk] at hl
    split at hl
    · injection hl with hl _
      exact hl.symm
    · injection hl with hl1 hl2
      rename_i hn
      rw [← hl1] at hn
      exact absurd hk hn
  refine ⟨?_, hend, h3⟩
  by_cases hk2 : t2.k = 0
  · by_cases hk1 : t1.k = 0
    · have e := h1 hk1
      subst e
      simp [strm, hk1, mv]
    · simp [strm, hk1, hk2, mv]
  · have hk1 : ¬ t1.k = 0 := fun h => hk2 (by rw [h1 h]; exact h)
    unfold strm
    rw [if_neg hk1, if_neg hk2, if_neg hk2, hl]
    split <;> rfl
/-- The operations of a region, out of a function's code. -/
def regionS (id : Nat) : Code → Option (Array Oper)
  | .region j ops _ => if j = id then some ops else none
  | .seq x y => match regionS id x with
    | some o => some o
    | none => regionS id y
  | .cond _ x y => match regionS id x with
    | some o => some o
    | none => regionS id y
  | .block _ c => regionS id c
  | .loop c => regionS id c
  | .scope c => regionS id c
  | _ => none
def ropsS (f : Func) (id : Nat) : Array Oper := ((f.body.bind (regionS id)).getD #[])
theorem mv_shape : Shape (ropsS Tryz.f59 0) MvK MvD := ⟨by kernel_rfl, by kernel_rfl⟩
theorem Rdr.lt {w : World} {R : Nat} {s : ByteArray} {ts : List Tk} {tl : List Value} (h : Rdr w R s ts tl) : R < w.heap.size := by
  obtain ⟨i, n, k1, S1, l1, k2, S2, l2, hl, -⟩ := h.at_
  exact Blk.lt hl
theorem Rdr.fr {S : Nat → Prop} {w w' : World} {R : Nat} {s : ByteArray} {ts : List Tk} {tl : List Value} (h : Rdr w R s ts tl) (hf : Fr S w w') (hS : ¬ S R) : Rdr w' R s ts tl := by
  obtain ⟨i, n, k1, S1, l1, k2, S2, l2, hl, h2⟩ := h.at_
  exact ⟨h.nu, i, n, k1, S1, l1, k2, S2, l2, Blk.fr hl hf hS, h2⟩
theorem Rdr.belowAll {w w' : World} {R : Nat} {s : ByteArray} {ts : List Tk} {tl : List Value} (h : Rdr w R s ts tl) (hb : Below w.heap.size w w') : Rdr w' R s ts tl := h.fr (S := fun _ => False) (Fr.belowAll hb) (fun h => h)
theorem mv_sub {ts : List Tk} {t : Tk} (h : t ∈ mv ts) : t ∈ ts := by
  match ts, h with
  | [], h => exact h
  | [_], h => exact h
  | _ :: u :: r, h => exact .tail _ h
/-- What moving on leaves. -/
def MoveE (R : Nat) (s : ByteArray) (ts : List Tk) (tl : List Value) (w : World) (e : Ending) (w' : World) : Prop := e = .returned (.tuple #[]) ∧ FrB R w w' ∧ EnvP w' ∧ Rdr w' R s (mv ts) tl
set_option maxRecDepth 100000 in
set_option maxHeartbeats 2000000 in
theorem move_any (R : Nat) (s : ByteArray) (ts : List Tk) (tl : List Value) (w : World) (h : Rdr w R s ts tl) (hs : s.size ≤ 4000000) (hE : EnvP w) (hb3 : R ≠ 3) :
    Calls Tryz.prog 59 #[.pointer (some ⟨R, 0, none⟩)] w (MoveE R s ts tl w) := by
  obtain ⟨i, n, k1, S1, l1, k2, S2, l2, hl, hi, hn, hl1, hl2, hk1, hk2, hts, e2, e1⟩ := h.at_
  have HTS := Lib.hid hts
  have E2 := Lib.hid e2
  have E1 := Lib.hid e1
  clear hts e2 e1
  go_enter Tryz.func59, Tryz.ntmps59
  refine move_region (i := i) (n := n) (k1 := k1) (S1 := S1) (l1 := l1) (k2 := k2) (S2 := S2) (l2 := l2) (tl := tl) (s := s) (R := R) mv_shape (by simp) rfl hl hs hi hn hE hb3 ?_
  intro a W j m k ln S hU hf hE2 hij hj hm hk hln htk hl2'
  obtain ⟨us, hus, rfl⟩ := hU.list (by simp)
  refine bodyPost_end (results_none rfl _ _ _) rfl ?_
  obtain ⟨q1, q2, q3⟩ := strm_mv (t1 := tkO k1 S1 l1) E2.out E1.out htk
  exact ⟨rfl, hf, hE2, ⟨fun t ht => h.nu t (mv_sub ht), j, m, k2, S2, l2, k, S, ln, hl2', hj, hm, hl2, hln, hk2, hk, by rw [HTS.out, q1], q2, q3⟩⟩
/-- The panic that says where a text is wrong. -/
def WrongS (n : Nat) : Ending := .panicked [{ v := .iface 119 (.int .i64 (n : Nat)), recovered := false }]
set_option maxHeartbeats 400000 in
theorem sfail_any (R : Nat) (s : ByteArray) (ts : List Tk) (tl : List Value) (w : World) (h : Rdr w R s ts tl) :
    Calls Tryz.prog 102 #[.pointer (some ⟨R, 0, none⟩)] w fun e w' => e = WrongS (hd ts).ln ∧ w = w' := by
  obtain ⟨i, n, k1, S1, l1, k2, S2, l2, hl, hi, hn, hl1, hl2, hk1, hk2, hts, e2, e1⟩ := h.at_
  rw [hts, strm_hd]
  have c5 := Blk.c hl 5 rfl
  clear hts
  go_enter Tryz.func102, Tryz.ntmps102
  go_wp2
  exact ⟨rfl, rfl, rfl⟩
end Go.Proofs.YtjendlnicbieoaaGreatDoor
/-
  Package source's reader: isMark, isWord, need; wordOf, named, keywordOf; name.
-/
namespace Go.Proofs.YtjendlnicbieoaaGreatDoor
open Go.RowKit Go.Sort

theorem toList_beq (S B : ByteArray) : (S.toList == B.toList) = (S.data.toList == B.data.toList) := by rw [ByteArray.toList_eq, ByteArray.toList_eq]
set_option maxHeartbeats 400000 in
theorem isMark_any (R : Nat) (s : ByteArray) (ts : List Tk) (tl : List Value) (w : World) (h : Rdr w R s ts tl) (B : ByteArray) (c : UInt8) (hB : B.data.toList = [c]) :
    Calls Tryz.prog 88 #[.pointer (some ⟨R, 0, none⟩), .string B] w fun e w' => e = .returned (.bool (isM c ts)) ∧ w = w' := by
  obtain ⟨i, n, k1, S1, l1, k2, S2, l2, hl, hi, hn, hl1, hl2, hk1, hk2, hts, e2, e1⟩ := h.at_
  have hm : isM c ts = (decide (k1 = 4) && (S1.toList == B.toList)) := by
    unfold isM
    rw [hts, strm_hd, toList_beq, hB]
    show (k1 == 4 && _) = _
    congr 1
  rw [hm]
  have c3 := Blk.c hl 3 rfl
  have c4 := Blk.c hl 4 rfl
  clear hts hm e1 e2
  by_cases h4 : k1 = 4
  case' pos =>
    subst h4
  case' neg =>
    have q4 : ((k1 : Int) == 4) = false := by simp; omega
  all_goals
    go_enter Tryz.func88, Tryz.ntmps88
    go_wp2_with fail
    go_ret
    refine ⟨ret_bool ?_, rfl⟩
    simp
  all_goals omega
set_option maxHeartbeats 400000 in
theorem isWord_any (R : Nat) (s : ByteArray) (ts : List Tk) (tl : List Value) (w : World) (h : Rdr w R s ts tl) (B : ByteArray) (l : Bs) (hB : B.data.toList = l) :
    Calls Tryz.prog 84 #[.pointer (some ⟨R, 0, none⟩), .string B] w fun e w' => e = .returned (.bool (isW l ts)) ∧ w = w' := by
  obtain ⟨i, n, k1, S1, l1, k2, S2, l2, hl, hi, hn, hl1, hl2, hk1, hk2, hts, e2, e1⟩ := h.at_
  have hm : isW l ts = (decide (k1 = 2) && (S1.toList == B.toList)) := by
    unfold isW
    rw [hts, strm_hd, toList_beq, hB]
    show (k1 == 2 && _) = _
    congr 1
  rw [hm]
  have c3 := Blk.c hl 3 rfl
  have c4 := Blk.c hl 4 rfl
  clear hts hm e1 e2
  by_cases h4 : k1 = 2
  case' pos =>
    subst h4
  case' neg =>
    have q4 : ((k1 : Int) == 2) = false := by simp; omega
  all_goals
    go_enter Tryz.func84, Tryz.ntmps84
    go_wp2_with fail
    go_ret
    refine ⟨ret_bool ?_, rfl⟩
    simp
  all_goals omega
/-- What need leaves. -/
def NeedE (b : Bool) (R : Nat) (s : ByteArray) (ts : List Tk) (tl : List Value) (w : World) (e : Ending) (w' : World) : Prop := if b = true then MoveE R s ts tl w e w' else e = WrongS (hd ts).ln ∧ w = w'
set_option maxHeartbeats 400000 in
theorem need_any (b : Bool) (R : Nat) (s : ByteArray) (ts : List Tk) (tl : List Value) (w : World) (h : Rdr w R s ts tl) (hs : s.size ≤ 4000000) (hE : EnvP w) (hb3 : R ≠ 3) :
    Calls Tryz.prog 83 #[.pointer (some ⟨R, 0, none⟩), .bool b] w (NeedE b R s ts tl w) := by
  have hM := move_any R s ts tl w h hs hE hb3
  have hF := sfail_any R s ts tl w h
  unfold WrongS at hF
  cases b with
  | true =>
    go_enter Tryz.func83, Tryz.ntmps83
    go_wp2_with (go_at_call 59; refine hM.mono ?_; rintro e w1 ⟨rfl, h1⟩)
    go_end0
    exact ⟨rfl, h1⟩
  | false =>
    go_enter Tryz.func83, Tryz.ntmps83
    go_wp2_with (go_at_call 102; refine hF.mono ?_; rintro e w1 ⟨rfl, rfl⟩)
    refine ⟨rfl, ?_⟩
    unfold NeedE
    rw [if_neg (by simp)]
    exact ⟨rfl, rfl⟩
/-- Words as texts. -/
def wStr (op : Nat) : ByteArray := ⟨(wTab op).1.toArray⟩
theorem wTab_ge {op : Nat} (h : 24 < op) : wTab op = ([], 0) := by
  unfold wTab
  split <;> first | omega | rfl
set_option maxRecDepth 100000 in
set_option maxHeartbeats 8000000 in
theorem wordOf_any (op : Nat) (w : World) : Calls Tryz.prog 53 #[.int .i64 (op : Nat)] w fun e w' => e = .returned (.tuple #[.string (wStr op), .int .i64 ((wTab op).2 : Nat)]) ∧ w = w' := by
  have hc : op = 0 ∨ op = 1 ∨ op = 2 ∨ op = 3 ∨ op = 4 ∨ op = 5 ∨ op = 6 ∨ op = 7 ∨ op = 8 ∨ op = 9 ∨ op = 10 ∨ op = 11 ∨ op = 12 ∨ op = 13 ∨ op = 14 ∨ op = 15 ∨ op = 16 ∨ op = 17 ∨ op = 18 ∨ op = 19 ∨ op = 20 ∨ op = 21 ∨ op = 22 ∨ op = 23 ∨ op = 24 ∨ 24 < op := by omega
  rcases hc with rfl | rfl | rfl | rfl | rfl | rfl | rfl | rfl | rfl | rfl | rfl | rfl | rfl | rfl | rfl | rfl | rfl | rfl | rfl | rfl | rfl | rfl | rfl | rfl | rfl | hop
  case' inr.inr.inr.inr.inr.inr.inr.inr.inr.inr.inr.inr.inr.inr.inr.inr.inr.inr.inr.inr.inr.inr.inr.inr.inr =>
    have hS : Hid (wStr op = ⟨#[]⟩ ∧ (wTab op).2 = 0) := by
      show _ ∧ _
      unfold wStr
      rw [wTab_ge hop]
      exact ⟨rfl, rfl⟩
    rw [hS.out.1, hS.out.2]
  all_goals
    go_enter Tryz.func53, Tryz.ntmps53
    go_wp2_with fail
    go_ret2
    exact ⟨rfl, rfl⟩
/-- The node that a word names, from an Op on. -/
theorem namedF_step (w : Bs) (f op : Nat) : namedF w (f + 1) op = if (wTab op).2 ≠ 0 ∧ (wTab op).1 = w then (op, (wTab op).2) else namedF w f (op + 1) := rfl
set_option maxRecDepth 100000 in
set_option maxHeartbeats 4000000 in
theorem named_any (S : ByteArray) (w : World) : Calls Tryz.prog 118 #[.string S] w fun e w' => e = .returned (.tuple #[.int .i64 ((namedF S.data.toList 24 1).1 : Nat), .int .i64 ((namedF S.data.toList 24 1).2 : Nat)]) ∧ w = w' := by
  obtain ⟨r, hr⟩ : ∃ r, namedF S.data.toList 24 1 = r := ⟨_, rfl⟩
  rw [hr]
  have HR := Lib.hid hr
  clear hr
  go_enter Tryz.func118, Tryz.ntmps118
  go_wp2_with fail
  go_loopw [4, 5, 6] (fun ix _ _ wr => ∃ k : Nat, ix = .int .i64 (k : Nat) ∧ 1 ≤ k ∧ k ≤ 25 ∧ namedF S.data.toList (25 - k) k = r ∧ w = wr) (fun ix _ _ _ => 25 - (intOf ix).toNat)
  case atStart => exact ⟨1, rfl, Nat.le_refl _, by omega, HR.out, rfl⟩
  case round =>
    obtain ⟨k, rfl, hk1, hk2, hrest, rfl⟩ := hrel
    by_cases hlt : k ≤ 24
    case' neg =>
      have hd : decide ((k : Int) ≤ 24) = false := by simp; omega
      obtain rfl : k = 25 := by omega
      have HREST := Lib.hid hrest
      clear hrest
      go_wp2_with fail
      go_ret2
      rw [← HREST.out]
      exact ⟨rfl, rfl⟩
    case' pos =>
      have hd : decide ((k : Int) ≤ 24) = true := by simp; omega
      rw [show 25 - k = (24 - k) + 1 by omega, namedF_step] at hrest
      have hW := wordOf_any k
      have hms := sub_lt (show k < 25 by omega)
      have htl : ((wStr k).toList == S.toList) = decide ((wTab k).1 = S.data.toList) := by
        rw [toList_beq, Bool.eq_iff_iff]
        simp [wStr]
      by_cases h0 : (wTab k).2 = 0
      case' pos =>
        rw [if_neg (by simp [h0])] at hrest
        have HREST := Lib.hid hrest
        rw [h0] at hW
        clear hrest h0 htl
        go_wp2_with (go_at_call 53; refine (hW _).mono ?_; rintro e w1 ⟨rfl, rfl⟩)
        go_roundw
        case' rel => exact ⟨k + 1, by go_num, by omega, by omega, by rw [show 25 - (k + 1) = 24 - k by omega]; exact HREST.out, by trivial⟩
        case' measure => exact meas_lt hms
      case' neg =>
        obtain ⟨fm, hfm⟩ : ∃ fm, (wTab k).2 = fm := ⟨_, rfl⟩
        have hf0 : ¬ fm = 0 := by rw [← hfm]; exact h0
        have q0 : ((fm : Int) != 0) = true := by simp; omega
        obtain ⟨wk, hwk⟩ : ∃ wk, wStr k = wk := ⟨_, rfl⟩
        rw [hfm, hwk] at hW
        rw [hwk] at htl
        rw [hfm] at hrest
        by_cases he : (wTab k).1 = S.data.toList
        case' pos =>
          rw [if_pos ⟨by rw [← hfm]; exact h0, he⟩] at hrest
          have HREST := Lib.hid hrest
          have qe : (wk.toList == S.toList) = true := by rw [htl]; simpa using he
          clear hrest h0 htl hfm hwk he
          go_wp2_with (go_at_call 53; refine (hW _).mono ?_; rintro e w1 ⟨rfl, rfl⟩)
          go_ret2
          rw [← HREST.out]
          exact ⟨rfl, rfl⟩
        case' neg =>
          rw [if_neg (fun h => he h.2)] at hrest
          have HREST := Lib.hid hrest
          have qe : (wk.toList == S.toList) = false := by rw [htl]; simpa using he
          clear hrest h0 htl hfm hwk he
          go_wp2_with (go_at_call 53; refine (hW _).mono ?_; rintro e w1 ⟨rfl, rfl⟩)
          go_roundw
          case' rel => exact ⟨k + 1, by go_num, by omega, by omega, by rw [show 25 - (k + 1) = 24 - k by omega]; exact HREST.out, by trivial⟩
          case' measure => exact meas_lt hms
end Go.Proofs.YtjendlnicbieoaaGreatDoor
/-
  Package source: keywordOf; the reader's name.
-/
namespace Go.Proofs.YtjendlnicbieoaaGreatDoor
open Go.RowKit Go.Sort

def kwK (l : Bs) : Nat × Nat := (kwOf l).getD (0, 0)
set_option maxRecDepth 100000 in
set_option maxHeartbeats 4000000 in
theorem keywordOf_any (S : ByteArray) (w : World) : Calls Tryz.prog 103 #[.string S] w fun e w' => e = .returned (.tuple #[.agg #[.int .i64 ((kwK S.data.toList).1 : Nat), .int .i64 ((kwK S.data.toList).2 : Nat)], .bool (kwOf S.data.toList).isSome]) ∧ Below w.heap.size w w' := by
  have hb := Blk.new w 172 [.int .i64 0, .int .i64 0]
  have hw1 := below_new w (.cells #[.int .i64 0, .int .i64 0] 172)
  have r0 := hb.c 0 rfl
  have r1 := hb.c 1 rfl
  have f0 := hb.fz 0
  have f1 := hb.fz 1
  have hq : ∀ W : Bs, S.data.toList = W → (S.toList == W) = true := fun W h => by rw [ByteArray.toList_eq, h]; simp
  have hqn : ∀ W : Bs, ¬ S.data.toList = W → (S.toList == W) = false := fun W h => by rw [ByteArray.toList_eq]; simpa using h
  have fin : ∀ (p q : Nat), (kwK S.data.toList).1 = p → (kwK S.data.toList).2 = q → ∀ b, (kwOf S.data.toList).isSome = b → Hid ((kwK S.data.toList).1 = p ∧ (kwK S.data.toList).2 = q ∧ (kwOf S.data.toList).isSome = b) := fun p q h1 h2 b h3 => ⟨h1, h2, h3⟩
  have hN := named_any S
  by_cases h1 : S.data.toList = wFun ∨ S.data.toList = wIn ∨ S.data.toList = wThen ∨ S.data.toList = wElse
  case' pos =>
    have hk : kwOf S.data.toList = some (0, 0) := by unfold kwOf; rw [if_pos h1]
    have HF := fin 0 0 (by unfold kwK; rw [hk]; rfl) (by unfold kwK; rw [hk]; rfl) true (by rw [hk]; rfl)
    rw [HF.out.1, HF.out.2.1, HF.out.2.2]
    have q1 : ((S.toList == [102, 117, 110]) = true) ∨ ((S.toList == [102, 117, 110]) = false ∧ (S.toList == [105, 110]) = true) ∨ ((S.toList == [102, 117, 110]) = false ∧ (S.toList == [105, 110]) = false ∧ (S.toList == [116, 104, 101, 110]) = true) ∨
        ((S.toList == [102, 117, 110]) = false ∧ (S.toList == [105, 110]) = false ∧ (S.toList == [116, 104, 101, 110]) = false ∧ (S.toList == [101, 108, 115, 101]) = true) := by
      rcases h1 with h | h | h | h
      · exact .inl (hq _ h)
      · exact .inr (.inl ⟨hqn _ (by rw [h]; decide), hq _ h⟩)
      · exact .inr (.inr (.inl ⟨hqn _ (by rw [h]; decide), hqn _ (by rw [h]; decide), hq _ h⟩))
      · exact .inr (.inr (.inr ⟨hqn _ (by rw [h]; decide), hqn _ (by rw [h]; decide), hqn _ (by rw [h]; decide), hq _ h⟩))
    clear h1 hk HF fin hq hqn hN
    rcases q1 with q1 | ⟨q1, q2⟩ | ⟨q1, q2, q3⟩ | ⟨q1, q2, q3, q4⟩
    all_goals
      go_enter Tryz.func103, Tryz.ntmps103
      go_wp2_with fail
      have hb2 := Blk.new w 172 [.int .i64 0, .int .i64 0]
      have d0 := hb2.c 0 rfl
      have d1 := hb2.c 1 rfl
      refine bodyPost_ret (v := .tuple #[.agg #[.int .i64 0, .int .i64 0], .bool true]) ?_ rfl ⟨rfl, below_new _ _⟩
      simp [results, Tryz.results103, go_sem, d0, d1]
  case' neg =>
    rw [not_or, not_or, not_or] at h1
    obtain ⟨h1, h2, h3, h4⟩ := h1
    have q1 := hqn _ h1
    have q2 := hqn _ h2
    have q3 := hqn _ h3
    have q4 := hqn _ h4
    unfold wFun at q1
    unfold wIn at q2
    unfold wThen at q3
    unfold wElse at q4
    have hk0 : kwOf S.data.toList = if S.data.toList = wLet then some (4, 2) else if S.data.toList = wIf then some (5, 3) else if (namedF S.data.toList 24 1).2 ≠ 0 then some (namedF S.data.toList 24 1) else none := by
      unfold kwOf
      rw [if_neg (by simp [h1, h2, h3, h4])]
    by_cases h5 : S.data.toList = wLet
    case' pos =>
      rw [if_pos h5] at hk0
      have q5 := hq _ h5
      unfold wLet at q5
      have HF := fin 4 2 (by unfold kwK; rw [hk0]; rfl) (by unfold kwK; rw [hk0]; rfl) true (by rw [hk0]; rfl)
      rw [HF.out.1, HF.out.2.1, HF.out.2.2]
      clear h1 h2 h3 h4 h5 hk0 HF fin hq hqn hN
      go_enter Tryz.func103, Tryz.ntmps103
      go_wp2_with fail
      have hb2 := Blk.new w 172 [.int .i64 4, .int .i64 2]
      have d0 := hb2.c 0 rfl
      have d1 := hb2.c 1 rfl
      refine bodyPost_ret (v := .tuple #[.agg #[.int .i64 4, .int .i64 2], .bool true]) ?_ rfl ⟨rfl, below_new _ _⟩
      simp [results, Tryz.results103, go_sem, d0, d1]
    case' neg =>
      rw [if_neg h5] at hk0
      have q5 := hqn _ h5
      unfold wLet at q5
      by_cases h6 : S.data.toList = wIf
      case' pos =>
        rw [if_pos h6] at hk0
        have q6 := hq _ h6
        unfold wIf at q6
        have HF := fin 5 3 (by unfold kwK; rw [hk0]; rfl) (by unfold kwK; rw [hk0]; rfl) true (by rw [hk0]; rfl)
        rw [HF.out.1, HF.out.2.1, HF.out.2.2]
        clear h1 h2 h3 h4 h5 h6 hk0 HF fin hq hqn hN
        go_enter Tryz.func103, Tryz.ntmps103
        go_wp2_with fail
        have hb2 := Blk.new w 172 [.int .i64 5, .int .i64 3]
        have d0 := hb2.c 0 rfl
        have d1 := hb2.c 1 rfl
        refine bodyPost_ret (v := .tuple #[.agg #[.int .i64 5, .int .i64 3], .bool true]) ?_ rfl ⟨rfl, below_new _ _⟩
        simp [results, Tryz.results103, go_sem, d0, d1]
      case' neg =>
        rw [if_neg h6] at hk0
        have q6 := hqn _ h6
        unfold wIf at q6
        obtain ⟨p, hp⟩ : ∃ p, (namedF S.data.toList 24 1).1 = p := ⟨_, rfl⟩
        obtain ⟨q, hq2⟩ : ∃ q, (namedF S.data.toList 24 1).2 = q := ⟨_, rfl⟩
        rw [hp, hq2] at hN
        rw [hq2] at hk0
        have hpq : namedF S.data.toList 24 1 = (p, q) := by rw [← hp, ← hq2]
        rw [hpq] at hk0
        by_cases h0 : q = 0
        case' pos =>
          rw [if_neg (by simp [h0])] at hk0
          have HF := fin 0 0 (by unfold kwK; rw [hk0]; rfl) (by unfold kwK; rw [hk0]; rfl) false (by rw [hk0]; rfl)
          rw [HF.out.1, HF.out.2.1, HF.out.2.2]
          subst h0
          clear h1 h2 h3 h4 h5 h6 hk0 HF fin hq hqn hp hq2 hpq
          go_enter Tryz.func103, Tryz.ntmps103
          go_wp2_with (go_at_call 118; refine (hN _).mono ?_; rintro e w1 ⟨rfl, rfl⟩)
          have hb2 := Blk.new w 172 [.int .i64 0, .int .i64 0]
          have d0 := hb2.c 0 rfl
          have d1 := hb2.c 1 rfl
          refine bodyPost_ret (v := .tuple #[.agg #[.int .i64 0, .int .i64 0], .bool false]) ?_ rfl ⟨rfl, below_new _ _⟩
          simp [results, Tryz.results103, go_sem, d0, d1]
        case' neg =>
          rw [if_pos h0] at hk0
          have HF := fin p q (by unfold kwK; rw [hk0]; rfl) (by unfold kwK; rw [hk0]; rfl) true (by rw [hk0]; rfl)
          rw [HF.out.1, HF.out.2.1, HF.out.2.2]
          have q0 : ((q : Int) != 0) = true := by simp; omega
          clear h1 h2 h3 h4 h5 h6 hk0 HF fin hq hqn hp hq2 hpq
          go_enter Tryz.func103, Tryz.ntmps103
          go_wp2_with (go_at_call 118; refine (hN _).mono ?_; rintro e w1 ⟨rfl, rfl⟩)
          have hb2 := Blk.new w 172 [.int .i64 (p : Nat), .int .i64 (q : Nat)]
          have d0 := hb2.c 0 rfl
          have d1 := hb2.c 1 rfl
          refine bodyPost_ret (v := .tuple #[.agg #[.int .i64 (p : Nat), .int .i64 (q : Nat)], .bool true]) ?_ rfl ⟨rfl, below_new _ _⟩
          simp [results, Tryz.results103, go_sem, d0, d1]
/-- What name leaves. -/
def NameE (R : Nat) (s : ByteArray) (ts : List Tk) (tl : List Value) (w : World) (e : Ending) (w' : World) : Prop := Below w.heap.size w w' ∧ if isN ts = true then ∃ S : ByteArray, e = .returned (.string S) ∧ S.data.toList = (hd ts).s ∧ Rdr w' R s ts tl else e = WrongS (hd ts).ln
set_option maxRecDepth 100000 in
set_option maxHeartbeats 2000000 in
theorem name_any (R : Nat) (s : ByteArray) (ts : List Tk) (tl : List Value) (w : World) (h : Rdr w R s ts tl) :
    Calls Tryz.prog 85 #[.pointer (some ⟨R, 0, none⟩)] w (NameE R s ts tl w) := by
  have hF := fun w' (hb : Below w.heap.size w w') => sfail_any R s ts tl w' (h.belowAll hb)
  have hRd := fun w' (hb : Below w.heap.size w w') => h.belowAll hb
  unfold WrongS at hF
  obtain ⟨i, n, k1, S1, l1, k2, S2, l2, hl, hi, hn, hl1, hl2, hk1, hk2, hts, e2, e1⟩ := h.at_
  have hhd : hd ts = tkO k1 S1 l1 := by rw [hts, strm_hd]
  have hN : isN ts = (decide (k1 = 2) && !(kwOf S1.data.toList).isSome) := by
    unfold isN
    rw [hhd]
    show (k1 == 2 && _) = _
    congr 1
    simp
  obtain ⟨kw, hkw⟩ : ∃ kw, (kwOf S1.data.toList).isSome = kw := ⟨_, rfl⟩
  have hK := keywordOf_any S1
  rw [hkw] at hK hN
  have HN := Lib.hid hN
  have HHD := Lib.hid hhd
  have c3 := Blk.c hl 3 rfl
  have c4 := Blk.c hl 4 rfl
  have c5 := Blk.c hl 5 rfl
  generalize (kwK S1.data.toList).1 = kp at *
  generalize (kwK S1.data.toList).2 = kq at *
  clear hts e1 e2 hN hhd hkw h
  go_enter Tryz.func85, Tryz.ntmps85
  go_upto_region 2 with (go_at_call 103; refine (hK _).mono ?_; rintro e w1 ⟨rfl, hb1⟩)
  have hb2 : Below w.heap.size w (w1.alloc (.cells #[.int .i64 (kp : Nat), .int .i64 (kq : Nat)] 172)) := hb1.alloc hb1.size _
  have hl2 := Blk.belowAll hl hb2
  have hF2 := hF _ hb2
  have hR2 := hRd _ hb2
  clear c3 c4 c5 hF hRd hl hK hb1
  generalize w1.alloc (.cells #[.int .i64 (kp : Nat), .int .i64 (kq : Nat)] 172) = w2 at *
  have c3 := Blk.c hl2 3 rfl
  have c4 := Blk.c hl2 4 rfl
  cases kw
  case' true =>
    have HX : Hid (isN ts = false) := by show _ = _; rw [HN.out]; simp
    go_wp2_with (go_at_call 102; refine hF2.mono ?_; rintro e w3 ⟨rfl, rfl⟩)
    refine ⟨rfl, hb2, ?_⟩
    rw [if_neg (by rw [HX.out]; simp)]
    rfl
  case' false =>
    by_cases h2 : k1 = 2
    case' pos =>
      have HX : Hid (isN ts = true) := by show _ = _; rw [HN.out, h2]; rfl
      have q2 : ((k1 : Int) != 2) = false := by rw [h2]; rfl
      clear h2
      go_wp2_with fail
      go_ret
      refine ⟨hb2, ?_⟩
      rw [if_pos HX.out]
      exact ⟨S1, rfl, by rw [HHD.out], hR2⟩
    case' neg =>
      have HX : Hid (isN ts = false) := by show _ = _; rw [HN.out]; simp [h2]
      have q2 : ((k1 : Int) != 2) = true := by simp; omega
      go_wp2_with (go_at_call 102; refine hF2.mono ?_; rintro e w3 ⟨rfl, rfl⟩)
      refine ⟨rfl, hb2, ?_⟩
      rw [if_neg (by rw [HX.out]; simp)]
      rfl
end Go.Proofs.YtjendlnicbieoaaGreatDoor
/-
  Package source's reader: the cells of its block behind the tokens; what lies in its rows.
-/
namespace Go.Proofs.YtjendlnicbieoaaGreatDoor
open Go.RowKit Go.Sort

section
variable {w : World} {R : Nat} {s : ByteArray} {ts : List Tk} {tl : List Value}
theorem Rdr.ln (h : Rdr w R s ts tl) : w.cell? ⟨R, 5, none⟩ = some (.int .i64 ((hd ts).ln : Nat)) := by
  obtain ⟨i, n, k1, S1, l1, k2, S2, l2, hl, hi, hn, hl1, hl2, hk1, hk2, hts, e2, e1⟩ := h.at_
  rw [hts, strm_hd]
  exact Blk.c hl 5 rfl
theorem Rdr.lnle (h : Rdr w R s ts tl) : (hd ts).ln ≤ s.size := by
  obtain ⟨i, n, k1, S1, l1, k2, S2, l2, hl, hi, hn, hl1, hl2, hk1, hk2, hts, e2, e1⟩ := h.at_
  rw [hts, strm_hd]
  exact hl1
theorem Rdr.tl_ (h : Rdr w R s ts tl) {q : Nat} {v : Value} (hq : tl[q]? = some v) : w.cell? ⟨R, 9 + q, none⟩ = some v := by
  obtain ⟨i, n, k1, S1, l1, k2, S2, l2, hl, -⟩ := h.at_
  refine Blk.c hl (9 + q) ?_
  rw [show 9 + q = q + 9 by omega]
  exact hq
theorem Rdr.fz (h : Rdr w R s ts tl) (o : Nat) : w.frozen? ⟨R, o, none⟩ = false := by
  obtain ⟨i, n, k1, S1, l1, k2, S2, l2, hl, -⟩ := h.at_
  exact Blk.fz hl o
theorem Rdr.setT (h : Rdr w R s ts tl) (q : Nat) (u : Value) : Rdr (w.setCell ⟨R, 9 + q, none⟩ u) R s ts (tl.set q u) := by
  obtain ⟨i, n, k1, S1, l1, k2, S2, l2, hl, h2⟩ := h.at_
  refine ⟨h.nu, i, n, k1, S1, l1, k2, S2, l2, ?_, h2⟩
  have := Blk.set hl (9 + q) u
  rw [show 9 + q = q + 9 by omega] at this ⊢
  exact this
/-- The first token's cells. -/
theorem Rdr.now (h : Rdr w R s ts tl) : ∃ S : ByteArray, S.data.toList = (hd ts).s ∧ w.cell? ⟨R, 3, none⟩ = some (.int .i64 ((hd ts).k : Nat)) ∧ w.cell? ⟨R, 4, none⟩ = some (.string S) ∧ (hd ts).k ≤ 4 := by
  obtain ⟨i, n, k1, S1, l1, k2, S2, l2, hl, hi, hn, hl1, hl2, hk1, hk2, hts, e2, e1⟩ := h.at_
  rw [hts, strm_hd]
  exact ⟨S1, rfl, Blk.c hl 3 rfl, Blk.c hl 4 rfl, hk1⟩
/-- The second token's cells. -/
theorem Rdr.ahead (h : Rdr w R s ts tl) : ∃ S : ByteArray, S.data.toList = (hd (mv ts)).s ∧ w.cell? ⟨R, 6, none⟩ = some (.int .i64 ((hd (mv ts)).k : Nat)) ∧ w.cell? ⟨R, 7, none⟩ = some (.string S) ∧ (hd (mv ts)).k ≤ 4 := by
  obtain ⟨i, n, k1, S1, l1, k2, S2, l2, hl, hi, hn, hl1, hl2, hk1, hk2, hts, e2, e1⟩ := h.at_
  rw [hts, strm_hd2 e1]
  exact ⟨S2, rfl, Blk.c hl 6 rfl, Blk.c hl 7 rfl, hk2⟩
end
theorem str_of {S : ByteArray} {l : Bs} (h : S.data.toList = l) : S = ⟨l.toArray⟩ := by
  subst h
  rfl
end Go.Proofs.YtjendlnicbieoaaGreatDoor
