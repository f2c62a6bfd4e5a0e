/-
  How many parts a tree has, how long its text is; Text and Lines.
-/
import Derived.Test.YtkahboomahhdoaaDoorText
import Derived.Lib.ItoaLen
namespace Go.Proofs.YtkahboomahhdoaaDoor
open Go.RowKit

mutual
def nd : VT → Nat
  | .mk _ _ l => 1 + ndL l
def ndL : List VT → Nat
  | [] => 0
  | t :: r => nd t + ndL r
end
mutual
theorem cnt_nd : ∀ (t : VT) (n : Nat), n ≤ 256 → cnt t n = min 257 (n + nd t)
  | .mk _ _ l, n, h => by rw [cnt, nd, cntL_nd l (n + 1) (by omega)]; omega
theorem cntL_nd : ∀ (l : List VT) (n : Nat), n ≤ 257 → cntL l n = min 257 (n + ndL l)
  | [], n, h => by rw [cntL, ndL]; omega
  | t :: r, n, h => by
    rw [cntL, ndL]
    split
    · omega
    · rw [cnt_nd t n (by omega), cntL_nd r _ (by omega)]
      omega
end
theorem small_nd (t : VT) : small t = decide (nd t ≤ 256) := by
  unfold small
  rw [cnt_nd t 0 (by omega), decide_eq_decide]
  omega

mutual
/-- All numbers of a tree are those of an int64. -/
def AllR : VT → Prop
  | .mk k n l => Rng k ∧ Rng n ∧ AllRL l
def AllRL : List VT → Prop
  | [] => True
  | t :: r => AllR t ∧ AllRL r
end
mutual
theorem IsV.rng {ok : Nat → Prop} {w : World} : ∀ {t : VT} {v : Value}, IsV ok w t v → AllR t
  | .mk k n l, v, h => by
    rw [IsV] at h
    obtain ⟨a, cap, _, h1, h2, _, _, h3⟩ := h
    rw [AllR]
    exact ⟨h1, h2, IsR.rng h3⟩
theorem IsR.rng {ok : Nat → Prop} {w : World} : ∀ {l : List VT} {a : Option Addr} {i : Nat}, IsR ok w l a i → AllRL l
  | [], _, _, _ => by rw [AllRL]; trivial
  | t :: r, a, i, h => by
    rw [IsR] at h
    obtain ⟨⟨g, o, v0, v1, v2, _, _, _, _, _, h6⟩, h7⟩ := h
    rw [AllRL]
    exact ⟨IsV.rng h6, IsR.rng h7⟩
end
theorem wdl_len (j : Nat) : (wdl j).length ≤ 6 := wdB_size j
mutual
theorem txt_len : ∀ (t : VT), AllR t → (txt t).length + 1 ≤ 40 * nd t
  | .mk k n l, h => by
    rw [AllR] at h
    rw [txt, nd]
    have h1 := txtL_len l (numd k) h.2.2
    have h2 := wdl_len k.toNat
    have h3 := Lib.itoa_length_le n h.2.1.1 h.2.1.2
    split
    · omega
    · split
      · simp only [List.length_append, List.length_nil]; omega
      · split
        · simp only [List.length_append, List.length_cons, List.length_nil]; omega
        · simp only [List.length_append, List.length_cons, List.length_nil]; omega
theorem txtL_len : ∀ (l : List VT) (c : Bool), AllRL l → (txtL l c).length ≤ 40 * ndL l
  | [], _, _ => by rw [txtL]; simp
  | t :: r, c, h => by
    rw [AllRL] at h
    rw [txtL, ndL]
    have h1 := txt_len t h.1
    have h2 := txtL_len r true h.2
    cases c
    · simp only [List.length_append, List.length_nil, Bool.false_eq_true, if_false]; omega
    · simp only [List.length_append, List.length_cons, List.length_nil, if_true]; omega
end

theorem right_len {t : VT} (h : right t = true) (hr : AllR t) : (txt t).length ≤ 10240 := by
  have := txt_len t hr
  unfold right at h
  rw [small_nd, Bool.and_eq_true, decide_eq_true_eq] at h
  omega
theorem newB (w : World) : IsBl w.heap.size w.heap.size [] (w.alloc (.cells #[.pointer none, .slice none 0 0] 81)) := Lib.IsBuilderF.of (Lib.fresh_isBuilder _ _ w)
theorem IsB.lower {B B' b : Nat} {bs : List Value} {w : World} (h : IsB B b bs w) (hB : B' ≤ B) : IsB B' b bs w := by
  have key : ∀ p, Lib.BuilderAtF 81 5 B b p bs w → Lib.BuilderAtF 81 5 B' b p bs w := by
    rintro p ⟨h0, v, hbk, ⟨h1, h2⟩, hne⟩
    refine ⟨by omega, v, hbk, ⟨h1, ?_⟩, hne⟩
    rcases h2 with h2 | ⟨g, cap, cur, fz, e1, e2, e3, e4⟩
    · exact .inl h2
    · exact .inr ⟨g, cap, cur, fz, e1, by omega, e3, e4⟩
  exact h.imp (key _) (key _)
theorem IsBl.lower {B B' b : Nat} {l : List UInt8} {w : World} (h : IsBl B b l w) (hB : B' ≤ B) : IsBl B' b l w := IsB.lower h hB
theorem toStr (B b : Nat) (l : List UInt8) (w : World) (h : IsBl B b l w) (hBw : B ≤ w.heap.size) :
    Calls Tryd.prog 41 #[.pointer (some ⟨b, 0, none⟩)] w fun e w' => e = .returned (.string ⟨l.toArray⟩) ∧ Below B w w' := by
  refine (Tryd.Builder_String_any_k B b l w h hBw).mono ?_
  rintro e w' ⟨rfl, _, h2, _⟩
  exact ⟨rfl, h2⟩

/-- A value's text, or an error. -/
def textV (t : VT) : Value := if right t then .tuple #[.string ⟨(txt t).toArray⟩, .int .i64 0] else .tuple #[.string ⟨#[]⟩, .int .i64 40]

set_option maxHeartbeats 1000000 in
theorem Text_any (t : VT) (v : Value) (w : World) (hv : IsV (· < w.heap.size) w t v) (hE : Env w) :
    Calls Tryd.prog 20 #[v] w fun e w' => e = .returned (textV t) ∧ Below w.heap.size w w' := by
  obtain ⟨k, n, a, len, cap, rfl⟩ := hv.form
  have hrg := hv.rng
  have hck := fun w1 (hb : Below w.heap.size w w1) => Check_any t _ w1 (hv.later hb)
  cases hr : right t
  · have HR := Lib.hid hr
    clear hr
    have HK := Lib.hid hck
    clear hck
    go_enter Tryd.func20, Tryd.ntmps20
    go_wp2_with fail
    refine (HK.out _ (below_alloc _ _)).mono ?_
    rw [HR.out]
    rintro e w1 ⟨rfl, hb1⟩
    simp only [Bool.false_eq_true, if_false]
    go_wp2_with fail
    go_ret2
    exact ⟨by rw [textV, HR.out]; rfl, (below_alloc _ _).trans (hb1.mono (by simp))⟩
  · have hlen := right_len hr hrg
    have hsh : shps t = true := by unfold right at hr; rw [Bool.and_eq_true] at hr; exact hr.2
    have HSH := Lib.hid hsh
    have HR := Lib.hid hr
    have HK := Lib.hid hck
    clear hr hsh hck
    go_enter Tryd.func20, Tryd.ntmps20
    go_wp2_with fail
    refine (HK.out _ (below_alloc _ _)).mono ?_
    rw [HR.out]
    rintro e w1 ⟨rfl, hb1⟩
    have hbx := (Bx.new w 26 (.int .i64 k) (.int .i64 n) (.slice a len cap)).belowAll hb1
    have hb : Below w.heap.size w w1 := (below_alloc _ _).trans (hb1.mono (by simp))
    have hsz := hb.size
    have hbl := hbx.lt
    have q0 := hbx.c0
    have q1 := hbx.c1
    have q2 := hbx.c2
    simp only [if_true]
    go_wp2_with fail
    have hb2 := hb.trans ((below_alloc w1 (.cells #[.pointer none, .slice none 0 0] 81)).mono hsz)
    refine (write_any _ t _ w.heap.size w1.heap.size [] _ (Nat.le_refl _) (hv.below hb2) HSH.out ((newB w1).lower hsz) (by simp; omega) hE.size (hE.belowAll hb2)).mono ?_
    rintro e w3 ⟨rfl, hB3, hlo3, hok3⟩
    rw [List.nil_append] at hB3
    have hb3 := hb2.trans hlo3
    go_wp2_with fail
    refine (toStr _ _ _ _ hB3 hb3.size).mono ?_
    rintro e w4 ⟨rfl, hb4⟩
    go_wp2_with fail
    go_ret2
    exact ⟨by rw [textV, HR.out]; rfl, hb3.trans hb4⟩

/-- Texts of values, a line each. -/
def linesT : List VT → List UInt8
  | [] => []
  | t :: r => txt t ++ 10 :: linesT r
def rightL : List VT → Bool
  | [] => true
  | t :: r => right t && rightL r
def linesV (l : List VT) : Value := if rightL l then .tuple #[.string ⟨(linesT l).toArray⟩, .int .i64 0] else .tuple #[.string ⟨#[]⟩, .int .i64 40]

set_option maxRecDepth 100000 in
set_option maxHeartbeats 1000000 in
theorem Lines_any (l : List VT) (a : Option Addr) (cap : Nat) (w : World) (hl : l.length ≤ 8) (hrow : IsR (· < w.heap.size) w l a 0) (hE : Env w) :
    Calls Tryd.prog 22 #[.slice a l.length cap] w fun e w' => e = .returned (linesV l) ∧ Below w.heap.size w w' := by
  go_enter Tryd.func22, Tryd.ntmps22
  go_wp2_with fail
  go_loopw [6, 7, 10] (fun _ _ x wr => ∃ (i : Nat) (done : List UInt8), i ≤ l.length ∧ x = .int .i64 i ∧ linesT l = done ++ linesT (l.drop i) ∧ rightL l = rightL (l.drop i) ∧ done.length ≤ 10241 * i ∧ IsBl w.heap.size w.heap.size done wr ∧ Below w.heap.size w wr) (fun _ _ x _ => l.length - (intOf x).toNat)
  case atStart => exact ⟨0, [], by omega, rfl, rfl, rfl, by simp, newB w, below_alloc _ _⟩
  case round =>
    obtain ⟨i, done, hi, rfl, hq, hrl, hdl, hB, hb⟩ := hrel
    have HQ := Lib.hid hq
    have HRL := Lib.hid hrl
    clear hq hrl
    have hsz := hb.size
    have hblt := hB.lt
    by_cases hlt : i < l.length
    · obtain ⟨kk, n2, ll, g, o, a', cap', hlj, rfl, hg, c0, c1, c2, ht⟩ := hrow.at_ hlt
      have d0 := (hb.cell (p := ⟨g, o + i * 3, none⟩) hg).trans c0
      have d1 := (hb.cell (p := ⟨g, o + i * 3 + 1, none⟩) hg).trans c1
      have d2 := (hb.cell (p := ⟨g, o + i * 3 + 2, none⟩) hg).trans c2
      have hstep : linesT (l.drop i) = txt (.mk kk n2 ll) ++ 10 :: linesT (l.drop (i + 1)) := by rw [List.drop_eq_getElem_cons hlt, linesT, hlj]
      have hrstep : rightL (l.drop i) = (right (.mk kk n2 ll) && rightL (l.drop (i + 1))) := by rw [List.drop_eq_getElem_cons hlt, rightL, hlj]
      have HS := Lib.hid hstep
      have HRS := Lib.hid hrstep
      have hrg := ht.rng
      clear hstep hrstep hlj c0 c1 c2
      have hbn := Bx.new wr 26 (.int .i64 kk) (.int .i64 n2) (.slice a' ll.length cap')
      have hBn := hB.keepAll (below_alloc wr (.cells #[.int .i64 kk, .int .i64 n2, .slice a' ll.length cap'] 26))
      have hbb := hb.trans ((below_alloc wr (.cells #[.int .i64 kk, .int .i64 n2, .slice a' ll.length cap'] 26)).mono hsz)
      have htn := ht.below hbb
      have hck := fun w1 (hb1 : Below (wr.alloc (.cells #[.int .i64 kk, .int .i64 n2, .slice a' ll.length cap'] 26)).heap.size (wr.alloc (.cells #[.int .i64 kk, .int .i64 n2, .slice a' ll.length cap'] 26)) w1) => Check_any _ _ w1 ((htn.lift (by simp; omega)).later hb1)
      cases hr : right (.mk kk n2 ll)
      · have HR := Lib.hid hr
        have HK := Lib.hid (hck _ (Below.refl _ _))
        clear hr hck
        go_wp2_with fail
        generalize wr.alloc (.cells #[.int .i64 kk, .int .i64 n2, .slice a' ll.length cap'] 26) = wn at *
        refine HK.out.mono ?_
        rw [HR.out]
        rintro e w1 ⟨rfl, hb1⟩
        simp only [Bool.false_eq_true, if_false]
        go_wp2_with fail
        go_ret2
        refine ⟨?_, hbb.trans (hb1.mono hbb.size)⟩
        have : rightL l = false := by rw [HRL.out, HRS.out, HR.out]; rfl
        rw [linesV, this]; rfl
      · have hlen := right_len hr hrg
        have hsh : shps (.mk kk n2 ll) = true := by unfold right at hr; rw [Bool.and_eq_true] at hr; exact hr.2
        have HSH := Lib.hid hsh
        have HR := Lib.hid hr
        have HK := Lib.hid (hck _ (Below.refl _ _))
        clear hr hsh hck
        go_wp2_with fail
        generalize wr.alloc (.cells #[.int .i64 kk, .int .i64 n2, .slice a' ll.length cap'] 26) = wn at *
        refine HK.out.mono ?_
        rw [HR.out]
        rintro e w1 ⟨rfl, hb1⟩
        simp only [if_true]
        have hbx := hbn.belowAll hb1
        have q0 := hbx.c0
        have q1 := hbx.c1
        have q2 := hbx.c2
        have hb2 := hbb.trans (hb1.mono hbb.size)
        have hszn := hbb.size
        go_wp2_with fail
        refine (write_any _ (.mk kk n2 ll) _ w.heap.size w.heap.size done _ (Nat.le_refl _) (ht.below hb2) HSH.out (hBn.keepAll hb1) (by omega) hE.size (hE.belowAll hb2)).mono ?_
        rintro e w3 ⟨rfl, hB3, hlo3, hok3⟩
        have hb3 := hb2.trans hlo3
        go_wp2_with fail
        refine (writeC _ _ _ 10 10 (by decide) _ hB3 (by rw [List.length_append]; omega) hb3.size).mono ?_
        rintro e w4 ⟨rfl, hB4, hlo4, hok4⟩
        go_wp2_with fail
        go_roundw
        case rel =>
          refine ⟨i + 1, done ++ txt (.mk kk n2 ll) ++ [10], by omega, by go_num, ?_, ?_, ?_, hB4, hb3.trans hlo4⟩
          · rw [HQ.out, HS.out]; simp
          · rw [HRL.out, HRS.out, HR.out]; rfl
          · simp only [List.length_append, List.length_cons, List.length_nil]; omega
        case measure => simp [intOf]; omega
    · go_wp2_with fail
      refine (toStr _ _ _ _ hB hsz).mono ?_
      rintro e w4 ⟨rfl, hb4⟩
      go_wp2_with fail
      go_ret2
      refine ⟨?_, hb.trans hb4⟩
      have h1 : l.drop i = [] := List.drop_of_length_le (by omega)
      have h2 : rightL l = true := by rw [HRL.out, h1]; rfl
      rw [linesV, h2, HQ.out, h1, linesT, List.append_nil]; rfl
end Go.Proofs.YtkahboomahhdoaaDoor
