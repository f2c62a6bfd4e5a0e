/-
  Walks over the reference of layer 5: Text, Lines.
-/
import Derived.Test.YtkahboomahhdoaaDoorRefX
namespace Go.Proofs.YtkahboomahhdoaaDoor
open Go.RowKit

set_option maxHeartbeats 1000000 in
theorem rText_any (t : VT) (v : Value) (w : World) (hv : IsV (· < w.heap.size) w t v) (hnd : nd t ≤ 2000000) :
    Calls Tryd.prog 21 #[v] w fun e w' => e = .returned (textV t) ∧ Below w.heap.size w w' := by
  obtain ⟨k, n, a, len, cap, rfl⟩ := hv.form
  have hrg := hv.rng
  have hck := fun w1 (hb : Below w.heap.size w w1) => rRight_any t _ w1 (hv.later hb) hnd
  cases hr : right t
  · have HR := Lib.hid hr
    clear hr
    have HK := Lib.hid hck
    clear hck
    go_enter Tryd.func21, Tryd.ntmps21
    go_wp2_with fail
    refine (HK.out _ (below_alloc _ _)).mono ?_
    rw [HR.out]
    rintro e w1 ⟨rfl, hb1⟩
    go_wp2_with fail
    go_ret2
    exact ⟨by rw [textV, HR.out]; rfl, (below_alloc _ _).trans (hb1.mono (by simp))⟩
  · have hlen := right_len hr hrg
    have hsh : shps t = true := by unfold right at hr; rw [Bool.and_eq_true] at hr; exact hr.2
    have HSH := Lib.hid hsh
    have HR := Lib.hid hr
    have HK := Lib.hid hck
    clear hr hsh hck
    go_enter Tryd.func21, Tryd.ntmps21
    go_wp2_with fail
    refine (HK.out _ (below_alloc _ _)).mono ?_
    rw [HR.out]
    rintro e w1 ⟨rfl, hb1⟩
    have hbx := (Bx.new w 26 (.int .i64 k) (.int .i64 n) (.slice a len cap)).belowAll hb1
    have hb : Below w.heap.size w w1 := (below_alloc _ _).trans (hb1.mono (by simp))
    have hsz := hb.size
    have hbl := hbx.lt
    have q0 := hbx.c0
    have q1 := hbx.c1
    have q2 := hbx.c2
    go_wp2_with fail
    refine (rtext_any _ t _ _ (Nat.le_refl _) (hv.later hb) HSH.out (by omega)).mono ?_
    rintro e w3 ⟨rfl, hb3⟩
    go_wp2_with fail
    go_ret2
    exact ⟨by rw [textV, HR.out]; rfl, hb.trans (hb3.mono hsz)⟩

theorem textV_yes {t : VT} (h : right t = true) : textV t = .tuple #[.string (bstr (txt t)), .int .i64 0] := by rw [textV, h]; rfl
theorem textV_no {t : VT} (h : right t = false) : textV t = .tuple #[.string ⟨#[]⟩, .int .i64 40] := by rw [textV, h]; rfl

set_option maxRecDepth 100000 in
set_option maxHeartbeats 1000000 in
theorem rLines_any (l : List VT) (a : Option Addr) (cap : Nat) (w : World) (hl : l.length ≤ 8) (hrow : IsR (· < w.heap.size) w l a 0) (hnd : ∀ t ∈ l, nd t ≤ 2000000) :
    Calls Tryd.prog 23 #[.slice a l.length cap] w fun e w' => e = .returned (linesV l) ∧ Below w.heap.size w w' := by
  have h10 : (ByteArray.mk #[10]).size = 1 := rfl
  go_enter Tryd.func23, Tryd.ntmps23
  go_wp2_with fail
  go_loopw [4, 5, 6, 7] (fun sv x _ _ wr => ∃ (i : Nat) (done : List UInt8) (S : ByteArray), i ≤ l.length ∧ x = .int .i64 i ∧ sv = .string S ∧ S = bstr done ∧ linesT l = done ++ linesT (l.drop i) ∧ rightL l = rightL (l.drop i) ∧ done.length ≤ 10241 * i ∧ Below w.heap.size w wr) (fun _ x _ _ _ => l.length - (intOf x).toNat)
  case atStart => exact ⟨0, [], _, by omega, rfl, rfl, rfl, rfl, rfl, by simp, Below.refl _ _⟩
  case round =>
    obtain ⟨i, done, S, hi, rfl, rfl, hS, hq, hrl, hdl, hb⟩ := hrel
    have HQ := Lib.hid hq
    have HRL := Lib.hid hrl
    have hSz : S.size = done.length := by rw [hS]; rfl
    have HSS := Lib.hid hS
    clear hq hrl hS
    have hsz := hb.size
    by_cases hlt : i < l.length
    · have hnt := hnd _ (List.getElem_mem hlt)
      obtain ⟨kk, n2, ll, g, o, a', cap', hlj, rfl, hg, c0, c1, c2, ht⟩ := hrow.at_ hlt
      rw [hlj] at hnt
      have d0 := (hb.cell (p := ⟨g, o + i * 3, none⟩) hg).trans c0
      have d1 := (hb.cell (p := ⟨g, o + i * 3 + 1, none⟩) hg).trans c1
      have d2 := (hb.cell (p := ⟨g, o + i * 3 + 2, none⟩) hg).trans c2
      have hstep : linesT (l.drop i) = txt (.mk kk n2 ll) ++ 10 :: linesT (l.drop (i + 1)) := by rw [List.drop_eq_getElem_cons hlt, linesT, hlj]
      have hrstep : rightL (l.drop i) = (right (.mk kk n2 ll) && rightL (l.drop (i + 1))) := by rw [List.drop_eq_getElem_cons hlt, rightL, hlj]
      have HS := Lib.hid hstep
      have HRS := Lib.hid hrstep
      have hrg := ht.rng
      clear hstep hrstep hlj c0 c1 c2
      have HK := Lib.hid (rText_any _ _ wr (ht.later hb) hnt)
      cases hr : right (.mk kk n2 ll)
      · have HTV := Lib.hid (textV_no hr)
        have HR := Lib.hid hr
        clear hr
        go_wp2_with fail
        refine HK.out.mono ?_
        rw [HTV.out]
        rintro e w1 ⟨rfl, hb1⟩
        go_wp2_with fail
        go_ret2
        refine ⟨?_, hb.trans (hb1.mono hsz)⟩
        have : rightL l = false := by rw [HRL.out, HRS.out, HR.out]; rfl
        rw [linesV, this]; rfl
      · have hlen := right_len hr hrg
        have HTV := Lib.hid (textV_yes hr)
        have HR := Lib.hid hr
        clear hr
        go_wp2_with fail
        refine HK.out.mono ?_
        rw [HTV.out]
        rintro e w1 ⟨rfl, hb1⟩
        have htk : (bstr (txt (.mk kk n2 ll))).size = (txt (.mk kk n2 ll)).length := rfl
        have hTT : bstr (txt (.mk kk n2 ll)) = bstr (txt (.mk kk n2 ll)) := rfl
        generalize hT : bstr (txt (.mk kk n2 ll)) = T at *
        have HT := Lib.hid hT
        clear hT hTT
        have hST : (S ++ T).size = S.size + T.size := ByteArray.size_append
        go_wp2_with fail
        go_roundw
        case rel =>
          refine ⟨i + 1, done ++ txt (.mk kk n2 ll) ++ [10], _, by omega, by go_num, rfl, ?_, ?_, ?_, ?_, hb.trans (hb1.mono hsz)⟩
          · rw [HSS.out, ← HT.out, bstr_app]; exact bstr_app _ [10]
          · rw [HQ.out, HS.out]; simp
          · rw [HRL.out, HRS.out, HR.out]; rfl
          · simp only [List.length_append, List.length_cons, List.length_nil]; omega
        case measure => simp [intOf]; omega
    · go_wp2_with fail
      go_ret2
      refine ⟨?_, hb⟩
      have h1 : l.drop i = [] := List.drop_of_length_le (by omega)
      have h2 : rightL l = true := by rw [HRL.out, h1]; rfl
      rw [linesV, h2, HQ.out, h1, linesT, List.append_nil, HSS.out]; rfl
end Go.Proofs.YtkahboomahhdoaaDoor
