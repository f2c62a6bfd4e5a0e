/-
  Walks over package valtext: numbered, write, Text, Lines.
-/
import Derived.Test.YtkahboomahhdoaaDoorBuild
namespace Go.Proofs.YtkahboomahhdoaaDoor
open Go.RowKit

/-- What the package-level variables hold. -/
structure Env (w : World) : Prop where
  words : HasWords w
  tab : Lib.TabIs Tryd.prog w "internal/strconv.uint64pow10" .u64 Lib.pow10Tab
  maxl : ∃ m, w.cell? ⟨1, 0, none⟩ = some (.int .i64 m)
  size : 5 ≤ w.heap.size
theorem gPow : Tryd.prog.globalNamed "internal/strconv.uint64pow10" = some 2 := by kernel_rfl
theorem Env.below {B : Nat} {w w' : World} (h : Env w) (hb : Below B w w') (hB : 5 ≤ B) : Env w' := by
  have hsz := hb.size
  have h5 := h.size
  refine ⟨?_, ?_, ?_, by omega⟩
  · obtain ⟨t, fr, hx⟩ := h.words
    exact ⟨t, fr, (hb.block _ (by omega)).trans hx⟩
  · exact var?_below hb gPow (by omega) h.tab
  · obtain ⟨m, hm⟩ := h.maxl
    exact ⟨m, (hb.cell (p := ⟨1, 0, none⟩) (by show 1 < B; omega)).trans hm⟩
theorem Env.belowAll {w w' : World} (h : Env w) (hb : Below w.heap.size w w') : Env w' := h.below hb h.size

/-- A builder that holds bytes. -/
def IsBl (B b : Nat) (l : List UInt8) (w : World) : Prop := IsB B b (Lib.byteCells l) w
theorem IsB.keepAll {B b : Nat} {bs : List Value} {w w' : World} (h : IsB B b bs w) (hb : Below w.heap.size w w') : IsB B b bs w' := by
  have key : ∀ p, Lib.BuilderAtF 81 5 B b p bs w → Lib.BuilderAtF 81 5 B b p bs w' := by
    rintro p ⟨hB, v, hbk, ⟨h1, h2⟩, hne⟩
    refine ⟨hB, v, (hb.block b (lt_of_heap hbk)).trans hbk, ⟨h1, ?_⟩, hne⟩
    rcases h2 with h2 | ⟨g, cap, cur, fz, e1, e2, e3, e4⟩
    · exact .inl h2
    · exact .inr ⟨g, cap, cur, fz, e1, e2, (hb.block g (lt_of_heap e3)).trans e3, e4⟩
  exact h.imp (key _) (key _)
theorem IsBl.keepAll {B b : Nat} {l : List UInt8} {w w' : World} (h : IsBl B b l w) (hb : Below w.heap.size w w') : IsBl B b l w' := IsB.keepAll h hb
theorem IsBl.lt {B b : Nat} {l : List UInt8} {w : World} (h : IsBl B b l w) : B ≤ b ∧ b < w.heap.size := by
  rcases h with ⟨hB, v, hbk, _⟩ | ⟨hB, v, hbk, _⟩ <;> exact ⟨hB, lt_of_heap hbk⟩
theorem OK8.ofAll {b : Nat} {w w' : World} (hb : Below w.heap.size w w') : OK8 b w w' := fun k _o hk _ _ => (hb.block k (lt_of_heap hk)).trans hk
theorem Bx.ok8 {b g : Nat} {w w' : World} {t : TypeId} {v0 v1 v2 : Value} (h : Bx w g t v0 v1 v2) (hk : OK8 b w w') (hg : g ≠ b) (ht : t ≠ 5) : Bx w' g t v0 v1 v2 :=
  hk g _ h (fun e => hg (by injection e)) (fun c fz e => ht (by injection e))

theorem writeS (B b : Nat) (l : List UInt8) (s : ByteArray) (w : World) (h : IsBl B b l w) (hlen : l.length + s.size ≤ 140737488355328) (hBw : B ≤ w.heap.size) :
    Calls Tryd.prog 51 #[.pointer (some ⟨b, 0, none⟩), .string s] w fun e w' => e = .returned (.tuple #[.int .i64 s.size, .nilIface]) ∧ IsBl B b (l ++ s.data.toList) w' ∧ Below B w w' ∧ OK8 b w w' := by
  refine (WriteString_k B b _ s w h (by rw [Lib.byteCells_length]; exact hlen) hBw).mono ?_
  rintro e w' ⟨rfl, h1, h2, h3⟩
  refine ⟨rfl, ?_, h2, h3⟩
  unfold IsBl
  rw [Lib.byteCells_append, ← Lib.strCells_eq]
  exact h1
theorem writeC (B b : Nat) (l : List UInt8) (c : UInt8) (ci : Int) (hc : (c.toNat : Int) = ci) (w : World) (h : IsBl B b l w) (hlen : l.length + 1 ≤ 140737488355328) (hBw : B ≤ w.heap.size) :
    Calls Tryd.prog 44 #[.pointer (some ⟨b, 0, none⟩), .int .u8 ci] w fun e w' => e = .returned .nilIface ∧ IsBl B b (l ++ [c]) w' ∧ Below B w w' ∧ OK8 b w w' := by
  subst hc
  refine (WriteByte_k B b _ _ w h (by rw [Lib.byteCells_length]; exact hlen) hBw).mono ?_
  rintro e w' ⟨rfl, h1, h2, h3⟩
  refine ⟨rfl, ?_, h2, h3⟩
  unfold IsBl
  rw [Lib.byteCells_append]
  exact h1
theorem below_growN (w : World) (k : Nat) (os : Array Obj) : Below w.heap.size w (Sort.grow (w.drewN k) os) :=
  ⟨rfl, rfl, rfl, by show w.heap.size ≤ (w.heap ++ os).size; rw [Array.size_append]; omega, fun j hj => by
    show (w.heap ++ os)[j]? = _
    rw [Array.getElem?_append_left hj]⟩
theorem fmtInt (n : Int) (hn : Rng n) (w : World) (hE : Env w) :
    Calls Tryd.prog 68 #[.int .i64 n, .int .i64 10] w fun e w' => e = .returned (.string ⟨(Lib.itoa n).toArray⟩) ∧ Below w.heap.size w w' := by
  refine (Tryd.strconv_FormatInt_10 n hn.1 hn.2 w hE.tab).mono ?_
  rintro e w' ⟨rfl, k, os, rfl⟩
  exact ⟨rfl, below_growN w k os⟩

def numd (k : Int) : Bool := decide (k = 4) || decide (k = 10) || decide (k = 11) || decide (k = 12) || decide (k = 13)
set_option maxHeartbeats 400000 in
theorem numbered_any (k : Int) (w : World) : Calls Tryd.prog 69 #[.int .i64 k] w fun e w' => e = .returned (.bool (numd k)) ∧ w = w' := by
  go_enter Tryd.func69, Tryd.ntmps69
  go_wp2_with fail
  all_goals go_ret
  all_goals refine ⟨ret_bool ?_, rfl⟩
  all_goals simp_all [numd]

mutual
/-- A value's text. -/
def txt : VT → List UInt8
  | .mk k n l => if k = 2 then Lib.itoa n else wdl k.toNat ++ (if k = 1 ∨ k = 8 then [] else 40 :: ((if numd k then Lib.itoa n else []) ++ (txtL l (numd k) ++ [41])))
def txtL : List VT → Bool → List UInt8
  | [], _ => []
  | t :: r, c => (if c then [44] else []) ++ (txt t ++ txtL r true)
end
theorem shp_kind {k n : Int} {l : List VT} (h : shp k n l = true) : 1 ≤ k ∧ k ≤ 13 := by
  unfold shp shpN at h
  rcases Int.lt_or_le k 1 with h1 | h1
  · rw [if_neg (by omega), if_neg (by omega), if_neg (by omega), if_neg (by omega), if_neg (by omega), if_neg (by omega), if_neg (by omega), if_neg (by omega), if_neg (by omega), if_neg (by omega)] at h
    cases h
  · rcases Int.lt_or_le 13 k with h2 | h2
    · rw [if_neg (by omega), if_neg (by omega), if_neg (by omega), if_neg (by omega), if_neg (by omega), if_neg (by omega), if_neg (by omega), if_neg (by omega), if_neg (by omega), if_neg (by omega)] at h
      cases h
    · exact ⟨h1, h2⟩
theorem shpsL_mem {l : List VT} (h : shpsL l = true) {t : VT} (ht : t ∈ l) : shps t = true := by
  induction l with
  | nil => cases ht
  | cons a r ih =>
    rw [shpsL, Bool.and_eq_true] at h
    rcases List.mem_cons.1 ht with rfl | h2
    · exact h.1
    · exact ih h.2 h2

/-- How write ends. -/
def WEnds (B b : Nat) (l : List UInt8) (w : World) (e : Ending) (w' : World) : Prop := e = .returned (.tuple #[]) ∧ IsBl B b l w' ∧ Below B w w' ∧ OK8 b w w'

set_option maxRecDepth 100000 in
set_option maxHeartbeats 4000000 in
theorem write_any (m : Nat) : ∀ (t : VT) (v : Value) (B b : Nat) (l0 : List UInt8) (w : World), SizeOf.sizeOf t ≤ m → IsV (· < B) w t v → shps t = true → IsBl B b l0 w → l0.length + (txt t).length ≤ 140737488355328 → 5 ≤ B → Env w →
    Calls Tryd.prog 40 #[.pointer (some ⟨b, 0, none⟩), v] w (WEnds B b (l0 ++ txt t) w) := by
  induction m with
  | zero => intro t; cases t; simp
  | succ m ih =>
    intro t v B b l0 w hk hv hsh hB hlen hB5 hE
    obtain ⟨kd, nn, l⟩ := t
    rw [IsV] at hv
    obtain ⟨a, cap, rfl, hkr, hnr, hl, hcap, hrow⟩ := hv
    unfold maxLen at hcap
    have HI := Lib.hid ih
    clear ih
    rw [shps, Bool.and_eq_true] at hsh
    have hkind := shp_kind hsh.1
    have HSL := Lib.hid hsh.2
    clear hsh
    obtain ⟨hBb, hbw⟩ := hB.lt
    have hbx := Bx.new w 26 (.int .i64 kd) (.int .i64 nn) (.slice a l.length cap)
    have hB1 := hB.keepAll (below_alloc w (.cells #[.int .i64 kd, .int .i64 nn, .slice a l.length cap] 26))
    have hE1 := hE.belowAll (below_alloc w (.cells #[.int .i64 kd, .int .i64 nn, .slice a l.length cap] 26))
    have hlo : Below B w (w.alloc (.cells #[.int .i64 kd, .int .i64 nn, .slice a l.length cap] 26)) := (below_alloc w _).mono (by omega)
    have hok : OK8 b w (w.alloc (.cells #[.int .i64 kd, .int .i64 nn, .slice a l.length cap] 26)) := OK8.ofAll (below_alloc w _)
    by_cases h2 : kd = 2
    · subst h2
      have HT : Hid (txt (.mk 2 nn l) = Lib.itoa nn) := by show _ = _; rw [txt, if_pos rfl]
      rw [HT.out] at hlen ⊢
      go_enter Tryd.func40, Tryd.ntmps40
      go_wp2_with fail
      generalize w.alloc (.cells #[.int .i64 2, .int .i64 nn, .slice a l.length cap] 26) = w1 at *
      refine (fmtInt nn hnr _ hE1).mono ?_
      rintro e w2 ⟨rfl, hb2⟩
      go_wp2_with fail
      refine (writeS B b l0 ⟨(Lib.itoa nn).toArray⟩ _ (hB1.keepAll hb2) hlen (by have := hb2.size; have := hlo.size; omega)).mono ?_
      rintro e w3 ⟨rfl, hB3, hlo3, hok3⟩
      go_wp2_with fail
      refine bodyPost_ret (results_none rfl _ _ _) rfl ?_
      exact ⟨rfl, hB3, (hlo.trans (hb2.mono (by have := hlo.size; omega))).trans hlo3, (hok.trans (OK8.ofAll hb2)).trans hok3⟩
    · obtain ⟨j, rfl⟩ := Int.eq_ofNat_of_zero_le (show 0 ≤ kd by omega)
      have hj : j < 14 := by omega
      have e2 : ((j : Int) == 2) = false := by rw [beq_eq_false_iff_ne]; exact h2
      by_cases hleaf : (j : Int) = 1 ∨ (j : Int) = 8
      · have HT : Hid (txt (.mk j nn l) = wdl j) := by show _ = _; rw [txt, if_neg h2, if_pos hleaf]; simp
        rw [HT.out] at hlen ⊢
        have hwc := word_cell hE1.words j hj
        go_enter Tryd.func40, Tryd.ntmps40
        have q0 := hbx.c0
        go_wp2_with fail
        generalize w.alloc (.cells #[.int .i64 (j : Int), .int .i64 nn, .slice a l.length cap] 26) = w1 at *
        refine (writeS B b l0 (wdB j) _ hB1 hlen (by have := hlo.size; omega)).mono ?_
        rintro e w2 ⟨rfl, hB2, hlo2, hok2⟩
        have hbx2 := hbx.ok8 hok2 (by omega) (by decide)
        have z0 := hbx2.c0
        have hfin : WEnds B b (l0 ++ wdl j) w (.returned (.tuple #[])) w2 := ⟨rfl, hB2, hlo.trans hlo2, hok.trans hok2⟩
        have HFIN := Lib.hid hfin
        clear hfin hwc q0
        rcases hleaf with h1 | h1
        all_goals
          obtain rfl : j = _ := Int.ofNat_inj.1 h1
          go_wp2_with fail
          refine bodyPost_ret (results_none rfl _ _ _) rfl ?_
          exact HFIN.out
      · have e1 : ((j : Int) == 1) = false := by rw [beq_eq_false_iff_ne]; omega
        have e8 : ((j : Int) == 8) = false := by rw [beq_eq_false_iff_ne]; omega
        cases hnd : numd j
        · have HND := Lib.hid hnd
          clear hnd
          have HT : Hid (txt (.mk j nn l) = wdl j ++ (40 :: (txtL l false ++ [41]))) := by
            show _ = _
            rw [txt, if_neg h2, if_neg hleaf, HND.out]
            rfl
          rw [HT.out] at hlen
          simp only [List.length_append, List.length_cons, List.length_nil] at hlen
          have hwl : (wdB j).size = (wdl j).length := rfl
          have hwc := word_cell hE1.words j hj
          go_enter Tryd.func40, Tryd.ntmps40
          go_wp2_with fail
          have hsz1 := hlo.size
          generalize w.alloc (.cells #[.int .i64 (j : Int), .int .i64 nn, .slice a l.length cap] 26) = w1 at *
          refine (writeS B b l0 (wdB j) _ hB1 (by omega) (by omega)).mono ?_
          rintro e w2 ⟨rfl, hB2, hlo2, hok2⟩
          have hbx2 := hbx.ok8 hok2 (by omega) (by decide)
          have hE2 := hE1.below hlo2 hB5
          have hlo2' := hlo.trans hlo2
          have hok2' := hok.trans hok2
          have hsz2 := hlo2'.size
          clear hbx hB1 hE1 hlo hok hlo2 hok2 hwc
          have z0 := hbx2.c0
          go_wp2_with fail
          refine (writeC B b _ 40 40 (by decide) _ hB2 (by simp only [List.length_append, show (wdB j).data.toList = wdl j from rfl]; omega) (by omega)).mono ?_
          rintro e w3 ⟨rfl, hB3, hlo3, hok3⟩
          have hbx3 := hbx2.ok8 hok3 (by omega) (by decide)
          have hE3 := hE2.below hlo3 hB5
          have hlo3' := hlo2'.trans hlo3
          have hok3' := hok2'.trans hok3
          have hsz3 := hlo3'.size
          clear hbx2 hB2 hE2 hlo2' hok2' hlo3 hok3 z0
          have y0 := hbx3.c0
          go_wp2_with fail
          refine (numbered_any _ _).mono ?_
          rintro e w4 ⟨rfl, rfl⟩
          rw [HND.out]
          have x2 := hbx3.c2
          go_wp2_with fail
          go_loopw [4, 6, 42] (fun cm _ x wr => ∃ (i : Nat) (c : Bool) (done : List UInt8), i ≤ l.length ∧ x = .int .i64 i ∧ cm = .bool c ∧ txtL l false = done ++ txtL (l.drop i) c ∧ IsBl B b ((l0 ++ wdl j ++ [40]) ++ done) wr ∧ Below B w wr ∧ OK8 b w wr ∧ Env wr) (fun _ _ x _ => l.length - (intOf x).toNat)
          case atStart => exact ⟨0, false, [], by omega, rfl, rfl, rfl, by rw [List.append_nil]; exact hB3, hlo3', hok3', hE3⟩
          case round =>
            obtain ⟨i, c, done, hi, rfl, rfl, hq, hBr, hlor, hokr, hEr⟩ := hrel
            have HQ := Lib.hid hq
            have hqlen : (txtL l false).length = done.length + (txtL (l.drop i) c).length := by rw [hq, List.length_append]
            clear hq
            have hszr := hlor.size
            by_cases hlt : i < l.length
            · obtain ⟨kk, n2, ll, g, o, a', cap', hlj, rfl, hg, c0, c1, c2, ht⟩ := hrow.at_ hlt
              have d0 := (hlor.cell (p := ⟨g, o + i * 3, none⟩) hg).trans c0
              have d1 := (hlor.cell (p := ⟨g, o + i * 3 + 1, none⟩) hg).trans c1
              have d2 := (hlor.cell (p := ⟨g, o + i * 3 + 2, none⟩) hg).trans c2
              have hsub : shps (.mk kk n2 ll) = true := by rw [← hlj]; exact shpsL_mem HSL.out (List.getElem_mem hlt)
              have hszk : SizeOf.sizeOf (VT.mk kk n2 ll) ≤ m := by rw [← hlj]; exact sz_lt (List.getElem_mem hlt) hk
              have hstep : txtL (l.drop i) c = (if c then [44] else []) ++ (txt (.mk kk n2 ll) ++ txtL (l.drop (i + 1)) true) := by
                rw [List.drop_eq_getElem_cons hlt, txtL, hlj]
              have hsl : (txtL (l.drop i) c).length = (if c then [44] else ([] : List UInt8)).length + ((txt (.mk kk n2 ll)).length + (txtL (l.drop (i + 1)) true).length) := by rw [hstep]; simp only [List.length_append]
              have HS := Lib.hid hstep
              clear hstep hlj c0 c1 c2
              have htr := ht.below hlor
              have hbn := Bx.new wr 26 (.int .i64 kk) (.int .i64 n2) (.slice a' ll.length cap')
              have hBn := hBr.keepAll (below_alloc wr (.cells #[.int .i64 kk, .int .i64 n2, .slice a' ll.length cap'] 26))
              have hEn := hEr.belowAll (below_alloc wr (.cells #[.int .i64 kk, .int .i64 n2, .slice a' ll.length cap'] 26))
              have hlon := hlor.trans ((below_alloc wr (.cells #[.int .i64 kk, .int .i64 n2, .slice a' ll.length cap'] 26)).mono (by omega))
              have hokn := hokr.trans (OK8.ofAll (below_alloc wr (.cells #[.int .i64 kk, .int .i64 n2, .slice a' ll.length cap'] 26)))
              have htn := htr.below ((below_alloc wr (.cells #[.int .i64 kk, .int .i64 n2, .slice a' ll.length cap'] 26)).mono (by omega : B ≤ wr.heap.size))
              have hblt := hBr.lt
              cases c
              · simp only [Bool.false_eq_true, if_false, List.length_nil] at hsl
                go_wp2_with fail
                generalize wr.alloc (.cells #[.int .i64 kk, .int .i64 n2, .slice a' ll.length cap'] 26) = wn at *
                refine (HI.out (.mk kk n2 ll) _ B b _ _ hszk htn hsub hBn (by simp only [List.length_append, List.length_cons, List.length_nil] at hlen ⊢; omega) hB5 hEn).mono ?_
                rintro e w8 ⟨rfl, hB8, hlo8, hok8⟩
                go_wp2_with fail
                go_roundw
                case rel =>
                  refine ⟨i + 1, true, done ++ txt (.mk kk n2 ll), by omega, by go_num, rfl, ?_, ?_, hlon.trans hlo8, hokn.trans hok8, hEn.below hlo8 hB5⟩
                  · rw [HQ.out, HS.out]; simp
                  · rw [← List.append_assoc]; exact hB8
                case measure => simp [intOf]; omega
              · simp only [if_true, List.length_cons, List.length_nil] at hsl
                go_wp2_with fail
                have hsn : B ≤ (wr.alloc (.cells #[.int .i64 kk, .int .i64 n2, .slice a' ll.length cap'] 26)).heap.size := by simp; omega
                generalize wr.alloc (.cells #[.int .i64 kk, .int .i64 n2, .slice a' ll.length cap'] 26) = wn at *
                refine (writeC B b _ 44 44 (by decide) _ hBn (by simp only [List.length_append, List.length_cons, List.length_nil] at hlen ⊢; omega) hsn).mono ?_
                rintro e w7 ⟨rfl, hB7, hlo7, hok7⟩
                have hb7 := hbn.ok8 hok7 (by omega) (by decide)
                have b0 := hb7.c0
                have b1 := hb7.c1
                have b2 := hb7.c2
                go_wp2_with fail
                refine (HI.out (.mk kk n2 ll) _ B b _ _ hszk (htn.below hlo7) hsub hB7 (by simp only [List.length_append, List.length_cons, List.length_nil] at hlen ⊢; omega) hB5 (hEn.below hlo7 hB5)).mono ?_
                rintro e w8 ⟨rfl, hB8, hlo8, hok8⟩
                go_wp2_with fail
                go_roundw
                case rel =>
                  refine ⟨i + 1, true, done ++ [44] ++ txt (.mk kk n2 ll), by omega, by go_num, rfl, ?_, ?_, (hlon.trans hlo7).trans hlo8, (hokn.trans hok7).trans hok8, (hEn.below hlo7 hB5).below hlo8 hB5⟩
                  · rw [HQ.out, HS.out]; simp
                  · have e9 : (l0 ++ wdl j ++ [40]) ++ (done ++ [44] ++ txt (.mk kk n2 ll)) = (l0 ++ wdl j ++ [40]) ++ done ++ [44] ++ txt (.mk kk n2 ll) := by simp only [List.append_assoc]
                    rw [e9]; exact hB8
                case measure => simp [intOf]; omega
            · have hnil : txtL (l.drop i) c = [] := by rw [List.drop_of_length_le (by omega), txtL]
              rw [hnil] at hqlen
              have HN := Lib.hid hnil
              clear hnil
              go_wp2_with fail
              refine (writeC B b _ 41 41 (by decide) _ hBr (by simp only [List.length_append, List.length_cons, List.length_nil] at hlen hqlen ⊢; omega) (by omega)).mono ?_
              rintro e w9 ⟨rfl, hB9, hlo9, hok9⟩
              go_wp2_with fail
              go_end0
              refine ⟨rfl, ?_, hlor.trans hlo9, hokr.trans hok9⟩
              rw [HT.out]
              have e9 : l0 ++ (wdl j ++ 40 :: (txtL l false ++ [41])) = (l0 ++ wdl j ++ [40]) ++ done ++ [41] := by
                rw [HQ.out, HN.out]; simp
              rw [e9]; exact hB9
        · have HND := Lib.hid hnd
          clear hnd
          have HT : Hid (txt (.mk j nn l) = wdl j ++ (40 :: (Lib.itoa nn ++ (txtL l true ++ [41])))) := by
            show _ = _
            rw [txt, if_neg h2, if_neg hleaf, HND.out]
            rfl
          rw [HT.out] at hlen
          simp only [List.length_append, List.length_cons, List.length_nil] at hlen
          have hwl : (wdB j).size = (wdl j).length := rfl
          have hwc := word_cell hE1.words j hj
          go_enter Tryd.func40, Tryd.ntmps40
          go_wp2_with fail
          have hsz1 := hlo.size
          generalize w.alloc (.cells #[.int .i64 (j : Int), .int .i64 nn, .slice a l.length cap] 26) = w1 at *
          refine (writeS B b l0 (wdB j) _ hB1 (by omega) (by omega)).mono ?_
          rintro e w2 ⟨rfl, hB2, hlo2, hok2⟩
          have hbx2 := hbx.ok8 hok2 (by omega) (by decide)
          have hE2 := hE1.below hlo2 hB5
          have hlo2' := hlo.trans hlo2
          have hok2' := hok.trans hok2
          have hsz2 := hlo2'.size
          clear hbx hB1 hE1 hlo hok hlo2 hok2 hwc
          have z0 := hbx2.c0
          go_wp2_with fail
          refine (writeC B b _ 40 40 (by decide) _ hB2 (by simp only [List.length_append, show (wdB j).data.toList = wdl j from rfl]; omega) (by omega)).mono ?_
          rintro e w3 ⟨rfl, hB3, hlo3, hok3⟩
          have hbx3 := hbx2.ok8 hok3 (by omega) (by decide)
          have hE3 := hE2.below hlo3 hB5
          have hlo3' := hlo2'.trans hlo3
          have hok3' := hok2'.trans hok3
          have hsz3 := hlo3'.size
          clear hbx2 hB2 hE2 hlo2' hok2' hlo3 hok3 z0
          have y0 := hbx3.c0
          go_wp2_with fail
          refine (numbered_any _ _).mono ?_
          rintro e w4 ⟨rfl, rfl⟩
          rw [HND.out]
          have x1 := hbx3.c1
          go_wp2_with fail
          refine (fmtInt nn hnr _ hE3).mono ?_
          rintro e w5 ⟨rfl, hb5⟩
          go_wp2_with fail
          refine (writeS B b _ ⟨(Lib.itoa nn).toArray⟩ _ (hB3.keepAll hb5) (by simp only [List.length_append, List.length_cons, List.length_nil, show (wdB j).data.toList = wdl j from rfl] at hlen ⊢; show _ + (Lib.itoa nn).length ≤ _; omega) (by have := hb5.size; omega)).mono ?_
          rintro e w6 ⟨rfl, hB6, hlo6, hok6⟩
          have hbx6 := (hbx3.belowAll hb5).ok8 hok6 (by omega) (by decide)
          have hE6 := (hE3.belowAll hb5).below hlo6 hB5
          have hlo6' := (hlo3'.trans (hb5.mono (by omega))).trans hlo6
          have hok6' := (hok3'.trans (OK8.ofAll hb5)).trans hok6
          have hsz6 := hlo6'.size
          clear hbx3 hB3 hE3 hlo3' hok3' hb5 hlo6 hok6 y0 x1
          have x2 := hbx6.c2
          go_wp2_with fail
          go_loopw [4, 6, 42] (fun cm _ x wr => ∃ (i : Nat) (c : Bool) (done : List UInt8), i ≤ l.length ∧ x = .int .i64 i ∧ cm = .bool c ∧ txtL l true = done ++ txtL (l.drop i) c ∧ IsBl B b ((l0 ++ wdl j ++ [40] ++ Lib.itoa nn) ++ done) wr ∧ Below B w wr ∧ OK8 b w wr ∧ Env wr) (fun _ _ x _ => l.length - (intOf x).toNat)
          case atStart => exact ⟨0, true, [], by omega, rfl, rfl, rfl, by rw [List.append_nil]; exact hB6, hlo6', hok6', hE6⟩
          case round =>
            obtain ⟨i, c, done, hi, rfl, rfl, hq, hBr, hlor, hokr, hEr⟩ := hrel
            have HQ := Lib.hid hq
            have hqlen : (txtL l true).length = done.length + (txtL (l.drop i) c).length := by rw [hq, List.length_append]
            clear hq
            have hszr := hlor.size
            by_cases hlt : i < l.length
            · obtain ⟨kk, n2, ll, g, o, a', cap', hlj, rfl, hg, c0, c1, c2, ht⟩ := hrow.at_ hlt
              have d0 := (hlor.cell (p := ⟨g, o + i * 3, none⟩) hg).trans c0
              have d1 := (hlor.cell (p := ⟨g, o + i * 3 + 1, none⟩) hg).trans c1
              have d2 := (hlor.cell (p := ⟨g, o + i * 3 + 2, none⟩) hg).trans c2
              have hsub : shps (.mk kk n2 ll) = true := by rw [← hlj]; exact shpsL_mem HSL.out (List.getElem_mem hlt)
              have hszk : SizeOf.sizeOf (VT.mk kk n2 ll) ≤ m := by rw [← hlj]; exact sz_lt (List.getElem_mem hlt) hk
              have hstep : txtL (l.drop i) c = (if c then [44] else []) ++ (txt (.mk kk n2 ll) ++ txtL (l.drop (i + 1)) true) := by
                rw [List.drop_eq_getElem_cons hlt, txtL, hlj]
              have hsl : (txtL (l.drop i) c).length = (if c then [44] else ([] : List UInt8)).length + ((txt (.mk kk n2 ll)).length + (txtL (l.drop (i + 1)) true).length) := by rw [hstep]; simp only [List.length_append]
              have HS := Lib.hid hstep
              clear hstep hlj c0 c1 c2
              have htr := ht.below hlor
              have hbn := Bx.new wr 26 (.int .i64 kk) (.int .i64 n2) (.slice a' ll.length cap')
              have hBn := hBr.keepAll (below_alloc wr (.cells #[.int .i64 kk, .int .i64 n2, .slice a' ll.length cap'] 26))
              have hEn := hEr.belowAll (below_alloc wr (.cells #[.int .i64 kk, .int .i64 n2, .slice a' ll.length cap'] 26))
              have hlon := hlor.trans ((below_alloc wr (.cells #[.int .i64 kk, .int .i64 n2, .slice a' ll.length cap'] 26)).mono (by omega))
              have hokn := hokr.trans (OK8.ofAll (below_alloc wr (.cells #[.int .i64 kk, .int .i64 n2, .slice a' ll.length cap'] 26)))
              have htn := htr.below ((below_alloc wr (.cells #[.int .i64 kk, .int .i64 n2, .slice a' ll.length cap'] 26)).mono (by omega : B ≤ wr.heap.size))
              have hblt := hBr.lt
              cases c
              · simp only [Bool.false_eq_true, if_false, List.length_nil] at hsl
                go_wp2_with fail
                generalize wr.alloc (.cells #[.int .i64 kk, .int .i64 n2, .slice a' ll.length cap'] 26) = wn at *
                refine (HI.out (.mk kk n2 ll) _ B b _ _ hszk htn hsub hBn (by simp only [List.length_append, List.length_cons, List.length_nil] at hlen ⊢; omega) hB5 hEn).mono ?_
                rintro e w8 ⟨rfl, hB8, hlo8, hok8⟩
                go_wp2_with fail
                go_roundw
                case rel =>
                  refine ⟨i + 1, true, done ++ txt (.mk kk n2 ll), by omega, by go_num, rfl, ?_, ?_, hlon.trans hlo8, hokn.trans hok8, hEn.below hlo8 hB5⟩
                  · rw [HQ.out, HS.out]; simp
                  · rw [← List.append_assoc]; exact hB8
                case measure => simp [intOf]; omega
              · simp only [if_true, List.length_cons, List.length_nil] at hsl
                go_wp2_with fail
                have hsn : B ≤ (wr.alloc (.cells #[.int .i64 kk, .int .i64 n2, .slice a' ll.length cap'] 26)).heap.size := by simp; omega
                generalize wr.alloc (.cells #[.int .i64 kk, .int .i64 n2, .slice a' ll.length cap'] 26) = wn at *
                refine (writeC B b _ 44 44 (by decide) _ hBn (by simp only [List.length_append, List.length_cons, List.length_nil] at hlen ⊢; omega) hsn).mono ?_
                rintro e w7 ⟨rfl, hB7, hlo7, hok7⟩
                have hb7 := hbn.ok8 hok7 (by omega) (by decide)
                have b0 := hb7.c0
                have b1 := hb7.c1
                have b2 := hb7.c2
                go_wp2_with fail
                refine (HI.out (.mk kk n2 ll) _ B b _ _ hszk (htn.below hlo7) hsub hB7 (by simp only [List.length_append, List.length_cons, List.length_nil] at hlen ⊢; omega) hB5 (hEn.below hlo7 hB5)).mono ?_
                rintro e w8 ⟨rfl, hB8, hlo8, hok8⟩
                go_wp2_with fail
                go_roundw
                case rel =>
                  refine ⟨i + 1, true, done ++ [44] ++ txt (.mk kk n2 ll), by omega, by go_num, rfl, ?_, ?_, (hlon.trans hlo7).trans hlo8, (hokn.trans hok7).trans hok8, (hEn.below hlo7 hB5).below hlo8 hB5⟩
                  · rw [HQ.out, HS.out]; simp
                  · have e9 : (l0 ++ wdl j ++ [40] ++ Lib.itoa nn) ++ (done ++ [44] ++ txt (.mk kk n2 ll)) = (l0 ++ wdl j ++ [40] ++ Lib.itoa nn) ++ done ++ [44] ++ txt (.mk kk n2 ll) := by simp only [List.append_assoc]
                    rw [e9]; exact hB8
                case measure => simp [intOf]; omega
            · have hnil : txtL (l.drop i) c = [] := by rw [List.drop_of_length_le (by omega), txtL]
              rw [hnil] at hqlen
              have HN := Lib.hid hnil
              clear hnil
              go_wp2_with fail
              refine (writeC B b _ 41 41 (by decide) _ hBr (by simp only [List.length_append, List.length_cons, List.length_nil] at hlen hqlen ⊢; omega) (by omega)).mono ?_
              rintro e w9 ⟨rfl, hB9, hlo9, hok9⟩
              go_wp2_with fail
              go_end0
              refine ⟨rfl, ?_, hlor.trans hlo9, hokr.trans hok9⟩
              rw [HT.out]
              have e9 : l0 ++ (wdl j ++ 40 :: (Lib.itoa nn ++ (txtL l true ++ [41]))) = (l0 ++ wdl j ++ [40] ++ Lib.itoa nn) ++ done ++ [41] := by
                rw [HQ.out, HN.out]; simp
              rw [e9]; exact hB9
end Go.Proofs.YtkahboomahhdoaaDoor
