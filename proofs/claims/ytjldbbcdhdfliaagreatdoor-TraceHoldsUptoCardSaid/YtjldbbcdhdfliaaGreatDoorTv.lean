/-
  Walks over package trace: Write. Printed by gen_tv.py.
-/
import Derived.Test.YtjldbbcdhdfliaaGreatDoorTtTu
namespace Go.Proofs.YtjldbbcdhdfliaaGreatDoor
open Go.RowKit Go.Sort

theorem conv_nil (w : World) : (convert 55 9 (.slice none 0 0)).run Tryz.prog w = .ok (.string ⟨([] : List UInt8).toArray⟩) w := by kernel_rfl
/-- A trace's text. -/
def wrL : List Ev → List UInt8
  | [] => []
  | x :: r => textE x ++ 10 :: wrL r
theorem rowT_len {x : Ev} : ∀ l : List Nat, (∀ i ∈ l, (fldT x i).length ≤ 10300) → (rowT x l).length ≤ 10301 * l.length
  | [], _ => by simp [rowT]
  | i :: r, h => by
    have h1 := h i (by simp)
    have h2 := rowT_len r fun j hj => h j (by simp [hj])
    rw [rowT]
    simp
    omega
theorem textE_len {x : Ev} (hr : rightE x = true) (hg : RngE x) (hv : AllR x.v) : (textE x).length ≤ 60000 := by
  have hll := row_len x.k
  have h1 := Lib.itoa_length_le x.st hg.st.1 hg.st.2
  have h2 := Lib.itoa_length_le x.th hg.th.1 hg.th.2
  have hw := wordE_size x.k
  have hw2 : (wordE x.k).data.toList.length = (wordE x.k).size := by simp
  have h3 := rowT_len (x := x) (rowE x.k) (fun i hi => by
    have h5 := row_lt x.k i hi
    unfold fldT
    by_cases h4 : i = 4
    · subst h4
      rw [if_pos rfl]
      have h6 := right_len (right_val hr hi) hv
      omega
    · rw [if_neg h4]
      split
      · simp
      · have h8 : Rng (x.fld i) := by
          match i, h5, h4 with
          | 0, _, _ => exact hg.sy
          | 1, _, _ => exact hg.br
          | 2, _, _ => exact hg.pa
          | 3, _, _ => exact hg.n
          | 4, _, h => exact absurd rfl h
          | n + 5, h, _ => exact absurd h (by omega)
        have := Lib.itoa_length_le (x.fld i) h8.1 h8.2
        omega)
  unfold textE
  simp only [List.length_append, List.length_cons]
  omega
set_option maxRecDepth 100000 in
set_option maxHeartbeats 1000000 in
theorem writeD_fault (sb eb : Nat) (vs ve : Value) (older : List PanicEntry) (w : World) (hs : B1 w sb 9 vs) (he : B1 w eb 30 ve) (hne : sb ≠ eb) :
    CallsD Tryz.prog 46 #[.pointer (some ⟨eb, 0, none⟩), .pointer (some ⟨sb, 0, none⟩)] (.panicking (FaultE false :: older)) w fun e u' w' =>
      e = .returned (.tuple #[]) ∧ u' = .panicking (FaultE true :: older) ∧ B1 w' sb 9 (.string ⟨#[]⟩) ∧ B1 w' eb 30 (.int .i64 230) ∧ ∀ B, B ≤ sb → B ≤ eb → B ≤ w.heap.size → Below B w w' := by
  unfold FaultE
  refine callsD_of_wpS Tryz.func46 rfl fun c₀ cs hu => ?_
  apply wpS_seq
  apply wpS_region
  simp [wpOpsS, go_sem, recoverD, hu, Tryz.ntmps46, Exit.thenS]
  refine (catch_fault eb ve w he).mono ?_
  rintro e w1 ⟨rfl, he1, hg1⟩
  have hs1 := hs.gr hg1 hne
  have c0 := he1.c
  have c1 := hs1.c
  have f1 := hs1.fz
  refine wpS_of_wp ?_
  simp only [Array.replicate_succ, Array.replicate_zero, List.push_toArray, List.append_toArray, List.nil_append, List.cons_append, List.setIfInBounds_toArray, List.set_cons_succ, List.set_cons_zero]
  go_wp2_with fail
  refine ⟨rfl, _, rfl, .tuple #[], results_none rfl _ _ _, rfl, rfl, hs1.set _, he1.far (fun e => hne e.symm) _, fun B h1 h2 h3 => ?_⟩
  exact (hg1.belowOf h2 h3).setCell (p := ⟨sb, 0, none⟩) h1 _
set_option maxRecDepth 100000 in
set_option maxHeartbeats 1000000 in
theorem writeD_none (sb eb : Nat) (w : World) (he : B1 w eb 30 (.int .i64 0)) :
    CallsD Tryz.prog 46 #[.pointer (some ⟨eb, 0, none⟩), .pointer (some ⟨sb, 0, none⟩)] .returning w fun e u' w' => e = .returned (.tuple #[]) ∧ u' = .returning ∧ w' = w := by
  refine callsD_of_wpS Tryz.func46 rfl fun c₀ cs hu => ?_
  apply wpS_seq
  apply wpS_region
  simp [wpOpsS, go_sem, recoverD, hu, Tryz.ntmps46, Exit.thenS]
  refine (catch_nil _ w).mono ?_
  rintro e w1 ⟨rfl, rfl⟩
  have c0 := he.c
  refine wpS_of_wp ?_
  simp only [Array.replicate_succ, Array.replicate_zero, List.push_toArray, List.append_toArray, List.nil_append, List.cons_append, List.setIfInBounds_toArray, List.set_cons_succ, List.set_cons_zero]
  go_wp2_with fail
  cases c₀
  refine ⟨rfl, _, rfl, .tuple #[], results_none rfl _ _ _, rfl, ?_, rfl⟩
  exact hu
/-- What stands in Write. -/
structure WrI (sb eb b mb lo : Nat) (w W : World) (v : Value) (L : List UInt8) : Prop where
  sc : B1 W sb 9 (.string ⟨#[]⟩)
  ec : B1 W eb 30 (.int .i64 0)
  row : Byt lo W v L
  tt : TabT W b mb
  bd : Below w.heap.size w W
  en : Env W
  le : lo ≤ W.heap.size
  o0 : w.heap.size = sb
  o1 : sb + 1 = eb
  o2 : eb < b
  o3 : eb < mb
  o4 : b < lo
  o5 : mb < lo
  o9 : 5 ≤ w.heap.size
section
variable {sb eb b mb lo : Nat} {w W W1 W' : World} {v v' : Value} {L L' : List UInt8}
theorem WrI.below (h : WrI sb eb b mb lo w W v L) (hb : Below W.heap.size W W') : WrI sb eb b mb lo w W' v L :=
  ⟨h.sc.belowAll hb, h.ec.belowAll hb, h.row.below hb, h.tt.belowAll hb, h.bd.trans (hb.mono h.bd.size), h.en.below (hb.mono (B' := w.heap.size) h.bd.size) h.o9, Nat.le_trans h.le hb.size, h.o0, h.o1, h.o2, h.o3, h.o4, h.o5, h.o9⟩
theorem WrI.next (h : WrI sb eb b mb lo w W v L) (hk : Kp lo W W1) (hr : Byt lo W1 v' L') : WrI sb eb b mb lo w W1 v' L' := by
  have e0 := h.o0
  have e1 := h.o1
  have e2 := h.o2
  have e3 := h.o3
  have e4 := h.o4
  have e5 := h.o5
  have hs1 : B1 W1 sb 9 (.string ⟨#[]⟩) := hk.k _ _ _ _ h.sc (by decide)
  have he1 : B1 W1 eb 30 (.int .i64 0) := hk.k _ _ _ _ h.ec (by decide)
  have hbw : Below w.heap.size W W1 := hk.b.mono (by omega)
  exact ⟨hs1, he1, hr, ⟨(hk.b.block b h.o4).trans h.tt.c, h.tt.m.block (hk.b.block mb h.o5)⟩, h.bd.trans hbw, h.en.below hbw h.o9, Nat.le_trans h.le hk.size, h.o0, h.o1, h.o2, h.o3, h.o4, h.o5, h.o9⟩
end
/-- What Write hands back. -/
def wrV (l : List Ev) : Value := match firstW l with
  | none => .tuple #[.string ⟨(wrL l).toArray⟩, .int .i64 0]
  | some _ => .tuple #[.string ⟨#[]⟩, .int .i64 230]
set_option maxRecDepth 100000 in
set_option maxHeartbeats 8000000 in
theorem TWrite_any (l : List Ev) (hll : l.length ≤ 1000) (a : Option Addr) (cap : Nat) (w : World) (hE : IsEs (· < w.heap.size) w l a) (hEn : Env w) : Calls Tryz.prog 16 #[.slice a l.length cap] w fun e w' => e = .returned (wrV l) ∧ Below w.heap.size w w' := by
  have hmf : ∀ (fn : Fn) (first cap : Array Value) (w : World), (Instr.makeFunc fn first cap).run Tryz.prog w = .ok (.func fn first cap) w := fun _ _ _ _ => rfl
  have h0 : Below w.heap.size w ((w.alloc (.cells #[.string ⟨#[]⟩] 9)).alloc (.cells #[.int .i64 0] 30)) := (below_alloc _ _).alloc (by simp) _
  have s1 : (w.alloc (.cells #[.string ⟨#[]⟩] 9)).heap.size = w.heap.size + 1 := by simp
  have hb0 := (B1.new w 9 (.string ⟨#[]⟩)).alloc (.cells #[.int .i64 0] 30)
  have he0 := B1.new (w.alloc (.cells #[.string ⟨#[]⟩] 9)) 30 (.int .i64 0)
  rw [s1] at he0
  clear s1
  obtain ⟨C, hC⟩ : ∃ C, wrV l = C := ⟨_, rfl⟩
  have HC := Lib.hid hC
  rw [hC]
  clear hC
  obtain ⟨r, hr⟩ : ∃ r, firstW l = r := ⟨_, rfl⟩
  have HR := Lib.hid hr
  clear hr
  go_enter_defers Tryz.func16, Tryz.ntmps16
  go_wp2_with fail
  generalize (w.alloc (.cells #[.string ⟨#[]⟩] 9)).alloc (.cells #[.int .i64 0] 30) = w1 at *
  refine (tables_any _).mono ?_
  rintro e w2 ⟨b, mb, rfl, hb1, hb2, hT, hb3⟩
  have hbw := h0.trans (hb3.mono h0.size)
  have hb02 := hb0.belowAll hb3
  have he02 := he0.belowAll hb3
  have hlt0 := he0.lt
  clear h0 hb3 hb0 he0
  go_wp2_with fail
  refine (check_any l (by omega) a cap b mb _ hT (hE.later hbw)).mono ?_
  rw [HR.out]
  rintro e w3 ⟨rfl, hb4⟩
  have hI0 : WrI w.heap.size (w.heap.size + 1) b mb w3.heap.size w w3 (.slice none 0 0) [] :=
    ⟨hb02.belowAll hb4, he02.belowAll hb4, Byt.nil _ _, hT.belowAll hb4, hbw.trans (hb4.mono hbw.size), hEn.below (hbw.trans (hb4.mono hbw.size)) hEn.size, Nat.le_refl _, rfl, rfl, by omega, by omega, Nat.lt_of_lt_of_le hT.lt hb4.size, Nat.lt_of_lt_of_le hT.m.lt hb4.size, hEn.size⟩
  clear hbw hb02 he02 hT hb4 hb1 hb2
  cases r with
  | some k =>
    obtain rfl : C = .tuple #[.string ⟨#[]⟩, .int .i64 230] := by
      rw [← HC.out]
      unfold wrV
      rw [HR.out]
    simp only [chkV]
    go_wp2_with fail
    refine (raise_any _).mono ?_
    rintro e w4 ⟨rfl, rfl⟩
    show bodyPostD _ _ _ _ _ _
    refine leaves_cons (f := 46) (args := #[.pointer (some ⟨w.heap.size + 1, 0, none⟩), .pointer (some ⟨w.heap.size, 0, none⟩)]) (by simp) (by simp [go_sem]) ?_
    refine (writeD_fault w.heap.size (w.heap.size + 1) _ _ [] _ hI0.sc hI0.ec (by omega)).mono ?_
    rintro e u' w5 ⟨rfl, rfl, hb5, he5, hbb⟩
    refine ⟨.tuple #[.string ⟨#[]⟩, .int .i64 230], by simp [results, Tryz.results16, go_sem, hb5.c, he5.c], ?_⟩
    exact ⟨rfl, hI0.bd.trans (hbb _ (Nat.le_refl _) (by omega) hI0.bd.size)⟩
  | none =>
    have HC2 : Hid (C = .tuple #[.string ⟨(wrL l).toArray⟩, .int .i64 0]) := by
      show _ = _
      rw [← HC.out]
      unfold wrV
      rw [HR.out]
    simp only [chkV]
    generalize w3.heap.size = lo at hI0
    go_wp2_with fail
    go_loopw [7, 22] (fun bv i wr => ∃ (j : Nat) (v : Value) (L : List UInt8), bv = v ∧ i = .int .i64 (j : Nat) ∧ j ≤ l.length ∧ WrI w.heap.size (w.heap.size + 1) b mb lo w wr v L ∧ L ++ wrL (l.drop j) = wrL l ∧ (j = 0 → v = .slice none 0 0) ∧ (0 < j → L ≠ []) ∧ L.length ≤ 60001 * j) (fun _ i _ => l.length - (intOf i).toNat)
    case atStart => exact ⟨0, _, [], rfl, rfl, Nat.zero_le _, hI0, rfl, fun _ => rfl, fun h => by omega, by simp⟩
    case round =>
      clear hI0
      obtain ⟨j, v, L, rfl, rfl, hj, hI, hLe, hj0, hjp, hLl⟩ := hrel
      obtain ⟨va, vn, vc, rfl⟩ := hI.row.form
      have HLE := Lib.hid hLe
      have HJ0 := Lib.hid hj0
      have HJP := Lib.hid hjp
      clear hLe hj0 hjp
      by_cases hlt : j < l.length
      · have hd1 : decide (j < l.length) = true := by simpa using hlt
        obtain ⟨x, hx⟩ : ∃ x, l[j]? = some x := ⟨l[j], List.getElem?_eq_getElem hlt⟩
        have hrx := right_of_none HR.out hx
        obtain ⟨g, o, kk, nn, a2, len2, cap2, ha, hg, hcel, hv, hrg⟩ := hE j x hx
        subst ha
        have hbd := hI.bd
        have hcW : ∀ i u, (evC x kk nn a2 len2 cap2)[i]? = some u → wr.cell? ⟨g, o + j * 10 + i, none⟩ = some u := fun i u hi => (hbd.cell (p := ⟨g, o + j * 10 + i, none⟩) hg).trans (hcel i u hi)
        have e0 : wr.cell? ⟨g, o + j * 10, none⟩ = some (.int .i64 x.k) := hcW 0 (.int .i64 x.k) rfl
        have e1 := hcW 1 (.int .i64 x.st) rfl
        have e2 := hcW 2 (.int .i64 x.th) rfl
        have e3 := hcW 3 (.int .i64 x.sy) rfl
        have e4 := hcW 4 (.int .i64 x.br) rfl
        have e5 := hcW 5 (.int .i64 x.pa) rfl
        have e6 := hcW 6 (.int .i64 x.n) rfl
        have e7 := hcW 7 (.int .i64 kk) rfl
        have e8 := hcW 8 (.int .i64 nn) rfl
        have e9 := hcW 9 (.slice a2 len2 cap2) rfl
        have HB : Hid ((textE x).length ≤ 60000) := textE_len hrx.1 hrg hv.rng
        have HRX := Lib.hid hrx.1
        have HDR : Hid (l.drop j = x :: l.drop (j + 1)) := by
          show _ = _
          rw [List.drop_eq_getElem_cons hlt]
          congr 1
          have := List.getElem?_eq_getElem hlt
          rw [hx] at this
          injection this with this
          exact this.symm
        have hI2 := hI.below (below_alloc wr (.cells #[.int .i64 x.k, .int .i64 x.st, .int .i64 x.th, .int .i64 x.sy, .int .i64 x.br, .int .i64 x.pa, .int .i64 x.n, .int .i64 kk, .int .i64 nn, .slice a2 len2 cap2] 29))
        have hbe : BE (wr.alloc (.cells #[.int .i64 x.k, .int .i64 x.st, .int .i64 x.th, .int .i64 x.sy, .int .i64 x.br, .int .i64 x.pa, .int .i64 x.n, .int .i64 kk, .int .i64 nn, .slice a2 len2 cap2] 29)) wr.heap.size #[.int .i64 x.k, .int .i64 x.st, .int .i64 x.th, .int .i64 x.sy, .int .i64 x.br, .int .i64 x.pa, .int .i64 x.n, .int .i64 kk, .int .i64 nn, .slice a2 len2 cap2] := heap_alloc_new _ _
        have hbw2 := hI2.bd
        have hxlt := hI.le
        clear hx hrx hcel hcW hI hbd hg
        go_upto_region 10 with fail
        clear e0 e1 e2 e3 e4 e5 e6 e7 e8 e9
        generalize wr.alloc (.cells #[.int .i64 x.k, .int .i64 x.st, .int .i64 x.th, .int .i64 x.sy, .int .i64 x.br, .int .i64 x.pa, .int .i64 x.n, .int .i64 kk, .int .i64 nn, .slice a2 len2 cap2] 29) = w4 at *
        generalize wr.heap.size = xb at *
        obtain ⟨c0, c1, c2, c3, c4, c5, c6, c7, c8, c9⟩ := hbe.c
        have o1 := hI2.o1
        have o2 := hI2.o2
        have o4 := hI2.o4
        have o0 := hI2.o9
        have hLL : L.length ≤ 10000000000 := by omega
        go_wp2_with fail
        refine (ttext_any lo b mb x _ _ L _ hI2.tt hI2.o4 hI2.o5 ⟨kk, nn, a2, len2, cap2, rfl, (hv.below hbw2).more fun g hg => by omega, hrg⟩ hI2.row hI2.le (by omega) hLL hI2.en HRX.out).mono ?_
        rintro e w5 ⟨v5, rfl, hb5, hk5⟩
        have hI5 := hI2.next hk5 hb5
        obtain ⟨va5, vn5, vc5, rfl⟩ := hb5.form
        clear hI2 hbe hb5 hk5 hbw2 c0 c1 c2 c3 c4 c5 c6 c7 c8 c9
        have hI6 := hI5.below (below_alloc w5 (.cells #[.int .u8 10] 5))
        have hTL : (L ++ textE x).length ≤ 100000000000 := by have := HB.out; simp; omega
        have hle6 := hI6.le
        clear hI5
        go_wp2_with (at_builtin; refine wpList_app1 _ rfl (.tmp 29) (.tmp 30) rfl lo _ (L ++ textE x) rfl hI6.row _ 10 rfl (heap_alloc_new _ _) hTL hle6 ?_; intro v7 w7 hb7 hk7)
        have hI7 := hI6.next hk7 hb7
        clear hI6 hb7 hk7
        go_roundw
        case rel => first | exact ⟨j + 1, _, L ++ textE x ++ [10], rfl, by go_num, by omega, hI7, by rw [← HLE.out, HDR.out, wrL]; simp, fun h => by omega, fun _ => by simp, by have := HB.out; simp; omega⟩ | ((repeat apply Exists.intro); exact ⟨⟨j + 1, _, L ++ textE x ++ [10], rfl, by go_num, by omega, hI7, by rw [← HLE.out, HDR.out, wrL]; simp, fun h => by omega, fun _ => by simp, by have := HB.out; simp; omega⟩, rfl⟩)
        case measure => simp [intOf]; omega
      · have hd1 : decide (j < l.length) = false := by simpa using hlt
        obtain rfl : j = l.length := by omega
        have HL : Hid (L = wrL l) := by
          have := HLE.out
          rw [List.drop_length, wrL, List.append_nil] at this
          exact this
        have hcv : (convert 55 9 (.slice va vn vc)).run Tryz.prog wr = .ok (.string ⟨L.toArray⟩) wr := by
          rcases Nat.eq_zero_or_pos l.length with h0 | hp
          · have h1 := HJ0.out h0
            rw [h1]
            have h2 : L = [] := by rw [HL.out, List.eq_nil_of_length_eq_zero h0]; rfl
            rw [h2]
            exact conv_nil wr
          · exact hI.row.conv (HJP.out hp)
        have c0 := hI.sc.c
        have f0 := hI.sc.fz 0
        have c1 := hI.ec.c
        have f1 := hI.ec.fz 0
        have o2 := hI.o2
        have hs9 := (hI.sc.set (.string ⟨L.toArray⟩)).far (q := ⟨w.heap.size + 1, 0, none⟩) (by simp) (.int .i64 0)
        have he9 := (hI.ec.far (q := ⟨w.heap.size, 0, none⟩) (by simp) (.string ⟨L.toArray⟩)).set (.int .i64 0)
        have hbd9 := (hI.bd.setCell (p := ⟨w.heap.size, 0, none⟩) (Nat.le_refl _) (.string ⟨L.toArray⟩)).setCell (p := ⟨w.heap.size + 1, 0, none⟩) (by simp) (.int .i64 0)
        obtain ⟨S, hS⟩ : ∃ S : ByteArray, (⟨L.toArray⟩ : ByteArray) = S := ⟨_, rfl⟩
        rw [hS] at hcv hs9 he9 hbd9
        obtain rfl : C = .tuple #[.string S, .int .i64 0] := by rw [HC2.out, ← hS, HL.out]
        clear hI hS
        go_wp2_with fail
        show bodyPostD Tryz.prog Tryz.f16 _ .ret _ _
        refine leaves_cons (f := 46) (args := #[.pointer (some ⟨w.heap.size + 1, 0, none⟩), .pointer (some ⟨w.heap.size, 0, none⟩)]) (by simp) (by simp [go_sem]) ?_
        refine (writeD_none w.heap.size (w.heap.size + 1) _ he9).mono ?_
        rintro e u' w11 ⟨rfl, rfl, rfl⟩
        refine ⟨.tuple #[.string S, .int .i64 0], by simp [results, Tryz.results16, go_sem, hs9.c, he9.c], ?_⟩
        exact ⟨rfl, hbd9⟩
end Go.Proofs.YtjldbbcdhdfliaaGreatDoor
