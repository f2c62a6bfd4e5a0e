/-
  Walks over the reference of layer 23: Read. Printed by gen_ug.py.
-/
import Derived.Test.YtjldbbcdhdfliaaGreatDoorLnUf
import Derived.Test.YtjldbbcdhdfliaaGreatDoorUe
import Derived.Test.YtjldbbcdhdfliaaGreatDoorTmTq
import Derived.Lib.QuietBelow
import Derived.Deep.QuietTactic
import Derived.BigQuiet
namespace Go.Proofs.YtjldbbcdhdfliaaGreatDoor
open Go.RowKit Go.Sort

theorem line_size (s : ByteArray) : ∀ p ∈ linesS s, p.size ≤ s.size := by
  have key : ∀ (f : Nat) (t : ByteArray), ∀ p ∈ linesF f t, p.size ≤ t.size := by
    intro f
    induction f with
    | zero => intro t p hp; rw [linesF] at hp; simp at hp
    | succ f ih =>
      intro t p hp
      rw [linesF] at hp
      by_cases h0 : t.size = 0
      · rw [if_pos h0] at hp
        simp at hp
      · rw [if_neg h0] at hp
        have hc := cutA_size t (by omega)
        rcases List.mem_cons.1 hp with rfl | hp
        · exact hc.1
        · have := ih _ _ hp
          omega
  exact key _ s
theorem lines_count (s : ByteArray) : (linesS s).length ≤ s.size := by
  have key : ∀ (f : Nat) (t : ByteArray), (linesF f t).length ≤ t.size := by
    intro f
    induction f with
    | zero => intro t; rw [linesF]; simp
    | succ f ih =>
      intro t
      rw [linesF]
      by_cases h0 : t.size = 0
      · rw [if_pos h0]
        simp
      · rw [if_neg h0]
        have hc := cutA_size t (by omega)
        have := ih (cutB t)
        simp
        omega
  exact key _ s
theorem AccE.fin {lo : Nat} {w w' : World} {l : List Ev} {v : Value} {xs : List Value} (h : AccE lo w' l v xs) (hlo : w.heap.size ≤ lo) (hb : Below w.heap.size w w') : RdEnds (.ok l) w (.returned (.tuple #[v, .int .i64 0, .int .i64 0])) w' := by
  obtain ⟨a, cap, rfl, h1, h2, h3⟩ := h.isEs
  exact ⟨⟨a, cap, rfl, h1, h2, h3.more fun g hg => ⟨by omega, hg.2⟩⟩, hb⟩
/-- A value that lies beside a row of events. -/
def AccV (lo : Nat) (w : World) (v : Value) (t : VT) (u : Value) : Prop := IsV (fun g => lo ≤ g ∧ g < w.heap.size ∧ some g ≠ v.ownBlock) w t u
theorem AccV.below {lo : Nat} {w w' : World} {v u : Value} {t : VT} (h : AccV lo w v t u) (hb : Below w.heap.size w w') : AccV lo w' v t u :=
  (IsV.keep (fun g hg _ => World.cell?_of_block (w := w) (hb.block g hg.2.1)) h).more fun _ hg => ⟨hg.1, Nat.lt_of_lt_of_le hg.2.1 hb.size, hg.2.2⟩
theorem AccE.pushV {lo n : Nat} {w W1 : World} {l : List Ev} {v : Value} {xs : List Value} {x : Ev} {kk nn : Int} {a : Option Addr} {len cp : Nat} {g cap : Nat} (h : AccE lo w l v xs) (hn : n = l.length) (ht : AccV lo w v x.v (.agg #[.int .i64 kk, .int .i64 nn, .slice a len cp])) (hr : RngE x)
    (hown : W1.ownsRow lo 29 10 (.slice (some ⟨g, 0, none⟩) (n + 1) cap) (n + 1) (xs ++ (evC x kk nn a len cp).toList))
    (hgr : w.grownBy W1 v.ownBlock) (hat : v.ownBlock = some g ∨ g = w.heap.size) : AccE lo W1 (l ++ [x]) (.slice (some ⟨g, 0, none⟩) (n + 1) cap) (xs ++ (evC x kk nn a len cp).toList) := by
  subst hn
  exact AccE.push h ht hr hown hgr hat
set_option maxRecDepth 100000 in
set_option maxHeartbeats 8000000 in
theorem rReadE_any (s : ByteArray) (hs : s.size ≤ 100000) (w : World) : Calls Tryz.prog 21 #[.string s] w (RdEnds (readE s) w) := by
  obtain ⟨i0, hi0, hz0, hz1, hz2⟩ := info_parts ev_info
  have hd0 : decide (4194304 < (s.size : Int)) = false := by simp; omega
  have hd00 : decide (4194304 < s.size) = false := by simp; omega
  obtain ⟨RE, hre⟩ : ∃ RE, readE s = RE := ⟨_, rfl⟩
  have HRE := Lib.hid hre
  rw [hre]
  clear hre
  have HCN := Lib.hid (lines_count s)
  go_enter Tryz.func21, Tryz.ntmps21
  go_wp2_with fail
  refine (rLinesE_any s hs _).mono ?_
  rintro e w1 ⟨⟨lv, rfl, hrow⟩, hb1⟩
  obtain ⟨L, hL⟩ : ∃ L, linesS s = L := ⟨_, rfl⟩
  rw [hL] at hrow
  have HL := Lib.hid hL
  obtain ⟨n, hn⟩ : ∃ n, L.length = n := ⟨_, rfl⟩
  have hnle : n ≤ 100000 := by have := HCN.out; rw [hL] at this; omega
  have HN := Lib.hid hn
  obtain ⟨la, lcap, hlf⟩ := hrow.form
  rw [hn] at hlf
  subst hlf
  have HROW := Lib.hid hrow
  clear hrow hL hn
  have hsz1 := hb1.size
  go_wp2_with fail
  go_loopw [5, 7] (fun o i wr => ∃ (j : Nat) (done : List Ev) (v : Value) (xs : List Value), o = v ∧ i = .int .i64 (j : Nat) ∧ j = done.length ∧ j ≤ n ∧ readL done (L.drop j) = RE ∧ AccE w1.heap.size wr done v xs ∧ Below w1.heap.size w1 wr) (fun _ i _ => n - (intOf i).toNat)
  case atStart => exact ⟨0, [], _, [], rfl, rfl, rfl, Nat.zero_le _, by rw [← HRE.out, ← HL.out]; rfl, AccE.nil (Nat.le_refl _), Below.refl _ _⟩
  case round =>
    obtain ⟨j, done, v, xs, rfl, rfl, hjd, hj, hrd, hacc, hb⟩ := hrel
    have HRD := Lib.hid hrd
    clear hrd
    obtain ⟨va, vcap, hvf⟩ := hacc.form
    rw [← hjd] at hvf
    subst hvf
    have HJD := Lib.hid hjd
    clear hjd
    by_cases hlt : j < n
    · have hd1 : decide (j < n) = true := by simpa using hlt
      have hlt2 : (j : Int) < (n : Int) := by omega
      obtain ⟨A, hA⟩ : ∃ A, L[j]? = some A := ⟨L[j]'(by have := HN.out; omega), List.getElem?_eq_getElem _⟩
      obtain ⟨g, hg, hglt, hcl⟩ := HROW.out.at_ hA
      subst hg
      have hc0 : wr.cell? ⟨g, j, none⟩ = some (.string A) := (hb.cell (p := ⟨g, j, none⟩) hglt).trans hcl
      have hAs : A.size ≤ 10000000 := by
        have := line_size s A (by rw [HL.out]; exact List.mem_of_getElem? hA)
        omega
      have HNX : Hid (RE = match parseE A with | none => .error j | some x => if lateE done x then .error j else readL (done ++ [x]) (L.drop (j + 1))) := by
        show _ = _
        have hlj : j < L.length := by have := HN.out; omega
        have e : L.drop j = A :: L.drop (j + 1) := by
          rw [List.drop_eq_getElem_cons hlj]
          have := List.getElem?_eq_getElem hlj
          rw [hA] at this
          injection this with this
          rw [this]
        rw [← HRD.out, e, readL, ← HJD.out]
        cases parseE A <;> rfl
      clear hA hcl
      go_wp2_with fail
      refine (rParseE_any A hAs _).mono ?_
      rintro e w4 hp
      rcases hP : parseE A with _ | x
      · rw [hP] at hp
        obtain ⟨h1, hb4⟩ := hp
        obtain rfl : e = .returned (.tuple #[.agg #[.int .i64 0, .int .i64 0, .int .i64 0, .int .i64 0, .int .i64 0, .int .i64 0, .int .i64 0, .int .i64 0, .int .i64 0, .slice none 0 0], .int .i64 230]) := h1
        have HJ : Hid (RE = .error j) := by
          show _ = _
          rw [HNX.out, hP]
        have hb5 := hb4.trans ((below_alloc w4 (.cells #[.int .i64 0, .int .i64 0, .int .i64 0, .int .i64 0, .int .i64 0, .int .i64 0, .int .i64 0, .int .i64 0, .int .i64 0, .slice none 0 0] 29)).mono hb4.size)
        have hb6 : Below w.heap.size w (w4.alloc (.cells #[.int .i64 0, .int .i64 0, .int .i64 0, .int .i64 0, .int .i64 0, .int .i64 0, .int .i64 0, .int .i64 0, .int .i64 0, .slice none 0 0] 29)) := (hb1.trans (hb.mono hsz1)).trans (hb5.mono (by have := hb.size; omega))
        clear hP hc0
        go_upto_region 9 with fail
        generalize w4.alloc (.cells #[.int .i64 0, .int .i64 0, .int .i64 0, .int .i64 0, .int .i64 0, .int .i64 0, .int .i64 0, .int .i64 0, .int .i64 0, .slice none 0 0] 29) = w5 at *
        refine wp_region_quiet_below (by kernel_rfl) (by kernel_rfl) ?_
        repeat (go_big_quiet_step (fail))
        refine wpQuiet_nil ?_
        intro _ hw'
        obtain ⟨⟨dq, osq⟩, hw''⟩ := hw'
        subst hw''
        have hbE := hb6.trans ((below_regrown w5 dq osq).mono hb6.size)
        clear hb4 hb5 hb6 hb hacc hb1
        generalize grow (redrawn w5 dq) osq = w6 at *
        obtain rfl : RE = .error j := HJ.out
        go_wp2_with fail
        exact bodyPost_ret (v := .tuple #[.slice none 0 0, .int .i64 (j : Nat), .int .i64 230]) (by simp [results, Tryz.results21, go_sem]) rfl ⟨rfl, hbE⟩
      · rw [hP] at hp
        obtain ⟨⟨v4, rfl, hv4⟩, hb4⟩ := hp
        obtain ⟨kk, nn, a, len, cap, rfl, hv4, hrg⟩ := hv4
        have HRL : Hid (RE = if lateE done x then .error j else readL (done ++ [x]) (L.drop (j + 1))) := by
          show _ = _
          rw [HNX.out, hP]
        have hb4a := below_alloc w4 (.cells (evC x kk nn a len cap) 29)
        have hb5 := hb4.trans (hb4a.mono hb4.size)
        have hbe : BE (w4.alloc (.cells (evC x kk nn a len cap) 29)) w4.heap.size (evC x kk nn a len cap) := heap_alloc_new _ _
        have hacc5 := hacc.below hb5
        have hbw5 : Below w1.heap.size w1 (w4.alloc (.cells (evC x kk nn a len cap) 29)) := hb.trans (hb5.mono hb.size)
        have hkb : ∀ g, some g = (Value.slice va j vcap).ownBlock → g < wr.heap.size := fun g hg => (World.ownsRow.lt hacc.row g hg.symm).2
        have hlo := hacc.le
        have hv5 : AccV w1.heap.size (w4.alloc (.cells (evC x kk nn a len cap) 29)) (.slice va j vcap) x.v (.agg #[.int .i64 kk, .int .i64 nn, .slice a len cap]) :=
          AccV.below (w := w4) (hv4.more fun g hg => ⟨by omega, hg.2, fun e => by have := hkb g e; omega⟩) hb4a
        clear hP hb4 hb4a hb5 hacc hb hkb hv4 hc0
        unfold evC at hbe hacc5 hbw5 hv5 ⊢
        go_upto_region 9 with fail
        generalize w4.alloc (.cells #[.int .i64 x.k, .int .i64 x.st, .int .i64 x.th, .int .i64 x.sy, .int .i64 x.br, .int .i64 x.pa, .int .i64 x.n, .int .i64 kk, .int .i64 nn, .slice a len cap] 29) = w5 at *
        generalize w4.heap.size = xb at *
        obtain ⟨c0, c1, c2, c3, c4, c5, c6, c7, c8, c9⟩ := hbe.c
        have y1 := fun d os => cell_regrown c1 d os
        rcases Nat.eq_zero_or_pos j with h0 | hpos
        · have hd3 : decide (0 < j) = false := by simp; omega
          have hd4 : decide (0 < (j : Int)) = false := by simp; omega
          have HL2 : Hid (lateE done x = false) := by
            show _ = _
            have : done = [] := List.eq_nil_of_length_eq_zero (by have := HJD.out; omega)
            rw [this]
            rfl
          have HB := HL2
          clear h0 HL2 c0 c1 c2 c3 c4 c5 c6 c7 c8 c9
          refine wp_region_quiet_below (by kernel_rfl) (by kernel_rfl) ?_
          repeat (go_big_quiet_step (fail))
          refine wpQuiet_nil ?_
          intro _ hw'
          obtain ⟨⟨dq, osq⟩, hw''⟩ := hw'
          subst hw''
          clear y1
          have hb7 := below_regrown w5 dq osq
          have hacc7 := hacc5.below hb7
          have hbe7 : BE _ xb _ := BE.belowAll hbe hb7
          have hbw7 := hbw5.trans (hb7.mono hbw5.size)
          have hv7 := hv5.below hb7
          clear hb7 hacc5 hbe hbw5 hv5
          generalize grow (redrawn w5 dq) osq = w7 at *
          have HRL2 : Hid (RE = readL (done ++ [x]) (L.drop (j + 1))) := by
            show _ = _
            rw [HRL.out, HB.out]
            rfl
          clear HRL
          obtain ⟨c0, c1, c2, c3, c4, c5, c6, c7, c8, c9⟩ := BE.c hbe7
          have hb8 := below_alloc w7 (.cells #[.int .i64 x.k, .int .i64 x.st, .int .i64 x.th, .int .i64 x.sy, .int .i64 x.br, .int .i64 x.pa, .int .i64 x.n, .int .i64 kk, .int .i64 nn, .slice a len cap] 29)
          have hnb := heap_alloc_new w7 (.cells #[.int .i64 x.k, .int .i64 x.st, .int .i64 x.th, .int .i64 x.sy, .int .i64 x.br, .int .i64 x.pa, .int .i64 x.n, .int .i64 kk, .int .i64 nn, .slice a len cap] 29)
          have hacc8 := hacc7.below hb8
          have hbw8 := hbw7.trans (hb8.mono hbw7.size)
          have hv8 := hv7.below hb8
          have hrow8 := hacc8.row
          rw [← HJD.out] at hrow8
          clear hacc7 hbw7 hv7 hb8 hbe7
          go_wp2_with (at_builtin; refine wpList_append_lies _ rfl (.tmp 47) (.tmp 49) 38 rfl w1.heap.size 29 i0 _ 10 96 Tryz.underlying38 hi0 hz0 hz1 hz2 rfl (by decide) _ j xs rfl hrow8 ⟨w7.heap.size, 0, none⟩ 1 1 [.int .i64 x.k, .int .i64 x.st, .int .i64 x.th, .int .i64 x.sy, .int .i64 x.br, .int .i64 x.pa, .int .i64 x.n, .int .i64 kk, .int .i64 nn, .slice a len cap] rfl rfl (World.news_of_block hnb) (by simp [Value.oneCell']) (by omega) (by unfold maxLen; omega) (by omega) hacc8.le _ rfl ?_; intro g9 cap9 w13 hown hgrow hat hglt)
          have hpush := AccE.pushV hacc8 HJD.out hv8 hrg hown hgrow hat
          have hbw9 := hbw8.trans (grown_belowE hgrow hbw8.size fun g hg => (World.ownsRow.lt hrow8 g hg).1)
          clear hown hgrow hat hglt hrow8 hacc8 hv8 hnb c0 c1 c2 c3 c4 c5 c6 c7 c8 c9
          go_wp2_with fail
          go_roundw
          case rel => first | exact ⟨j + 1, done ++ [x], _, _, rfl, by go_num, by have := HJD.out; simp; omega, by omega, HRL2.out.symm, hpush, hbw9⟩ | ((repeat apply Exists.intro); exact ⟨⟨j + 1, done ++ [x], _, _, rfl, by go_num, by have := HJD.out; simp; omega, by omega, HRL2.out.symm, hpush, hbw9⟩, rfl⟩)
          case measure => simp [intOf]; omega
        · have hd3 : decide (0 < j) = true := by simpa using hpos
          have hd4 : decide (0 < (j : Int)) = true := by simp; omega
          obtain ⟨m, hm⟩ : ∃ m, j = m + 1 := ⟨j - 1, by omega⟩
          have hsub : IntKind.i64.wrap ((j : Int) - 1) = (m : Int) := by rw [hm]; exact (IntWalk.i64_in _ (by omega)).trans (by omega)
          have hmn : m < j := by omega
          have hmn2 : (m : Int) < (j : Int) := by omega
          obtain ⟨y, hy⟩ : ∃ y, done[m]? = some y := ⟨done[m]'(by have := HJD.out; omega), List.getElem?_eq_getElem _⟩
          obtain ⟨b, hb⟩ : ∃ b, decide (x.st < y.st) = b := ⟨_, rfl⟩
          have HB : Hid (lateE done x = b) := by show _ = _; rw [late_at (x := x) hy (by have := HJD.out; omega), hb]
          obtain ⟨g2, cap2, kk2, nn2, a2, len2, cp2, hva, hcel⟩ := hacc5.cells hy
          injection hva with hva hvj hvc
          clear hvj hvc
          subst hva
          have cy := hcel 1 (.int .i64 y.st) rfl
          rw [Nat.zero_add] at cy
          have y2 := fun d os => cell_regrown cy d os
          clear hcel cy hm hy c0 c1 c2 c3 c4 c5 c6 c7 c8 c9
          refine wp_region_quiet_below (by kernel_rfl) (by kernel_rfl) ?_
          repeat (go_big_quiet_step (fail))
          refine wpQuiet_nil ?_
          intro _ hw'
          obtain ⟨⟨dq, osq⟩, hw''⟩ := hw'
          subst hw''
          clear y1 y2 hsub hb
          have hb7 := below_regrown w5 dq osq
          have hacc7 := hacc5.below hb7
          have hbe7 : BE _ xb _ := BE.belowAll hbe hb7
          have hbw7 := hbw5.trans (hb7.mono hbw5.size)
          have hv7 := hv5.below hb7
          clear hb7 hacc5 hbe hbw5 hv5
          generalize grow (redrawn w5 dq) osq = w7 at *
          cases b
          · have HRL2 : Hid (RE = readL (done ++ [x]) (L.drop (j + 1))) := by
              show _ = _
              rw [HRL.out, HB.out]
              rfl
            clear HRL
            obtain ⟨c0, c1, c2, c3, c4, c5, c6, c7, c8, c9⟩ := BE.c hbe7
            have hb8 := below_alloc w7 (.cells #[.int .i64 x.k, .int .i64 x.st, .int .i64 x.th, .int .i64 x.sy, .int .i64 x.br, .int .i64 x.pa, .int .i64 x.n, .int .i64 kk, .int .i64 nn, .slice a len cap] 29)
            have hnb := heap_alloc_new w7 (.cells #[.int .i64 x.k, .int .i64 x.st, .int .i64 x.th, .int .i64 x.sy, .int .i64 x.br, .int .i64 x.pa, .int .i64 x.n, .int .i64 kk, .int .i64 nn, .slice a len cap] 29)
            have hacc8 := hacc7.below hb8
            have hbw8 := hbw7.trans (hb8.mono hbw7.size)
            have hv8 := hv7.below hb8
            have hrow8 := hacc8.row
            rw [← HJD.out] at hrow8
            clear hacc7 hbw7 hv7 hb8 hbe7
            go_wp2_with (at_builtin; refine wpList_append_lies _ rfl (.tmp 47) (.tmp 49) 38 rfl w1.heap.size 29 i0 _ 10 96 Tryz.underlying38 hi0 hz0 hz1 hz2 rfl (by decide) _ j xs rfl hrow8 ⟨w7.heap.size, 0, none⟩ 1 1 [.int .i64 x.k, .int .i64 x.st, .int .i64 x.th, .int .i64 x.sy, .int .i64 x.br, .int .i64 x.pa, .int .i64 x.n, .int .i64 kk, .int .i64 nn, .slice a len cap] rfl rfl (World.news_of_block hnb) (by simp [Value.oneCell']) (by omega) (by unfold maxLen; omega) (by omega) hacc8.le _ rfl ?_; intro g9 cap9 w13 hown hgrow hat hglt)
            have hpush := AccE.pushV hacc8 HJD.out hv8 hrg hown hgrow hat
            have hbw9 := hbw8.trans (grown_belowE hgrow hbw8.size fun g hg => (World.ownsRow.lt hrow8 g hg).1)
            clear hown hgrow hat hglt hrow8 hacc8 hv8 hnb c0 c1 c2 c3 c4 c5 c6 c7 c8 c9
            go_wp2_with fail
            go_roundw
            case rel => first | exact ⟨j + 1, done ++ [x], _, _, rfl, by go_num, by have := HJD.out; simp; omega, by omega, HRL2.out.symm, hpush, hbw9⟩ | ((repeat apply Exists.intro); exact ⟨⟨j + 1, done ++ [x], _, _, rfl, by go_num, by have := HJD.out; simp; omega, by omega, HRL2.out.symm, hpush, hbw9⟩, rfl⟩)
            case measure => simp [intOf]; omega
          · have HJ : Hid (RE = .error j) := by
              show _ = _
              rw [HRL.out, HB.out]
              rfl
            have hbE : Below w.heap.size w w7 := hb1.trans (hbw7.mono hsz1)
            clear HRL hacc7 hbw7 hv7 hbe7
            obtain rfl : RE = .error j := HJ.out
            go_wp2_with fail
            exact bodyPost_ret (v := .tuple #[.slice none 0 0, .int .i64 (j : Nat), .int .i64 230]) (by simp [results, Tryz.results21, go_sem]) rfl ⟨rfl, hbE⟩
    · have hd1 : decide (j < n) = false := by simpa using hlt
      have HF : Hid (RE = .ok done) := by
        show _ = _
        rw [← HRD.out, List.drop_eq_nil_of_le (by have := HN.out; omega)]
        rfl
      have hfin := AccE.fin (w := w) hacc hsz1 (hb1.trans (hb.mono hsz1))
      obtain rfl : RE = .ok done := HF.out
      clear hacc hb
      go_wp2_with fail
      exact bodyPost_ret (v := .tuple #[.slice va j vcap, .int .i64 0, .int .i64 0]) (by simp [results, Tryz.results21, go_sem]) rfl hfin
end Go.Proofs.YtjldbbcdhdfliaaGreatDoor
