/-
  Layer 23: the statement TraceParses, walked.
-/
import Derived.Test.YtjldbbcdhdfliaaGreatDoorZaZb
import Derived.Test.YtjldbbcdhdfliaaGreatDoorUe
namespace Go.Proofs.YtjldbbcdhdfliaaGreatDoor
open Go.RowKit Go.Shelf Go.Sort

theorem setF_v (x : Ev) (i : Nat) (n : Int) : (setF x i n).v = x.v := by
  unfold setF
  split <;> rfl
theorem fldP_nd {x y : Ev} {i : Nat} {p : ByteArray} (h : fldP x i p = some y) (hx : nd x.v ≤ 256) : nd y.v ≤ 256 := by
  unfold fldP at h
  split at h
  · split at h
    · rename_i t ht
      injection h with h
      rw [← h]
      exact parse_nd ht
    · cases h
  · split at h
    · injection h with h
      rw [← h, setF_v]
      exact hx
    · split at h
      · injection h with h
        rw [← h, setF_v]
        exact hx
      · cases h
theorem rowP_nd : ∀ (l : List Nat) (ps : List ByteArray) (x y : Ev), rowP x l ps = some y → nd x.v ≤ 256 → nd y.v ≤ 256
  | i :: l, p :: ps, x, y, h, hx => by
    rw [rowP] at h
    split at h
    · rename_i z hz
      exact rowP_nd l ps z y h (fldP_nd hz hx)
    · cases h
  | [], [], x, y, h, hx => by
    injection h with h
    rw [← h]
    exact hx
  | [], p :: ps, x, y, h, hx => by
    injection h with h
    rw [← h]
    exact hx
  | i :: l, [], x, y, h, hx => by
    injection h with h
    rw [← h]
    exact hx
theorem parseE_nd {s : ByteArray} {x : Ev} (h : parseE s = some x) : nd x.v ≤ 256 := by
  unfold parseE at h
  split at h
  · split at h
    · split at h
      · exact rowP_nd _ _ _ _ h (show nd zeroT ≤ 256 by decide)
      · cases h
    · cases h
  · cases h
/-- What Parse hands back: the event, the error. -/
def resE (r : Option Ev) : Ev × Nat := match r with
  | none => (zeroEv, 230)
  | some x => (x, 0)
theorem resE_nd {s : ByteArray} {x : Ev} {er : Nat} (h : resE (parseE s) = (x, er)) : nd x.v ≤ 256 := by
  rcases hp : parseE s with _ | t
  · rw [hp] at h
    injection h with h1
    rw [← h1]
    decide
  · rw [hp] at h
    injection h with h1
    rw [← h1]
    exact parseE_nd hp
theorem tp_out {r : Option Ev} {x : Ev} {er : Nat} (h : resE r = (x, er)) {w w' : World} {e : Ending} (he : TPEnds r w e w') : ∃ (kk nn : Int) (a : Option Addr) (len cap : Nat), e = .returned (.tuple #[.agg (evC x kk nn a len cap), .int .i64 (er : Int)]) ∧
    IsE (fun g => w.heap.size ≤ g ∧ g < w'.heap.size) w' x (.agg (evC x kk nn a len cap)) ∧ Below w.heap.size w w' := by
  cases r with
  | none =>
    injection h with h1 h2
    subst h1 h2
    obtain ⟨rfl, hb⟩ := he
    exact ⟨0, 0, none, 0, 0, rfl, IsE_zero _ _, hb⟩
  | some t =>
    injection h with h1 h2
    subst h1 h2
    obtain ⟨⟨v, rfl, hv⟩, hb⟩ := he
    obtain ⟨kk, nn, a, len, cap, rfl, hv, hrg⟩ := hv
    exact ⟨kk, nn, a, len, cap, rfl, ⟨kk, nn, a, len, cap, rfl, hv, hrg⟩, hb⟩
set_option maxRecDepth 100000 in
set_option maxHeartbeats 4000000 in
theorem tparses_law (s : ByteArray) (hs : s.size ≤ maxLen) (w : World) (hE : EnvT w) : Calls Tryz.prog 3 #[.string s] w fun e w' => e = .returned (.bool true) ∧ Below w.heap.size w w' := by
  have hs2 := hs
  unfold maxLen at hs2
  by_cases hl : 300 < s.size
  · have hd : decide (300 < (s.size : Int)) = true := by simp; omega
    go_enter Tryz.func3, Tryz.ntmps3
    go_wp2_with fail
    refine (tworks_any _ hE).mono ?_
    rintro e w1 ⟨rfl, hb1⟩
    go_wp2_with fail
    go_ret
    exact ⟨rfl, hb1⟩
  · have hd : decide (300 < (s.size : Int)) = false := by simp; omega
    obtain ⟨⟨x, er⟩, hres⟩ : ∃ y, resE (parseE s) = y := ⟨_, rfl⟩
    have hnd := resE_nd hres
    have HRES := Lib.hid hres
    clear hres
    go_enter Tryz.func3, Tryz.ntmps3
    go_wp2_with fail
    refine (TParse_any s (by omega) _ hE).mono ?_
    intro e w1 h1
    obtain ⟨kk, nn, a, len, cap, rfl, hv1, hb1⟩ := tp_out HRES.out h1
    have hE1 := hE.belowAll hb1
    have hx2 : BE (w1.alloc (.cells (evC x kk nn a len cap) 29)) w1.heap.size (evC x kk nn a len cap) := heap_alloc_new _ _
    have hb2 := below_alloc w1 (.cells (evC x kk nn a len cap) 29)
    have hE2 := hE1.belowAll hb2
    have hv2 := IsE.later (hv1.more fun g hg => hg.2) hb2
    have hb3 := hb1.trans (hb2.mono hb1.size)
    clear h1 hb1 hb2 hE1 hv1
    unfold evC at hx2 hE2 hv2 hb3 ⊢
    go_upto_region 4 with fail
    generalize w1.alloc (.cells #[.int .i64 x.k, .int .i64 x.st, .int .i64 x.th, .int .i64 x.sy, .int .i64 x.br, .int .i64 x.pa, .int .i64 x.n, .int .i64 kk, .int .i64 nn, .slice a len cap] 29) = w2 at *
    generalize w1.heap.size = g1 at *
    go_wp2_with fail
    refine (rParseE_any s (by omega) _).mono ?_
    intro e w3 h3
    obtain ⟨kk', nn', a', len', cap', rfl, hv3, hb4⟩ := tp_out HRES.out h3
    have hx3 := hx2.belowAll hb4
    have hE3 := hE2.belowAll hb4
    have hv4 := hv2.later hb4
    have hb5 := hb3.trans (hb4.mono hb3.size)
    have hv5 := hv3.more (ok' := (· < w3.heap.size)) fun g hg => hg.2
    clear h3 hb4 hb3 hE2 hv3 hx2 hv2
    have hb6 := below_alloc w3 (.cells (evC x kk' nn' a' len' cap') 29)
    have hx4 := hx3.belowAll hb6
    have hy4 : BE (w3.alloc (.cells (evC x kk' nn' a' len' cap') 29)) w3.heap.size (evC x kk' nn' a' len' cap') := heap_alloc_new _ _
    have hE4 := hE3.belowAll hb6
    have hv6 := hv4.later hb6
    have hv7 := hv5.later hb6
    have hb7 := hb5.trans (hb6.mono hb5.size)
    clear hx3 hE3 hv4 hv5 hb5 hb6
    unfold evC at hx4 hy4 hE4 hv6 hv7 hb7 ⊢
    go_upto_region 5 with fail
    generalize w3.alloc (.cells #[.int .i64 x.k, .int .i64 x.st, .int .i64 x.th, .int .i64 x.sy, .int .i64 x.br, .int .i64 x.pa, .int .i64 x.n, .int .i64 kk', .int .i64 nn', .slice a' len' cap'] 29) = w4 at *
    generalize w3.heap.size = g3 at *
    obtain ⟨c0, c1, c2, c3, c4, c5, c6, c7, c8, c9⟩ := hx4.c
    obtain ⟨d0, d1, d2, d3, d4, d5, d6, d7, d8, d9⟩ := hy4.c
    go_wp2_with fail
    refine (rsame_self x _ _ _ hv6 hv7 hnd).mono ?_
    rintro e w5 ⟨rfl, hb8⟩
    have hE5 := hE4.belowAll hb8
    have hb9 := hb7.trans (hb8.mono hb7.size)
    clear c0 c1 c2 c3 c4 c5 c6 c7 c8 c9 d0 d1 d2 d3 d4 d5 d6 d7 d8 d9
    go_wp2_with fail
    refine (num23_any _ _).mono ?_
    rintro e w6 ⟨rfl, rfl⟩
    go_wp2_with fail
    refine (tworks_any _ hE5).mono ?_
    rintro e w7 ⟨rfl, hb10⟩
    go_wp2_with fail
    go_ret
    exact ⟨rfl, hb9.trans (hb10.mono hb9.size)⟩
end Go.Proofs.YtjldbbcdhdfliaaGreatDoor
