/-
  Package source's writer: expression.
-/
import Derived.Test.YtjendlnicbieoaaGreatDoorBwWl
import Derived.StillTailTactics
import Derived.Test.YtjendlnicbieoaaGreatDoorProA
import Derived.Test.YtjendlnicbieoaaGreatDoorPlC
namespace Go.Proofs.YtjendlnicbieoaaGreatDoor
open Go.RowKit Go.Sort

theorem kid_call {m : Nat} (hX : ExW m) {f : Fn} {na : Option Addr} {cap : Nat} {xl : List Int} {k : Fo} (hk : RdF f.ns xl k) (ho : okW k) (hm : sizeF k ≤ m) (j : Nat) (hj : j < xl.length) : ∃ c : Nat, xl[j]? = some (c : Int) ∧ ∀ (d : Int) (B b : Nat) (l : List UInt8) (w : World),
    FnAt (· < B) w f na cap → IsBl B b l w → 0 ≤ d → d + sizeF k ≤ 1000000 → l.length + ((txF k d).getD j []).length + 300 ≤ 140737488355328 → 5 ≤ B → EnvS w → Calls Tryz.prog 27 #[.pointer (some ⟨b, 0, none⟩), fnV f na cap, .int .i64 (c : Nat), .int .i64 d] w (WrE B b (l ++ (txF k d).getD j []) w) := by
  obtain ⟨c, op, n, k2, r, e1, e2, e3, e4, e5, e6⟩ := rdF_at hk j hj ho
  refine ⟨c, e1, fun d B b l w hf hb h0 hd hl h5 hE => ?_⟩
  have hdr : (txF k d).getD j [] = txN op n (txF k2 d) (txF k2 (d + 1)) d := by
    have : (txF k d).drop j = txN op n (txF k2 d) (txF k2 (d + 1)) d :: txF r d := by
      rw [← txF_drop, e2]
      rfl
    rw [List.getD_eq_getElem?_getD, ← List.head?_drop, this]
    rfl
  rw [hdr] at hl ⊢
  exact hX f na cap c op n k2 d B b l w (by omega) e3 e4 hf hb h0 (by omega) hl h5 hE
/-- The writer's expression under way. -/
structure WS (B b : Nat) (f : Fn) (na : Option Addr) (cap : Nat) (op n : Int) (la : Option Addr) (len lc : Nat) (l : List UInt8) (w wr : World) : Prop where
  bl : IsBl B b l wr
  bf : Blk wr w.heap.size 46 [.int .i64 f.ps, .slice na f.ns.length cap]
  bn : Blk wr (w.heap.size + 1) 59 [.int .i64 op, .int .i64 n, .slice la len lc]
  lo : Below B w wr
  ok : OK8 b w wr
  en : EnvS wr
  fa : FnAt (· < B) wr f na cap
  B5 : 5 ≤ B
  bw : b < w.heap.size
  Bb : B ≤ b
theorem WS.step {B b : Nat} {f : Fn} {na : Option Addr} {cap : Nat} {op n : Int} {la : Option Addr} {len lc : Nat} {l l' : List UInt8} {w wr w' : World} (h : WS B b f na cap op n la len lc l w wr) (h1 : IsBl B b l' w') (h2 : Below B wr w') (h3 : OK8 b wr w') : WS B b f na cap op n la len lc l' w w' := by
  have hbw := h.bw
  exact ⟨h1, h.bf.ok8 h3 (by omega) (by decide), h.bn.ok8 h3 (by omega) (by decide), h.lo.trans h2, h.ok.trans h3, h.en.below h2 h.B5, h.fa.below h2, h.B5, h.bw, h.Bb⟩
theorem WS.ge {B b : Nat} {f : Fn} {na : Option Addr} {cap : Nat} {op n : Int} {la : Option Addr} {len lc : Nat} {l : List UInt8} {w wr : World} (h : WS B b f na cap op n la len lc l w wr) : B ≤ wr.heap.size := by
  have h1 := h.bw
  have h2 := h.Bb
  have h3 := h.lo.size
  omega
theorem WS.drew {B b : Nat} {f : Fn} {na : Option Addr} {cap : Nat} {op n : Int} {la : Option Addr} {len lc : Nat} {l : List UInt8} {w wr : World} (h : WS B b f na cap op n la len lc l w wr) : WS B b f na cap op n la len lc l w wr.drew :=
  h.step (h.bl.keepAll (Below.refl _ _).drew) (Below.refl _ _).drew (OK8.ofAll (Below.refl _ _).drew)
theorem WS.start {B b : Nat} {f : Fn} {na : Option Addr} {cap : Nat} {l : List UInt8} {w : World} (op n : Int) (la : Option Addr) (len lc : Nat) (hb : IsBl B b l w) (hf : FnAt (· < B) w f na cap) (h5 : 5 ≤ B) (hE : EnvS w) :
    WS B b f na cap op n la len lc l w ((w.alloc (.cells #[.int .i64 f.ps, .slice na f.ns.length cap] 46)).alloc (.cells #[.int .i64 op, .int .i64 n, .slice la len lc] 59)) := by
  obtain ⟨hBb, hbw⟩ := hb.lt
  have h1 := below_new w (.cells #[.int .i64 f.ps, .slice na f.ns.length cap] 46)
  have h2 : Below w.heap.size w ((w.alloc (.cells #[.int .i64 f.ps, .slice na f.ns.length cap] 46)).alloc (.cells #[.int .i64 op, .int .i64 n, .slice la len lc] 59)) := h1.alloc h1.size _
  have hbf := (Blk.new w 46 [.int .i64 f.ps, .slice na f.ns.length cap]).alloc (.cells #[.int .i64 op, .int .i64 n, .slice la len lc] 59)
  have hbn := Blk.new (w.alloc (.cells #[.int .i64 f.ps, .slice na f.ns.length cap] 46)) 59 [.int .i64 op, .int .i64 n, .slice la len lc]
  rw [World.size_alloc] at hbn
  exact ⟨hb.keepAll h2, hbf, hbn, h2.mono (by omega), OK8.ofAll h2, hE.belowAll h2, hf.below (h2.mono (by omega)), h5, hbw, hBb⟩
theorem WS.done {B b : Nat} {f : Fn} {na : Option Addr} {cap : Nat} {op n : Int} {la : Option Addr} {len lc : Nat} {l l' : List UInt8} {w wr : World} (h : WS B b f na cap op n la len lc l w wr) (e : l = l') : WrE B b l' w (.returned (.tuple #[])) wr := by
  subst e
  exact ⟨rfl, h.bl, h.lo, h.ok⟩
theorem len_ba (l : List UInt8) : (⟨l.toArray⟩ : ByteArray).size = l.length := by simp [ByteArray.size]
section
variable {m : Nat} {f : Fn} {na : Option Addr} {cap : Nat} {c : Nat} {n : Int} {k : Fo} {d : Int} {B b : Nat} {l : List UInt8} {w : World}
set_option maxRecDepth 100000 in
set_option maxHeartbeats 4000000 in
theorem wexpr_int (hr : RdF f.ns [(c : Int)] (.cons c 1 n k .nil)) (hn : Rng n) (hf : FnAt (· < B) w f na cap) (hb : IsBl B b l w) (hlen : l.length + 300 ≤ 140737488355328) (h5 : 5 ≤ B) (hE : EnvS w) :
    Calls Tryz.prog 27 #[.pointer (some ⟨b, 0, none⟩), fnV f na cap, .int .i64 (c : Nat), .int .i64 d] w (WrE B b (l ++ Lib.itoa n) w) := by
  obtain ⟨x, l', e0, hx, hxo, hxn, hxk, -⟩ := hr.cons_inv
  obtain ⟨g, o, la, lc, rfl, hg, q0, q1, q2, hlc, hlm, hki, r1, r2⟩ := hf.ns c x hx
  have hcl : c < f.ns.length := (List.getElem?_eq_some_iff.1 hx).1
  rw [hxo] at q0
  rw [hxn] at q1
  have hb1 := below_new w (.cells #[.int .i64 f.ps, .slice (some ⟨g, o, none⟩) f.ns.length cap] 46)
  obtain ⟨hBb, hbw⟩ := hb.lt
  have y0 := (hb1.cell (p := ⟨g, o + c * 3, none⟩) (by dsimp only; omega)).trans q0
  have y1 := (hb1.cell (p := ⟨g, o + c * 3 + 1, none⟩) (by dsimp only; omega)).trans q1
  have y2 := (hb1.cell (p := ⟨g, o + c * 3 + 2, none⟩) (by dsimp only; omega)).trans q2
  have hbf := Blk.new w 46 [.int .i64 f.ps, .slice (some ⟨g, o, none⟩) f.ns.length cap]
  have f1 := hbf.c 1 rfl
  have hS := WS.start 1 n la x.l.length lc hb hf h5 hE
  unfold fnV
  go_enter Tryz.func27, Tryz.ntmps27
  go_upto_region 2 with fail
  clear y0 y1 y2 f1 q0 q1 q2 hbf hb1
  generalize (w.alloc (.cells #[.int .i64 f.ps, .slice (some ⟨g, o, none⟩) f.ns.length cap] 46)).alloc (.cells #[.int .i64 1, .int .i64 n, .slice la x.l.length lc] 59) = w1 at *
  have n0 := hS.bn.c 0 rfl
  have n1 := hS.bn.c 1 rfl
  go_upto_region 4 with fail
  have hI := fmtInt n hn w1.drew (hS.en.belowAll (Below.refl _ _).drew)
  have hsz := len_ba (Lib.itoa n)
  have hil : (Lib.itoa n).length ≤ 21 := Lib.itoa_length_le n hn.1 hn.2
  have hge := hS.ge
  go_region_with (first
    | (go_at_call 51; refine hI.mono ?_; rintro e w2 ⟨rfl, hb2⟩; have hb2 : Below w1.heap.size w1 w2 := (Below.refl w1.heap.size w1).drew.trans hb2)
    | (go_at_call 24; refine (writeS B b l ⟨(Lib.itoa n).toArray⟩ w2 (hS.bl.keepAll hb2) (by rw [hsz]; omega) (by have := hb2.size; omega)).mono ?_; rintro e w3 ⟨rfl, h3, hb3, hk3⟩))
  all_goals
    go_wp2_with fail
    refine bodyPost_ret (results_none rfl _ _ _) rfl ?_
    exact (hS.step h3 ((hb2.mono hge).trans hb3) ((OK8.ofAll hb2).trans hk3)).done rfl
set_option maxRecDepth 100000 in
set_option maxHeartbeats 8000000 in
theorem wexpr_var (hr : RdF f.ns [(c : Int)] (.cons c 3 n k .nil)) (hn : Rng n) (hf : FnAt (· < B) w f na cap) (hb : IsBl B b l w) (hlen : l.length + 300 ≤ 140737488355328) (h5 : 5 ≤ B) (hE : EnvS w) :
    Calls Tryz.prog 27 #[.pointer (some ⟨b, 0, none⟩), fnV f na cap, .int .i64 (c : Nat), .int .i64 d] w (WrE B b (l ++ 118 :: Lib.itoa n) w) := by
  obtain ⟨x, l', e0, hx, hxo, hxn, hxk, -⟩ := hr.cons_inv
  obtain ⟨g, o, la, lc, rfl, hg, q0, q1, q2, hlc, hlm, hki, r1, r2⟩ := hf.ns c x hx
  have hcl : c < f.ns.length := (List.getElem?_eq_some_iff.1 hx).1
  rw [hxo] at q0
  rw [hxn] at q1
  have hb1 := below_new w (.cells #[.int .i64 f.ps, .slice (some ⟨g, o, none⟩) f.ns.length cap] 46)
  obtain ⟨hBb, hbw⟩ := hb.lt
  have y0 := (hb1.cell (p := ⟨g, o + c * 3, none⟩) (by dsimp only; omega)).trans q0
  have y1 := (hb1.cell (p := ⟨g, o + c * 3 + 1, none⟩) (by dsimp only; omega)).trans q1
  have y2 := (hb1.cell (p := ⟨g, o + c * 3 + 2, none⟩) (by dsimp only; omega)).trans q2
  have hbf := Blk.new w 46 [.int .i64 f.ps, .slice (some ⟨g, o, none⟩) f.ns.length cap]
  have f1 := hbf.c 1 rfl
  have hS0 := WS.start (3) n (la) x.l.length lc hb hf h5 hE
  unfold fnV
  go_enter Tryz.func27, Tryz.ntmps27
  go_upto_region 2 with fail
  clear y0 y1 y2 f1 q0 q1 q2 hbf hb1
  generalize (w.alloc (.cells #[.int .i64 f.ps, .slice (some ⟨g, o, none⟩) f.ns.length cap] 46)).alloc (.cells #[.int .i64 3, .int .i64 n, .slice (la) x.l.length lc] 59) = w1 at *
  have n0 := hS0.bn.c 0 rfl
  have n1 := hS0.bn.c 1 rfl
  have hC := called_any B b l 118 118 (by decide) n hn w1 hS0.bl (by omega) h5 hS0.en
  go_wp2_with (go_at_call 25; refine hC.mono ?_; rintro e w2 ⟨rfl, h2, hb2, hk2⟩)
  refine bodyPost_ret (results_none rfl _ _ _) rfl ?_
  exact (hS0.step h2 hb2 hk2).done (by simp)
set_option maxRecDepth 100000 in
set_option maxHeartbeats 8000000 in
theorem wexpr_let (hX : ExW m) (hr : RdF f.ns [(c : Int)] (.cons c 4 n k .nil)) (ho : okW k) (hm : sizeF k ≤ m) (hk2 : 2 ≤ cntF k) (hd0 : 0 ≤ d) (hd : d + 1 + sizeF k ≤ 1000000) (hf : FnAt (· < B) w f na cap) (hb : IsBl B b l w)
    (hlen : l.length + ([108, 101, 116, 32] ++ (118 :: Lib.itoa d) ++ [32, 61, 32] ++ (txF k d).getD 0 [] ++ [32, 105, 110, 32] ++ (txF k (d + 1)).getD 1 []).length + 300 ≤ 140737488355328) (h5 : 5 ≤ B) (hE : EnvS w) :
    Calls Tryz.prog 27 #[.pointer (some ⟨b, 0, none⟩), fnV f na cap, .int .i64 (c : Nat), .int .i64 d] w (WrE B b (l ++ ([108, 101, 116, 32] ++ (118 :: Lib.itoa d) ++ [32, 61, 32] ++ (txF k d).getD 0 [] ++ [32, 105, 110, 32] ++ (txF k (d + 1)).getD 1 [])) w) := by
  simp only [List.length_append, List.length_cons, List.length_nil] at hlen
  obtain ⟨x, l', e0, hx, hxo, hxn, hxk, -⟩ := hr.cons_inv
  obtain ⟨g, o, la, lc, rfl, hg, q0, q1, q2, hlc, hlm, hki, r1, r2⟩ := hf.ns c x hx
  have hcl : c < f.ns.length := (List.getElem?_eq_some_iff.1 hx).1
  rw [hxo] at q0
  rw [hxn] at q1
  have hlk : 2 ≤ x.l.length := by rw [rdF_len hxk]; exact hk2
  obtain ⟨c0, e0, hK0⟩ := kid_call (na := some ⟨g, o, none⟩) (cap := cap) hX hxk ho hm 0 (by omega)
  obtain ⟨g0, o0, hla0, hg0, u0, -⟩ := hki 0 _ e0
  rw [Nat.add_zero] at u0
  subst hla0
  obtain ⟨c1, e1, hK1⟩ := kid_call (na := some ⟨g, o, none⟩) (cap := cap) hX hxk ho hm 1 (by omega)
  obtain ⟨g1, o1, hla1, hg1, u1, -⟩ := hki 1 _ e1
  injection hla1 with hla1
  injection hla1 with hla1 hlb1 _
  subst hla1 hlb1
  have hb1 := below_new w (.cells #[.int .i64 f.ps, .slice (some ⟨g, o, none⟩) f.ns.length cap] 46)
  obtain ⟨hBb, hbw⟩ := hb.lt
  have y0 := (hb1.cell (p := ⟨g, o + c * 3, none⟩) (by dsimp only; omega)).trans q0
  have y1 := (hb1.cell (p := ⟨g, o + c * 3 + 1, none⟩) (by dsimp only; omega)).trans q1
  have y2 := (hb1.cell (p := ⟨g, o + c * 3 + 2, none⟩) (by dsimp only; omega)).trans q2
  have hbf := Blk.new w 46 [.int .i64 f.ps, .slice (some ⟨g, o, none⟩) f.ns.length cap]
  have f1 := hbf.c 1 rfl
  have hS0 := WS.start (4) n (some ⟨g0, o0, none⟩) x.l.length lc hb hf h5 hE
  unfold fnV
  go_enter Tryz.func27, Tryz.ntmps27
  go_upto_region 2 with fail
  clear y0 y1 y2 f1 q0 q1 q2 hbf hb1
  generalize (w.alloc (.cells #[.int .i64 f.ps, .slice (some ⟨g, o, none⟩) f.ns.length cap] 46)).alloc (.cells #[.int .i64 4, .int .i64 n, .slice (some ⟨g0, o0, none⟩) x.l.length lc] 59) = w1 at *
  have n0 := hS0.bn.c 0 rfl
  have n1 := hS0.bn.c 1 rfl
  have hW0 := writeS B b (l) ⟨#[108, 101, 116, 32]⟩ w1 hS0.bl (by show _ + 4 ≤ _; first | omega | (simp only [List.length_append, List.length_cons, List.length_nil]; omega)) hS0.ge
  go_upto_region 9 with (go_at_call 24; refine hW0.mono ?_; rintro e w2 ⟨rfl, hw2, hbw2, hkw2⟩)
  have hS1 := hS0.step hw2 hbw2 hkw2
  have hW1 := called_any B b (l ++ [108, 101, 116, 32]) 118 118 (by decide) d ⟨by omega, by omega⟩ w2 hS1.bl (by first | omega | (simp only [List.length_append, List.length_cons, List.length_nil]; omega)) h5 hS1.en
  go_upto_region 10 with (go_at_call 25; refine hW1.mono ?_; rintro e w3 ⟨rfl, hw3, hbw3, hkw3⟩)
  have hS2 := hS1.step hw3 hbw3 hkw3
  have hW2 := writeS B b (l ++ [108, 101, 116, 32] ++ 118 :: Lib.itoa d) ⟨#[32, 61, 32]⟩ w3 hS2.bl (by show _ + 3 ≤ _; first | omega | (simp only [List.length_append, List.length_cons, List.length_nil]; omega)) hS2.ge
  go_upto_region 11 with (go_at_call 24; refine hW2.mono ?_; rintro e w4 ⟨rfl, hw4, hbw4, hkw4⟩)
  have hS3 := hS2.step hw4 hbw4 hkw4
  have f0_3 := hS3.bf.c 0 rfl
  have f1_3 := hS3.bf.c 1 rfl
  have n2_3 := hS3.bn.c 2 rfl
  have u_3 := (hS3.lo.cell (p := ⟨g0, o0, none⟩) hg0).trans u0
  have hb_3 : (0 : Int) < (x.l.length : Nat) := by omega
  have hc_3 : 0 < x.l.length := by omega
  go_still_tail 7, (by kernel_rfl)
  repeat still_step
  change wpList _ _ _ _ _ w4.drew
  have hS3d := hS3.drew
  have hW3 := hK0 d B b (l ++ [108, 101, 116, 32] ++ 118 :: Lib.itoa d ++ [32, 61, 32]) w4.drew hS3d.fa hS3d.bl (by omega) (by omega) (by simp only [List.length_append, List.length_cons, List.length_nil]; omega) h5 hS3d.en
  unfold fnV at hW3
  clear f0_3 f1_3 n2_3 u_3
  generalize w4.drew = w4d at *
  go_upto_region 12 with (go_at_call 27; refine hW3.mono ?_; rintro e w5 ⟨rfl, hw5, hbw5, hkw5⟩)
  have hS4 := hS3d.step hw5 hbw5 hkw5
  have hW4 := writeS B b (l ++ [108, 101, 116, 32] ++ 118 :: Lib.itoa d ++ [32, 61, 32] ++ (txF k d).getD 0 []) ⟨#[32, 105, 110, 32]⟩ w5 hS4.bl (by show _ + 4 ≤ _; first | omega | (simp only [List.length_append, List.length_cons, List.length_nil]; omega)) hS4.ge
  go_upto_region 13 with (go_at_call 24; refine hW4.mono ?_; rintro e w6 ⟨rfl, hw6, hbw6, hkw6⟩)
  have hS5 := hS4.step hw6 hbw6 hkw6
  have f0_5 := hS5.bf.c 0 rfl
  have f1_5 := hS5.bf.c 1 rfl
  have n2_5 := hS5.bn.c 2 rfl
  have u_5 := (hS5.lo.cell (p := ⟨g0, o0 + 1, none⟩) hg1).trans u1
  have hb_5 : (1 : Int) < (x.l.length : Nat) := by omega
  have hc_5 : 1 < x.l.length := by omega
  go_still_tail 8, (by kernel_rfl)
  repeat still_step
  change wpList _ _ _ _ _ w6.drew
  have hS5d := hS5.drew
  have hW5 := hK1 (d + 1) B b (l ++ [108, 101, 116, 32] ++ 118 :: Lib.itoa d ++ [32, 61, 32] ++ (txF k d).getD 0 [] ++ [32, 105, 110, 32]) w6.drew hS5d.fa hS5d.bl (by omega) (by omega) (by simp only [List.length_append, List.length_cons, List.length_nil]; omega) h5 hS5d.en
  unfold fnV at hW5
  clear f0_5 f1_5 n2_5 u_5
  generalize w6.drew = w6d at *
  go_wp2_with (go_at_call 27; refine hW5.mono ?_; rintro e w7 ⟨rfl, hw7, hbw7, hkw7⟩)
  have hS6 := hS5d.step hw7 hbw7 hkw7
  refine bodyPost_ret (results_none rfl _ _ _) rfl ?_
  exact hS6.done (by simp)
set_option maxRecDepth 100000 in
set_option maxHeartbeats 8000000 in
theorem wexpr_if (hX : ExW m) (hr : RdF f.ns [(c : Int)] (.cons c 5 n k .nil)) (ho : okW k) (hm : sizeF k ≤ m) (hk3 : 3 ≤ cntF k) (hd0 : 0 ≤ d) (hd : d + 1 + sizeF k ≤ 1000000) (hf : FnAt (· < B) w f na cap) (hb : IsBl B b l w)
    (hlen : l.length + ([105, 102, 32] ++ (txF k d).getD 0 [] ++ [32, 116, 104, 101, 110, 32] ++ (txF k d).getD 1 [] ++ [32, 101, 108, 115, 101, 32] ++ (txF k d).getD 2 []).length + 300 ≤ 140737488355328) (h5 : 5 ≤ B) (hE : EnvS w) :
    Calls Tryz.prog 27 #[.pointer (some ⟨b, 0, none⟩), fnV f na cap, .int .i64 (c : Nat), .int .i64 d] w (WrE B b (l ++ ([105, 102, 32] ++ (txF k d).getD 0 [] ++ [32, 116, 104, 101, 110, 32] ++ (txF k d).getD 1 [] ++ [32, 101, 108, 115, 101, 32] ++ (txF k d).getD 2 [])) w) := by
  simp only [List.length_append, List.length_cons, List.length_nil] at hlen
  obtain ⟨x, l', e0, hx, hxo, hxn, hxk, -⟩ := hr.cons_inv
  obtain ⟨g, o, la, lc, rfl, hg, q0, q1, q2, hlc, hlm, hki, r1, r2⟩ := hf.ns c x hx
  have hcl : c < f.ns.length := (List.getElem?_eq_some_iff.1 hx).1
  rw [hxo] at q0
  rw [hxn] at q1
  have hlk : 3 ≤ x.l.length := by rw [rdF_len hxk]; exact hk3
  obtain ⟨c0, e0, hK0⟩ := kid_call (na := some ⟨g, o, none⟩) (cap := cap) hX hxk ho hm 0 (by omega)
  obtain ⟨g0, o0, hla0, hg0, u0, -⟩ := hki 0 _ e0
  rw [Nat.add_zero] at u0
  subst hla0
  obtain ⟨c1, e1, hK1⟩ := kid_call (na := some ⟨g, o, none⟩) (cap := cap) hX hxk ho hm 1 (by omega)
  obtain ⟨g1, o1, hla1, hg1, u1, -⟩ := hki 1 _ e1
  injection hla1 with hla1
  injection hla1 with hla1 hlb1 _
  subst hla1 hlb1
  obtain ⟨c2, e2, hK2⟩ := kid_call (na := some ⟨g, o, none⟩) (cap := cap) hX hxk ho hm 2 (by omega)
  obtain ⟨g2, o2, hla2, hg2, u2, -⟩ := hki 2 _ e2
  injection hla2 with hla2
  injection hla2 with hla2 hlb2 _
  subst hla2 hlb2
  have hb1 := below_new w (.cells #[.int .i64 f.ps, .slice (some ⟨g, o, none⟩) f.ns.length cap] 46)
  obtain ⟨hBb, hbw⟩ := hb.lt
  have y0 := (hb1.cell (p := ⟨g, o + c * 3, none⟩) (by dsimp only; omega)).trans q0
  have y1 := (hb1.cell (p := ⟨g, o + c * 3 + 1, none⟩) (by dsimp only; omega)).trans q1
  have y2 := (hb1.cell (p := ⟨g, o + c * 3 + 2, none⟩) (by dsimp only; omega)).trans q2
  have hbf := Blk.new w 46 [.int .i64 f.ps, .slice (some ⟨g, o, none⟩) f.ns.length cap]
  have f1 := hbf.c 1 rfl
  have hS0 := WS.start (5) n (some ⟨g0, o0, none⟩) x.l.length lc hb hf h5 hE
  unfold fnV
  go_enter Tryz.func27, Tryz.ntmps27
  go_upto_region 2 with fail
  clear y0 y1 y2 f1 q0 q1 q2 hbf hb1
  generalize (w.alloc (.cells #[.int .i64 f.ps, .slice (some ⟨g, o, none⟩) f.ns.length cap] 46)).alloc (.cells #[.int .i64 5, .int .i64 n, .slice (some ⟨g0, o0, none⟩) x.l.length lc] 59) = w1 at *
  have n0 := hS0.bn.c 0 rfl
  have n1 := hS0.bn.c 1 rfl
  have hW0 := writeS B b (l) ⟨#[105, 102, 32]⟩ w1 hS0.bl (by show _ + 3 ≤ _; first | omega | (simp only [List.length_append, List.length_cons, List.length_nil]; omega)) hS0.ge
  go_upto_region 16 with (go_at_call 24; refine hW0.mono ?_; rintro e w2 ⟨rfl, hw2, hbw2, hkw2⟩)
  have hS1 := hS0.step hw2 hbw2 hkw2
  have f0_1 := hS1.bf.c 0 rfl
  have f1_1 := hS1.bf.c 1 rfl
  have n2_1 := hS1.bn.c 2 rfl
  have u_1 := (hS1.lo.cell (p := ⟨g0, o0, none⟩) hg0).trans u0
  have hb_1 : (0 : Int) < (x.l.length : Nat) := by omega
  have hc_1 : 0 < x.l.length := by omega
  go_still_tail 7, (by kernel_rfl)
  repeat still_step
  change wpList _ _ _ _ _ w2.drew
  have hS1d := hS1.drew
  have hW1 := hK0 d B b (l ++ [105, 102, 32]) w2.drew hS1d.fa hS1d.bl (by omega) (by omega) (by simp only [List.length_append, List.length_cons, List.length_nil]; omega) h5 hS1d.en
  unfold fnV at hW1
  clear f0_1 f1_1 n2_1 u_1
  generalize w2.drew = w2d at *
  go_upto_region 17 with (go_at_call 27; refine hW1.mono ?_; rintro e w3 ⟨rfl, hw3, hbw3, hkw3⟩)
  have hS2 := hS1d.step hw3 hbw3 hkw3
  have hW2 := writeS B b (l ++ [105, 102, 32] ++ (txF k d).getD 0 []) ⟨#[32, 116, 104, 101, 110, 32]⟩ w3 hS2.bl (by show _ + 6 ≤ _; first | omega | (simp only [List.length_append, List.length_cons, List.length_nil]; omega)) hS2.ge
  go_upto_region 18 with (go_at_call 24; refine hW2.mono ?_; rintro e w4 ⟨rfl, hw4, hbw4, hkw4⟩)
  have hS3 := hS2.step hw4 hbw4 hkw4
  have f0_3 := hS3.bf.c 0 rfl
  have f1_3 := hS3.bf.c 1 rfl
  have n2_3 := hS3.bn.c 2 rfl
  have u_3 := (hS3.lo.cell (p := ⟨g0, o0 + 1, none⟩) hg1).trans u1
  have hb_3 : (1 : Int) < (x.l.length : Nat) := by omega
  have hc_3 : 1 < x.l.length := by omega
  go_still_tail 7, (by kernel_rfl)
  repeat still_step
  change wpList _ _ _ _ _ w4.drew
  have hS3d := hS3.drew
  have hW3 := hK1 d B b (l ++ [105, 102, 32] ++ (txF k d).getD 0 [] ++ [32, 116, 104, 101, 110, 32]) w4.drew hS3d.fa hS3d.bl (by omega) (by omega) (by simp only [List.length_append, List.length_cons, List.length_nil]; omega) h5 hS3d.en
  unfold fnV at hW3
  clear f0_3 f1_3 n2_3 u_3
  generalize w4.drew = w4d at *
  go_upto_region 19 with (go_at_call 27; refine hW3.mono ?_; rintro e w5 ⟨rfl, hw5, hbw5, hkw5⟩)
  have hS4 := hS3d.step hw5 hbw5 hkw5
  have hW4 := writeS B b (l ++ [105, 102, 32] ++ (txF k d).getD 0 [] ++ [32, 116, 104, 101, 110, 32] ++ (txF k d).getD 1 []) ⟨#[32, 101, 108, 115, 101, 32]⟩ w5 hS4.bl (by show _ + 6 ≤ _; first | omega | (simp only [List.length_append, List.length_cons, List.length_nil]; omega)) hS4.ge
  go_upto_region 20 with (go_at_call 24; refine hW4.mono ?_; rintro e w6 ⟨rfl, hw6, hbw6, hkw6⟩)
  have hS5 := hS4.step hw6 hbw6 hkw6
  have f0_5 := hS5.bf.c 0 rfl
  have f1_5 := hS5.bf.c 1 rfl
  have n2_5 := hS5.bn.c 2 rfl
  have u_5 := (hS5.lo.cell (p := ⟨g0, o0 + 2, none⟩) hg2).trans u2
  have hb_5 : (2 : Int) < (x.l.length : Nat) := by omega
  have hc_5 : 2 < x.l.length := by omega
  go_still_tail 7, (by kernel_rfl)
  repeat still_step
  change wpList _ _ _ _ _ w6.drew
  have hS5d := hS5.drew
  have hW5 := hK2 d B b (l ++ [105, 102, 32] ++ (txF k d).getD 0 [] ++ [32, 116, 104, 101, 110, 32] ++ (txF k d).getD 1 [] ++ [32, 101, 108, 115, 101, 32]) w6.drew hS5d.fa hS5d.bl (by omega) (by omega) (by simp only [List.length_append, List.length_cons, List.length_nil]; omega) h5 hS5d.en
  unfold fnV at hW5
  clear f0_5 f1_5 n2_5 u_5
  generalize w6.drew = w6d at *
  go_wp2_with (go_at_call 27; refine hW5.mono ?_; rintro e w7 ⟨rfl, hw7, hbw7, hkw7⟩)
  have hS6 := hS5d.step hw7 hbw7 hkw7
  refine bodyPost_ret (results_none rfl _ _ _) rfl ?_
  exact hS6.done (by simp)
set_option maxRecDepth 100000 in
set_option maxHeartbeats 8000000 in
theorem wexpr_call (hX : ExW m) (hr : RdF f.ns [(c : Int)] (.cons c 13 n k .nil)) (hn : Rng n) (ho : okW k) (hm : sizeF k ≤ m) (hd0 : 0 ≤ d) (hd : d + 1 + sizeF k ≤ 1000000) (hf : FnAt (· < B) w f na cap) (hb : IsBl B b l w)
    (hlen : l.length + (((102 :: Lib.itoa n) ++ brk (txF k d))).length + 300 ≤ 140737488355328) (h5 : 5 ≤ B) (hE : EnvS w) :
    Calls Tryz.prog 27 #[.pointer (some ⟨b, 0, none⟩), fnV f na cap, .int .i64 (c : Nat), .int .i64 d] w (WrE B b (l ++ ((102 :: Lib.itoa n) ++ brk (txF k d))) w) := by
  simp only [List.length_append, List.length_cons] at hlen
  obtain ⟨x, l', e0, hx, hxo, hxn, hxk, -⟩ := hr.cons_inv
  obtain ⟨g, o, la, lc, rfl, hg, q0, q1, q2, hlc, hlm, hki, r1, r2⟩ := hf.ns c x hx
  have hcl : c < f.ns.length := (List.getElem?_eq_some_iff.1 hx).1
  rw [hxo] at q0
  rw [hxn] at q1
  have hb1 := below_new w (.cells #[.int .i64 f.ps, .slice (some ⟨g, o, none⟩) f.ns.length cap] 46)
  obtain ⟨hBb, hbw⟩ := hb.lt
  have y0 := (hb1.cell (p := ⟨g, o + c * 3, none⟩) (by dsimp only; omega)).trans q0
  have y1 := (hb1.cell (p := ⟨g, o + c * 3 + 1, none⟩) (by dsimp only; omega)).trans q1
  have y2 := (hb1.cell (p := ⟨g, o + c * 3 + 2, none⟩) (by dsimp only; omega)).trans q2
  have hbf := Blk.new w 46 [.int .i64 f.ps, .slice (some ⟨g, o, none⟩) f.ns.length cap]
  have f1 := hbf.c 1 rfl
  have hS0 := WS.start (13) n (la) x.l.length lc hb hf h5 hE
  unfold fnV
  go_enter Tryz.func27, Tryz.ntmps27
  go_upto_region 2 with fail
  clear y0 y1 y2 f1 q0 q1 q2 hbf hb1
  generalize (w.alloc (.cells #[.int .i64 f.ps, .slice (some ⟨g, o, none⟩) f.ns.length cap] 46)).alloc (.cells #[.int .i64 13, .int .i64 n, .slice (la) x.l.length lc] 59) = w1 at *
  have n0 := hS0.bn.c 0 rfl
  have n1 := hS0.bn.c 1 rfl
  have hW0 := called_any B b l 102 102 (by decide) n hn w1 hS0.bl (by omega) h5 hS0.en
  go_upto_region 23 with (go_at_call 25; refine hW0.mono ?_; rintro e w2 ⟨rfl, h2, hb2, hk2⟩)
  have hS1 := hS0.step h2 hb2 hk2
  have f0_1 := hS1.bf.c 0 rfl
  have f1_1 := hS1.bf.c 1 rfl
  have n2_1 := hS1.bn.c 2 rfl
  have hW1 := wlist_any m hX f _ cap x.l la lc k d B b _ w2 hm hxk ho hS1.fa (hki.below hS1.lo) hlc hlm hS1.bl hd0 (by omega) (by simp only [List.length_append, List.length_cons]; omega) h5 hS1.en
  unfold fnV at hW1
  go_wp2_with (go_at_call 52; refine hW1.mono ?_; rintro e w3 ⟨rfl, h3, hb3, hk3⟩)
  refine bodyPost_ret (results_none rfl _ _ _) rfl ?_
  exact (hS1.step h3 hb3 hk3).done (by simp)
set_option maxRecDepth 100000 in
set_option maxHeartbeats 8000000 in
theorem wexpr_alone (p : Nat) (h1 : p ≠ 1) (h3 : p ≠ 3) (h4 : p ≠ 4) (h5' : p ≠ 5) (h13 : p ≠ 13) (hfm : (wTab p).2 = 1) (hr : RdF f.ns [(c : Int)] (.cons c (p : Int) n k .nil)) (hf : FnAt (· < B) w f na cap) (hb : IsBl B b l w)
    (hlen : l.length + ((wTab p).1).length + 300 ≤ 140737488355328) (h5 : 5 ≤ B) (hE : EnvS w) :
    Calls Tryz.prog 27 #[.pointer (some ⟨b, 0, none⟩), fnV f na cap, .int .i64 (c : Nat), .int .i64 d] w (WrE B b (l ++ (wTab p).1) w) := by
  have t1 : ((p : Int) == 1) = false := by simp; omega
  have t3 : ((p : Int) == 3) = false := by simp; omega
  have t4 : ((p : Int) == 4) = false := by simp; omega
  have t5 : ((p : Int) == 5) = false := by simp; omega
  have t13 : ((p : Int) == 13) = false := by simp; omega
  have hWo := wordOf_any p
  obtain ⟨fm, hfe⟩ : ∃ fm, (wTab p).2 = fm := ⟨_, rfl⟩
  have hws : (wStr p).data.toList = (wTab p).1 := rfl
  have hwl := wTab_le p
  obtain ⟨W, hW⟩ : ∃ W, wStr p = W := ⟨_, rfl⟩
  rw [hfe, hW] at hWo
  rw [hW] at hws
  rw [← hws] at hlen hwl ⊢
  have HWZ := Lib.hid (show W.size = W.data.toList.length by simp)
  obtain rfl : fm = 1 := by rw [← hfe]; exact hfm
  clear hW hfe hws h1 h3 h4 h5' h13
  obtain ⟨x, l', e0, hx, hxo, hxn, hxk, -⟩ := hr.cons_inv
  obtain ⟨g, o, la, lc, rfl, hg, q0, q1, q2, hlc, hlm, hki, r1, r2⟩ := hf.ns c x hx
  have hcl : c < f.ns.length := (List.getElem?_eq_some_iff.1 hx).1
  rw [hxo] at q0
  rw [hxn] at q1
  have hb1 := below_new w (.cells #[.int .i64 f.ps, .slice (some ⟨g, o, none⟩) f.ns.length cap] 46)
  obtain ⟨hBb, hbw⟩ := hb.lt
  have y0 := (hb1.cell (p := ⟨g, o + c * 3, none⟩) (by dsimp only; omega)).trans q0
  have y1 := (hb1.cell (p := ⟨g, o + c * 3 + 1, none⟩) (by dsimp only; omega)).trans q1
  have y2 := (hb1.cell (p := ⟨g, o + c * 3 + 2, none⟩) (by dsimp only; omega)).trans q2
  have hbf := Blk.new w 46 [.int .i64 f.ps, .slice (some ⟨g, o, none⟩) f.ns.length cap]
  have f1 := hbf.c 1 rfl
  have hS0 := WS.start ((p : Int)) n (la) x.l.length lc hb hf h5 hE
  unfold fnV
  go_enter Tryz.func27, Tryz.ntmps27
  go_upto_region 2 with fail
  clear y0 y1 y2 f1 q0 q1 q2 hbf hb1
  generalize (w.alloc (.cells #[.int .i64 f.ps, .slice (some ⟨g, o, none⟩) f.ns.length cap] 46)).alloc (.cells #[.int .i64 (p : Int), .int .i64 n, .slice (la) x.l.length lc] 59) = w1 at *
  have n0 := hS0.bn.c 0 rfl
  have n1 := hS0.bn.c 1 rfl
  go_upto_region 25 with (go_at_call 53; refine (hWo _).mono ?_; rintro e w2 ⟨rfl, rfl⟩)
  have hW0 := writeS B b l W w1 hS0.bl (by rw [HWZ.out]; omega) hS0.ge
  go_wp2_with (go_at_call 24; refine hW0.mono ?_; rintro e w3 ⟨rfl, h3, hb3, hk3⟩)
  refine bodyPost_ret (results_none rfl _ _ _) rfl ?_
  exact (hS0.step h3 hb3 hk3).done rfl
set_option maxRecDepth 100000 in
set_option maxHeartbeats 8000000 in
theorem wexpr_named (hX : ExW m) (p : Nat) (h1 : p ≠ 1) (h3 : p ≠ 3) (h4 : p ≠ 4) (h5' : p ≠ 5) (h13 : p ≠ 13) (hfm : (wTab p).2 = 7) (hr : RdF f.ns [(c : Int)] (.cons c (p : Int) n k .nil)) (hn : Rng n) (ho : okW k) (hm : sizeF k ≤ m) (hd0 : 0 ≤ d) (hd : d + 1 + sizeF k ≤ 1000000) (hf : FnAt (· < B) w f na cap) (hb : IsBl B b l w)
    (hlen : l.length + (((wTab p).1 ++ (32 :: 102 :: Lib.itoa n) ++ brk (txF k d))).length + 300 ≤ 140737488355328) (h5 : 5 ≤ B) (hE : EnvS w) :
    Calls Tryz.prog 27 #[.pointer (some ⟨b, 0, none⟩), fnV f na cap, .int .i64 (c : Nat), .int .i64 d] w (WrE B b (l ++ ((wTab p).1 ++ (32 :: 102 :: Lib.itoa n) ++ brk (txF k d))) w) := by
  have t1 : ((p : Int) == 1) = false := by simp; omega
  have t3 : ((p : Int) == 3) = false := by simp; omega
  have t4 : ((p : Int) == 4) = false := by simp; omega
  have t5 : ((p : Int) == 5) = false := by simp; omega
  have t13 : ((p : Int) == 13) = false := by simp; omega
  have hWo := wordOf_any p
  obtain ⟨fm, hfe⟩ : ∃ fm, (wTab p).2 = fm := ⟨_, rfl⟩
  have hws : (wStr p).data.toList = (wTab p).1 := rfl
  have hwl := wTab_le p
  obtain ⟨W, hW⟩ : ∃ W, wStr p = W := ⟨_, rfl⟩
  rw [hfe, hW] at hWo
  rw [hW] at hws
  rw [← hws] at hlen hwl ⊢
  have HWZ := Lib.hid (show W.size = W.data.toList.length by simp)
  obtain rfl : fm = 7 := by rw [← hfe]; exact hfm
  simp only [List.length_append, List.length_cons] at hlen
  clear hW hfe hws h1 h3 h4 h5' h13
  obtain ⟨x, l', e0, hx, hxo, hxn, hxk, -⟩ := hr.cons_inv
  obtain ⟨g, o, la, lc, rfl, hg, q0, q1, q2, hlc, hlm, hki, r1, r2⟩ := hf.ns c x hx
  have hcl : c < f.ns.length := (List.getElem?_eq_some_iff.1 hx).1
  rw [hxo] at q0
  rw [hxn] at q1
  have hb1 := below_new w (.cells #[.int .i64 f.ps, .slice (some ⟨g, o, none⟩) f.ns.length cap] 46)
  obtain ⟨hBb, hbw⟩ := hb.lt
  have y0 := (hb1.cell (p := ⟨g, o + c * 3, none⟩) (by dsimp only; omega)).trans q0
  have y1 := (hb1.cell (p := ⟨g, o + c * 3 + 1, none⟩) (by dsimp only; omega)).trans q1
  have y2 := (hb1.cell (p := ⟨g, o + c * 3 + 2, none⟩) (by dsimp only; omega)).trans q2
  have hbf := Blk.new w 46 [.int .i64 f.ps, .slice (some ⟨g, o, none⟩) f.ns.length cap]
  have f1 := hbf.c 1 rfl
  have hS0 := WS.start ((p : Int)) n (la) x.l.length lc hb hf h5 hE
  unfold fnV
  go_enter Tryz.func27, Tryz.ntmps27
  go_upto_region 2 with fail
  clear y0 y1 y2 f1 q0 q1 q2 hbf hb1
  generalize (w.alloc (.cells #[.int .i64 f.ps, .slice (some ⟨g, o, none⟩) f.ns.length cap] 46)).alloc (.cells #[.int .i64 (p : Int), .int .i64 n, .slice (la) x.l.length lc] 59) = w1 at *
  have n0 := hS0.bn.c 0 rfl
  have n1 := hS0.bn.c 1 rfl
  go_upto_region 25 with (go_at_call 53; refine (hWo _).mono ?_; rintro e w2 ⟨rfl, rfl⟩)
  have hW0 := writeS B b l W w1 hS0.bl (by rw [HWZ.out]; omega) hS0.ge
  go_upto_region 28 with (go_at_call 24; refine hW0.mono ?_; rintro e w3 ⟨rfl, h3, hb3, hk3⟩)
  have hSa := hS0.step h3 hb3 hk3
  have hW1 := writeC B b _ 32 32 (by decide) w3 hSa.bl (by simp only [List.length_append]; omega) hSa.ge
  go_upto_region 29 with (go_at_call 26; refine hW1.mono ?_; rintro e w4 ⟨rfl, h4, hb4, hk4⟩)
  have hSb := hSa.step h4 hb4 hk4
  have n1b := hSb.bn.c 1 rfl
  have hW2 := called_any B b _ 102 102 (by decide) n hn w4 hSb.bl (by simp only [List.length_append, List.length_cons, List.length_nil]; omega) h5 hSb.en
  go_upto_region 30 with (go_at_call 25; refine hW2.mono ?_; rintro e w5 ⟨rfl, h5b, hb5, hk5⟩)
  have hS1 := hSb.step h5b hb5 hk5
  have f0_1 := hS1.bf.c 0 rfl
  have f1_1 := hS1.bf.c 1 rfl
  have n2_1 := hS1.bn.c 2 rfl
  have hW9 := wlist_any m hX f _ cap x.l la lc k d B b _ w5 hm hxk ho hS1.fa (hki.below hS1.lo) hlc hlm hS1.bl hd0 (by omega) (by simp only [List.length_append, List.length_cons, List.length_nil]; omega) h5 hS1.en
  unfold fnV at hW9
  go_wp2_with (go_at_call 52; refine hW9.mono ?_; rintro e w9 ⟨rfl, h9, hb9, hk9⟩)
  go_end0
  exact (hS1.step h9 hb9 hk9).done (by simp)
set_option maxRecDepth 100000 in
set_option maxHeartbeats 8000000 in
theorem wexpr_many (hX : ExW m) (p : Nat) (h1 : p ≠ 1) (h3 : p ≠ 3) (h4 : p ≠ 4) (h5' : p ≠ 5) (h13 : p ≠ 13) (hfm1 : (wTab p).2 ≠ 1) (hfm7 : (wTab p).2 ≠ 7) (hr : RdF f.ns [(c : Int)] (.cons c (p : Int) n k .nil)) (ho : okW k) (hm : sizeF k ≤ m) (hd0 : 0 ≤ d) (hd : d + 1 + sizeF k ≤ 1000000) (hf : FnAt (· < B) w f na cap) (hb : IsBl B b l w)
    (hlen : l.length + (((wTab p).1 ++ brk (txF k d))).length + 300 ≤ 140737488355328) (h5 : 5 ≤ B) (hE : EnvS w) :
    Calls Tryz.prog 27 #[.pointer (some ⟨b, 0, none⟩), fnV f na cap, .int .i64 (c : Nat), .int .i64 d] w (WrE B b (l ++ ((wTab p).1 ++ brk (txF k d))) w) := by
  have t1 : ((p : Int) == 1) = false := by simp; omega
  have t3 : ((p : Int) == 3) = false := by simp; omega
  have t4 : ((p : Int) == 4) = false := by simp; omega
  have t5 : ((p : Int) == 5) = false := by simp; omega
  have t13 : ((p : Int) == 13) = false := by simp; omega
  have hWo := wordOf_any p
  obtain ⟨fm, hfe⟩ : ∃ fm, (wTab p).2 = fm := ⟨_, rfl⟩
  have hws : (wStr p).data.toList = (wTab p).1 := rfl
  have hwl := wTab_le p
  obtain ⟨W, hW⟩ : ∃ W, wStr p = W := ⟨_, rfl⟩
  rw [hfe, hW] at hWo
  rw [hW] at hws
  rw [← hws] at hlen hwl ⊢
  have HWZ := Lib.hid (show W.size = W.data.toList.length by simp)
  rw [hfe] at hfm1 hfm7
  have u1 : ((fm : Int) == 1) = false := by simp; omega
  have u7 : ((fm : Int) == 7) = false := by simp; omega
  simp only [List.length_append] at hlen
  clear hW hfe hws h1 h3 h4 h5' h13
  obtain ⟨x, l', e0, hx, hxo, hxn, hxk, -⟩ := hr.cons_inv
  obtain ⟨g, o, la, lc, rfl, hg, q0, q1, q2, hlc, hlm, hki, r1, r2⟩ := hf.ns c x hx
  have hcl : c < f.ns.length := (List.getElem?_eq_some_iff.1 hx).1
  rw [hxo] at q0
  rw [hxn] at q1
  have hb1 := below_new w (.cells #[.int .i64 f.ps, .slice (some ⟨g, o, none⟩) f.ns.length cap] 46)
  obtain ⟨hBb, hbw⟩ := hb.lt
  have y0 := (hb1.cell (p := ⟨g, o + c * 3, none⟩) (by dsimp only; omega)).trans q0
  have y1 := (hb1.cell (p := ⟨g, o + c * 3 + 1, none⟩) (by dsimp only; omega)).trans q1
  have y2 := (hb1.cell (p := ⟨g, o + c * 3 + 2, none⟩) (by dsimp only; omega)).trans q2
  have hbf := Blk.new w 46 [.int .i64 f.ps, .slice (some ⟨g, o, none⟩) f.ns.length cap]
  have f1 := hbf.c 1 rfl
  have hS0 := WS.start ((p : Int)) n (la) x.l.length lc hb hf h5 hE
  unfold fnV
  go_enter Tryz.func27, Tryz.ntmps27
  go_upto_region 2 with fail
  clear y0 y1 y2 f1 q0 q1 q2 hbf hb1
  generalize (w.alloc (.cells #[.int .i64 f.ps, .slice (some ⟨g, o, none⟩) f.ns.length cap] 46)).alloc (.cells #[.int .i64 (p : Int), .int .i64 n, .slice (la) x.l.length lc] 59) = w1 at *
  have n0 := hS0.bn.c 0 rfl
  have n1 := hS0.bn.c 1 rfl
  go_upto_region 25 with (go_at_call 53; refine (hWo _).mono ?_; rintro e w2 ⟨rfl, rfl⟩)
  have hW0 := writeS B b l W w1 hS0.bl (by rw [HWZ.out]; omega) hS0.ge
  go_upto_region 30 with (go_at_call 24; refine hW0.mono ?_; rintro e w3 ⟨rfl, h3, hb3, hk3⟩)
  have hS1 := hS0.step h3 hb3 hk3
  have f0_1 := hS1.bf.c 0 rfl
  have f1_1 := hS1.bf.c 1 rfl
  have n2_1 := hS1.bn.c 2 rfl
  have hW9 := wlist_any m hX f _ cap x.l la lc k d B b _ w3 hm hxk ho hS1.fa (hki.below hS1.lo) hlc hlm hS1.bl hd0 (by omega) (by simp only [List.length_append]; omega) h5 hS1.en
  unfold fnV at hW9
  go_wp2_with (go_at_call 52; refine hW9.mono ?_; rintro e w9 ⟨rfl, h9, hb9, hk9⟩)
  go_end0
  exact (hS1.step h9 hb9 hk9).done (by simp)
end
end Go.Proofs.YtjendlnicbieoaaGreatDoor
/-
  Package source's writer: expression writes what it shall, for trees of whatever size.
-/
namespace Go.Proofs.YtjendlnicbieoaaGreatDoor
open Go.RowKit Go.Sort

theorem wexpr_step (m : Nat) (hX : ExW m) : ExW (m + 1) := by
  intro f na cap c op n k d B b l w hm hr ho hf hb h0 hd hlen h5 hE
  obtain ⟨o1, o2, o3, o4, hn, ok, -⟩ := ho
  obtain ⟨p, rfl⟩ := Int.eq_ofNat_of_zero_le o1
  have hp : p ≤ 100 := by omega
  by_cases h1 : p = 1
  · subst h1
    have e : txN ((1 : Nat) : Int) n (txF k d) (txF k (d + 1)) d = Lib.itoa n := rfl
    rw [e] at hlen ⊢
    exact wexpr_int hr hn hf hb (by omega) h5 hE
  by_cases h3 : p = 3
  · subst h3
    have e : txN ((3 : Nat) : Int) n (txF k d) (txF k (d + 1)) d = 118 :: Lib.itoa n := rfl
    rw [e] at hlen ⊢
    exact wexpr_var hr hn hf hb (by omega) h5 hE
  by_cases h4 : p = 4
  · subst h4
    exact wexpr_let hX hr ok (by omega) (o3 rfl) h0 (by omega) hf hb hlen h5 hE
  by_cases h5' : p = 5
  · subst h5'
    exact wexpr_if hX hr ok (by omega) (o4 rfl) h0 (by omega) hf hb hlen h5 hE
  by_cases h13 : p = 13
  · subst h13
    exact wexpr_call hX hr hn ok (by omega) h0 (by omega) hf hb hlen h5 hE
  have e : txN (p : Int) n (txF k d) (txF k (d + 1)) d = (wTab p).1 ++ (if (wTab p).2 = 1 then [] else (if (wTab p).2 = 7 then 32 :: 102 :: Lib.itoa n else []) ++ brk (txF k d)) := by
    unfold txN
    rw [if_neg (by omega), if_neg (by omega), if_neg (by omega), if_neg (by omega), if_neg (by omega)]
    rfl
  rw [e] at hlen ⊢
  by_cases f1 : (wTab p).2 = 1
  · rw [if_pos f1, List.append_nil] at hlen ⊢
    exact wexpr_alone p h1 h3 h4 h5' h13 f1 hr hf hb hlen h5 hE
  rw [if_neg f1] at hlen ⊢
  by_cases f7 : (wTab p).2 = 7
  · rw [if_pos f7] at hlen ⊢
    rw [show (wTab p).1 ++ ((32 :: 102 :: Lib.itoa n) ++ brk (txF k d)) = (wTab p).1 ++ (32 :: 102 :: Lib.itoa n) ++ brk (txF k d) from (List.append_assoc ..).symm] at hlen ⊢
    exact wexpr_named hX p h1 h3 h4 h5' h13 f7 hr hn ok (by omega) h0 (by omega) hf hb hlen h5 hE
  · rw [if_neg f7, List.nil_append] at hlen ⊢
    exact wexpr_many hX p h1 h3 h4 h5' h13 f1 f7 hr ok (by omega) h0 (by omega) hf hb hlen h5 hE
theorem wexpr_any : ∀ m, ExW m
  | 0 => fun f na cap c op n k d B b l w hm => by omega
  | m + 1 => wexpr_step m (wexpr_any m)
end Go.Proofs.YtjendlnicbieoaaGreatDoor
/-
  Package source: Text.
-/
namespace Go.Proofs.YtjendlnicbieoaaGreatDoor
open Go.RowKit Go.Sort

theorem kidsOk_op {op : Int} {m : Nat} (h : kidsOk op m = true) : 0 ≤ op ∧ op ≤ 100 ∧ (op = 4 → 2 ≤ m) ∧ (op = 5 → 3 ≤ m) := by
  unfold kidsOk at h
  repeat' split at h
  all_goals first
    | cases h
    | (simp only [beq_iff_eq, decide_eq_true_eq] at h; refine ⟨by omega, by omega, fun e => by omega, fun e => by omega⟩)
    | skip
theorem wf_okW : ∀ (t : Fo) (lt : Bool) (k : Nat) (d : Int), wfF lt k d t → okW t
  | .nil, _, _, _, _ => trivial
  | .cons c op n k r, lt, j, d, h => by
    obtain ⟨⟨h1, h2, h3, h4, h5⟩, h6⟩ := h
    obtain ⟨a1, a2, a3, a4⟩ := kidsOk_op h1
    exact ⟨a1, a2, a3, a4, ⟨h4.1, by have := h4.2; omega⟩, wf_okW k _ _ _ h5, wf_okW r _ _ _ h6⟩
theorem txP_snoc : ∀ (l : List (Int × Fo)) (i : Nat) (x : Int × Fo), txP i (l ++ [x]) = txP i l ++ txFn (i + l.length) x.1 x.2
  | [], i, x => by simp [txP]
  | y :: r, i, x => by
    rw [List.cons_append, txP, txP, txP_snoc r (i + 1) x, List.append_assoc, List.length_cons, show i + 1 + r.length = i + (r.length + 1) by omega]
theorem txP_app : ∀ (l r : List (Int × Fo)) (i : Nat), txP i (l ++ r) = txP i l ++ txP (i + l.length) r
  | [], r, i => by simp [txP]
  | y :: l, r, i => by
    rw [List.cons_append, txP, txP, txP_app l r (i + 1), List.append_assoc, List.length_cons, show i + 1 + l.length = i + (l.length + 1) by omega]
theorem varsT_drop (m k : Nat) (h : k < m) : (varsT m).drop k = (118 :: Lib.itoa (k : Int)) :: (varsT m).drop (k + 1) := by
  unfold varsT
  rw [← List.map_drop, ← List.map_drop, List.drop_eq_getElem_cons (by simpa using h)]
  simp
theorem varsT_nil (m k : Nat) (h : m ≤ k) : (varsT m).drop k = [] := List.drop_eq_nil_of_le (by simpa [varsT] using h)
/-- How Text ends. -/
def TxtE (tx : Bs) (no : Nat) (w : World) (e : Ending) (w' : World) : Prop := e = .returned (.tuple #[.string ⟨tx.toArray⟩, .int .i64 (no : Nat)]) ∧ Below w.heap.size w w'
set_option maxRecDepth 100000 in
set_option maxHeartbeats 2000000 in
theorem Text_no (p : List Fn) (hok : okP p = false) (pa : Option Addr) (cap : Nat) (w : World) (hP : PAt (· < w.heap.size) w p pa cap) : Calls Tryz.prog 9 #[prV p pa cap] w (TxtE [] 70 w) := by
  have hbp := Blk.new w 24 [.slice pa p.length cap]
  have hw1 := below_new w (.cells #[.slice pa p.length cap] 24)
  have c0 := hbp.c 0 rfl
  have hCk := pcheck_any p pa cap _ (hP.later hw1)
  rw [hok] at hCk
  simp only [Bool.false_eq_true, if_false] at hCk
  unfold prV at hCk ⊢
  go_enter Tryz.func9, Tryz.ntmps9
  go_wp2_with (go_at_call 17; refine hCk.mono ?_; rintro e w2 ⟨rfl, hb2⟩)
  go_ret2
  exact ⟨rfl, hw1.trans (hb2.mono hw1.size)⟩
theorem new_writer (w : World) : IsBl w.heap.size w.heap.size [] (w.alloc (.cells #[.pointer none, .slice none 0 0] 69)) := by
  refine .inl ⟨Nat.le_refl _, _, heap_alloc_new w _, World.ownsRowF_nil _ _ _ _, ?_⟩
  intro h
  cases h
set_option maxRecDepth 100000 in
set_option maxHeartbeats 8000000 in
theorem Text_yes (p : List Fn) (hok : okP p = true) (hn : ∀ f ∈ p, ∀ x ∈ f.ns, Rn x.n) (ts : List (Int × Fo)) (hts : Trs p ts) (pa : Option Addr) (cap : Nat) (w : World) (hP : PAt (· < w.heap.size) w p pa cap) (hE : EnvS w) :
    Calls Tryz.prog 9 #[prV p pa cap] w (TxtE (txP 0 ts) 0 w) := by
  have hbp := Blk.new w 24 [.slice pa p.length cap]
  have hw1 := below_new w (.cells #[.slice pa p.length cap] 24)
  have c0 := hbp.c 0 rfl
  have hCk := pcheck_any p pa cap _ (hP.later hw1)
  rw [hok] at hCk
  simp only [if_true] at hCk
  have hTo := okP_trOk hok hn hts
  have hp64 : p.length ≤ 64 := by
    unfold okP at hok
    simp only [Bool.and_eq_true, decide_eq_true_eq] at hok
    exact hok.1.1.1.2
  have hp1 : 1 ≤ p.length := by
    unfold okP at hok
    simp only [Bool.and_eq_true, decide_eq_true_eq] at hok
    exact hok.1.1.1.1
  have hlen := hts.len
  obtain ⟨hx1, hx2, -⟩ := txP_len ts 0 hTo (by omega)
  obtain ⟨T, hT⟩ : ∃ T, txP 0 ts = T := ⟨_, rfl⟩
  rw [hT] at hx1 hx2 ⊢
  have HT := Lib.hid hT
  have HTO := Lib.hid hTo
  have HLEN := Lib.hid hlen
  have HTS := Lib.hid hts
  have HP := Lib.hid hP
  have htl : T.length ≤ 1043200 := by omega
  have htn : 10 ≤ T.length := by omega
  clear hok hn hT hTo hx1 hx2 hts hlen hP
  unfold prV at hCk ⊢
  go_enter Tryz.func9, Tryz.ntmps9
  go_upto_region 4 with (go_at_call 17; refine hCk.mono ?_; rintro e w2 ⟨rfl, hb2⟩)
  have hbp2 := hbp.belowAll hb2
  have hbw2 := hw1.trans (hb2.mono hw1.size)
  have hW := new_writer w2
  have hb3 := below_new w2 (.cells #[.pointer none, .slice none 0 0] 69)
  have hbp3 := hbp2.belowAll hb3
  have hbw3 := hbw2.trans (hb3.mono hbw2.size)
  have hzw : w.heap.size < w2.heap.size := Nat.lt_of_lt_of_le (by simp) hb2.size
  clear c0 hCk hbp hbp2
  go_upto_region 5 with fail
  have hzw3 : (w2.alloc (.cells #[.pointer none, .slice none 0 0] 69)).heap.size = w2.heap.size + 1 := by simp
  generalize w2.alloc (.cells #[.pointer none, .slice none 0 0] 69) = w3 at *
  generalize w2.heap.size = b at *
  have c0 := hbp3.c 0 rfl
  go_wp2_with fail
  have h5b : 5 ≤ b := by have := hE.size; omega
  go_loopw [6, 7, 8, 19] (fun _ _ _ iv wr => ∃ j : Nat, iv = .int .i64 (j : Nat) ∧ j ≤ p.length ∧ IsBl b b (txP 0 (ts.take j)) wr ∧ Below b w3 wr) (fun _ _ _ iv _ => p.length - (intOf iv).toNat)
  case atStart => exact ⟨0, rfl, Nat.zero_le _, by simpa [txP] using hW, Below.refl _ _⟩
  case round =>
    clear c0 hW
    obtain ⟨j, rfl, hj, hbl, hbr⟩ := hrel
    have hzr := hbr.size
    have hbwr : Below w.heap.size w wr := hbw3.trans (hbr.mono (by omega))
    have hEr := hE.belowAll hbwr
    by_cases hlt : j < p.length
    case' neg =>
      have hd : decide ((j : Int) < p.length) = false := by simp; omega
      have HJ : Hid (txP 0 (ts.take j) = T) := by
        show _ = _
        rw [List.take_of_length_le (by rw [HLEN.out]; omega)]
        exact HT.out
      rw [HJ.out] at hbl
      have hSt := stringW b b T wr hbl (by intro e; rw [e] at htn; simp at htn)
      clear hd
      have hd : decide ((j : Int) < p.length) = false := by simp; omega
      go_wp2_with (go_at_call 28; refine hSt.mono ?_; rintro e w4 ⟨rfl, hb4⟩)
      go_ret2
      exact ⟨rfl, hbwr.trans (hb4.mono (by omega))⟩
    case' pos =>
      have hd : decide ((j : Int) < p.length) = true := by simp; omega
      obtain ⟨f, hf⟩ : ∃ f, p[j]? = some f := ⟨p[j], List.getElem?_eq_getElem hlt⟩
      obtain ⟨t, htj, hrd⟩ := HTS.out.at_ j f hf
      obtain ⟨g, o, na, fc, rfl, hg, q0, q1, hc1, hc2, hns, hrg⟩ := HP.out.fs j f hf
      obtain ⟨a1, a2, a3, a4, a5, -⟩ := HTO.out _ (List.mem_of_getElem? htj)
      dsimp only at a1 a2 a3 a4 a5
      have hfn : FnAt (· < b) w3 f na fc := ⟨(hns.below hbw3).more fun q hq => by omega, hc1, hc2, hrg⟩
      have y0 := (hbwr.cell (p := ⟨g, o + j * 2, none⟩) hg).trans q0
      have y1 := (hbwr.cell (p := ⟨g, o + j * 2 + 1, none⟩) hg).trans q1
      obtain ⟨m, hm⟩ := Int.eq_ofNat_of_zero_le a1
      have HTJ : Hid (txP 0 (ts.take (j + 1)) = txP 0 (ts.take j) ++ txFn j m t) := by
        show _ = _
        obtain ⟨h1, h2⟩ := List.getElem?_eq_some_iff.1 htj
        rw [List.take_succ_eq_append_getElem h1, h2, txP_snoc, List.length_take, Nat.min_eq_left (by omega), Nat.zero_add, hm]
      have hTl : (txP 0 (ts.take (j + 1))).length ≤ 1043200 := by
        have : T = txP 0 (ts.take (j + 1)) ++ txP (0 + (ts.take (j + 1)).length) (ts.drop (j + 1)) := by rw [← HT.out, ← txP_app, List.take_append_drop]
        have := congrArg List.length this
        rw [List.length_append] at this
        omega
      rw [HTJ.out, List.length_append] at hTl
      obtain ⟨P, hP⟩ : ∃ P, txP 0 (ts.take j) = P := ⟨_, rfl⟩
      rw [hP] at hbl hTl
      have HPP := Lib.hid hP
      have hfl : (txFn j m t).length = 4 + (1 + (Lib.itoa (j : Int)).length) + 1 + (joinC false (varsT m)).length + 4 + ((txF t m).getD 0 []).length + 1 := by
        unfold txFn
        simp only [List.length_append, List.length_cons, List.length_nil, Int.toNat_natCast]
        omega
      rw [hm] at a2 a5 y0
      have hbF := Blk.new wr 46 [.int .i64 (m : Nat), .slice na f.ns.length fc]
      have hb4 := below_new wr (.cells #[.int .i64 (m : Nat), .slice na f.ns.length fc] 46)
      have hbl4 := hbl.keepAll hb4
      have hbr4 : Below b w3 _ := hbr.trans (hb4.mono (by omega))
      clear hP q0 q1 hf htj
      go_upto_region 8 with fail
      have hfb : b < wr.heap.size := hbl.lt.2
      have hz4 := hb4.size
      clear y0 y1
      generalize wr.alloc (.cells #[.int .i64 (m : Nat), .slice na f.ns.length fc] 46) = w4 at *
      generalize wr.heap.size = fb at *
      have hE4 : EnvS w4 := hE.belowAll (hbw3.trans (hbr4.mono (by omega)))
      have hW4 := writeS b b P ⟨#[102, 117, 110, 32]⟩ w4 hbl4 (by show _ + 4 ≤ _; omega) (by omega)
      go_upto_region 9 with (go_at_call 24; refine hW4.mono ?_; rintro e w5 ⟨rfl, h5, hb5, hk5⟩)
      have hF5 := hbF.ok8 hk5 (by omega) (by decide)
      have hE5 := hE4.below hb5 h5b
      have hbr5 := hbr4.trans hb5
      have hz5 := hb5.size
      have hC5 := called_any b b _ 102 102 (by decide) (j : Nat) ⟨by omega, by omega⟩ w5 h5 (by simp only [List.length_append, List.length_cons, List.length_nil]; omega) h5b hE5
      clear hW4
      go_upto_region 10 with (go_at_call 25; refine hC5.mono ?_; rintro e w6 ⟨rfl, h6, hb6, hk6⟩)
      have hF6 := hF5.ok8 hk6 (by omega) (by decide)
      have hE6 := hE5.below hb6 h5b
      have hbr6 := hbr5.trans hb6
      have hz6 := hb6.size
      have hW6 := writeC b b _ 40 40 (by decide) w6 h6 (by simp only [List.length_append, List.length_cons, List.length_nil]; omega) (by omega)
      clear hC5
      go_upto_region 11 with (go_at_call 26; refine hW6.mono ?_; rintro e w7 ⟨rfl, h7, hb7, hk7⟩)
      have hF7 := hF6.ok8 hk7 (by omega) (by decide)
      have hbr7 := hbr6.trans hb7
      have hz7 := hb7.size
      have g0 := hF7.c 0 rfl
      clear hW6 hF6 hF5 hbF
      go_wp2_with fail
      go_loopw [8, 37] (fun _ kv wq => ∃ (k : Nat) (tx : List UInt8), kv = .int .i64 (k : Nat) ∧ k ≤ m ∧ IsBl b b (P ++ [102, 117, 110, 32] ++ (102 :: Lib.itoa (j : Int)) ++ [40] ++ tx) wq ∧ tx ++ joinC (decide (0 < k)) ((varsT m).drop k) = joinC false (varsT m) ∧ Below b w3 wq ∧ Blk wq fb 46 [.int .i64 (m : Nat), .slice na f.ns.length fc]) (fun _ kv _ => m - (intOf kv).toNat)
      case atStart => exact ⟨0, [], rfl, Nat.zero_le _, by simpa using h7, rfl, hbr7, hF7⟩
      case round =>
        clear h7 h6 h5 hbl4 hF7 hbr7 hbr6 hbr5 g0
        obtain ⟨k, tx, rfl, hk, hq, htx, hbq, hFq⟩ := hrel
        have hzq := hbq.size
        have hEq : EnvS wr := hE.belowAll (hbw3.trans (hbq.mono (by omega)))
        have hxl := congrArg List.length htx
        rw [List.length_append] at hxl
        by_cases hkm : k < m
        case' pos =>
          have hdk : decide ((k : Int) < (m : Int)) = true := by simp; omega
          rw [varsT_drop m k hkm] at htx hxl
          rw [joinC_drop] at htx hxl
          simp only [List.length_append, List.length_cons] at hxl
          by_cases h0 : k = 0
          case' pos =>
            have hj0 : decide ((k : Int) > 0) = false := by simp; omega
            have hjd : decide (0 < k) = false := by simp; omega
            rw [hjd] at htx
            have HTX : Hid ((tx ++ 118 :: Lib.itoa (k : Int)) ++ joinC (decide (0 < k + 1)) ((varsT m).drop (k + 1)) = joinC false (varsT m)) := by
              show _ = _
              rw [← htx]
              simp
            have hC := called_any b b _ 118 118 (by decide) (k : Nat) ⟨by omega, by omega⟩ wr hq (by simp only [List.length_append, List.length_cons, List.length_nil]; omega) h5b hEq
            clear htx h0
            go_wp2_with (go_at_call 25; refine hC.mono ?_; rintro e w8 ⟨rfl, h8, hb8, hk8⟩)
            have hF8 := hFq.ok8 hk8 (by omega) (by decide)
            go_roundw
            case' rel => exact ⟨k + 1, tx ++ 118 :: Lib.itoa (k : Int), by go_num, by omega, by simpa using h8, HTX.out, hbq.trans hb8, hF8⟩
            case' measure =>
              show m - ((k : Int) + 1).toNat < m - ((k : Nat) : Int).toNat
              omega
          case' neg =>
            have hj0 : decide ((k : Int) > 0) = true := by simp; omega
            have hjd : decide (0 < k) = true := by simp; omega
            rw [hjd] at htx
            have HTX : Hid ((tx ++ [44, 32] ++ 118 :: Lib.itoa (k : Int)) ++ joinC (decide (0 < k + 1)) ((varsT m).drop (k + 1)) = joinC false (varsT m)) := by
              show _ = _
              rw [← htx]
              simp
            have hWs := writeS b b _ ⟨#[44, 32]⟩ wr hq (by show _ + 2 ≤ _; simp only [List.length_append, List.length_cons, List.length_nil]; omega) (by omega)
            clear htx h0
            go_upto_region 16 with (go_at_call 24; refine hWs.mono ?_; rintro e w8 ⟨rfl, h8, hb8, hk8⟩)
            have hF8 := hFq.ok8 hk8 (by omega) (by decide)
            have hE8 := hEq.below hb8 h5b
            have hbr8 := hbq.trans hb8
            have hC := called_any b b _ 118 118 (by decide) (k : Nat) ⟨by omega, by omega⟩ w8 h8 (by simp only [List.length_append, List.length_cons, List.length_nil]; omega) h5b hE8
            clear hWs
            go_wp2_with (go_at_call 25; refine hC.mono ?_; rintro e w9 ⟨rfl, h9, hb9, hk9⟩)
            have hF9 := hF8.ok8 hk9 (by omega) (by decide)
            go_roundw
            case' rel => exact ⟨k + 1, tx ++ [44, 32] ++ 118 :: Lib.itoa (k : Int), by go_num, by omega, by simpa using h9, HTX.out, hbr8.trans hb9, hF9⟩
            case' measure =>
              show m - ((k : Int) + 1).toNat < m - ((k : Nat) : Int).toNat
              omega
        case' neg =>
          have hdk : decide ((k : Int) < (m : Int)) = false := by simp; omega
          rw [varsT_nil m k (by omega)] at htx
          have htx : tx = joinC false (varsT m) := by simpa [joinC] using htx
          have hW9 := writeS b b _ ⟨#[41, 32, 61, 32]⟩ wr hq (by show _ + 4 ≤ _; simp only [List.length_append, List.length_cons, List.length_nil]; omega) (by omega)
          have HTX := Lib.hid htx
          clear hxl htx
          go_upto_region 19 with (go_at_call 24; refine hW9.mono ?_; rintro e w8 ⟨rfl, h8, hb8, hk8⟩)
          have hF8 := hFq.ok8 hk8 (by omega) (by decide)
          have hE8 := hEq.below hb8 h5b
          have hbr8 := hbq.trans hb8
          have hz8 := hb8.size
          have hlx : tx.length = (joinC false (varsT m)).length := by rw [HTX.out]
          obtain ⟨c1, op1, n1, k1, ht1⟩ := fo_one a3
          rw [ht1] at hrd a4 a5 hTl hfl
          obtain ⟨x1, l1, hcl, hx1, -⟩ := hrd.cons_inv
          obtain rfl : c1 = 0 := by
            injection hcl with h1 _
            omega
          have hXe : (txF (.cons 0 op1 n1 k1 .nil) (m : Int)).getD 0 [] = txN op1 n1 (txF k1 m) (txF k1 ((m : Int) + 1)) m := rfl
          rw [hXe] at hfl
          simp only [sizeF] at a4
          have hX := wexpr_any 300 f na fc 0 op1 n1 k1 (m : Int) b b _ w8 (by omega) hrd (wf_okW _ _ _ _ a5) (hfn.below hbr8) h8 (by omega) (by omega) (by simp only [List.length_append, List.length_cons, List.length_nil]; omega) h5b hE8
          have g0 := hF8.c 0 rfl
          have g1 := hF8.c 1 rfl
          unfold fnV at hX
          rw [hm] at hX
          have hX : Calls Tryz.prog 27 #[.pointer (some ⟨b, 0, none⟩), .agg #[.int .i64 (m : Nat), .slice na f.ns.length fc], .int .i64 0, .int .i64 (m : Nat)] w8 _ := hX
          clear hW9 hXe
          go_upto_region 20 with (go_at_call 27; refine hX.mono ?_; rintro e w9 ⟨rfl, h9, hb9, hk9⟩)
          have hbr9 := hbr8.trans hb9
          have hz9 := hb9.size
          have hW9 := writeC b b _ 10 10 (by decide) w9 h9 (by simp only [List.length_append, List.length_cons, List.length_nil]; omega) (by omega)
          clear g0 g1 hX
          go_wp2_with (go_at_call 26; refine hW9.mono ?_; rintro e w10 ⟨rfl, h10, hb10, hk10⟩)
          have HFIN : Hid (P ++ [102, 117, 110, 32] ++ (102 :: Lib.itoa (j : Int)) ++ [40] ++ tx ++ [41, 32, 61, 32] ++ txN op1 n1 (txF k1 m) (txF k1 ((m : Int) + 1)) m ++ [10] = txP 0 (ts.take (j + 1))) := by
            show _ = _
            rw [HTJ.out, HPP.out, ht1, HTX.out]
            unfold txFn
            simp only [Int.toNat_natCast, txF, List.getD_cons_zero, List.append_assoc]
          go_roundw
          case' rel => exact ⟨j + 1, by go_num, by omega, by rw [← HFIN.out]; exact h10, hbr9.trans hb10⟩
          case' measure =>
            show p.length - ((j : Int) + 1).toNat < p.length - ((j : Nat) : Int).toNat
            omega
end Go.Proofs.YtjendlnicbieoaaGreatDoor
