/-
  The reference's text: of one node (printed by tools/gen_ty.py).
-/
import Derived.Test.YtjendlnicbieoaaGreatDoorTx
namespace Go.Proofs.YtjendlnicbieoaaGreatDoor
open Go.RowKit Go.Sort
attribute [local go_sem] Oper.semAt_some
/-- text writes what it shall, for trees of at most that size whose root has that Op. -/
def TxO (m : Nat) (op : Int) : Prop := ∀ (f : Fn) (na : Option Addr) (cap : Nat) (c : Nat) (n : Int) (k : Fo) (d : Int) (w : World),
  1 + sizeF k ≤ m → RdF f.ns [(c : Int)] (.cons c op n k .nil) → okT (.cons c op n k .nil) → FnAt (· < w.heap.size) w f na cap → 0 ≤ d → d + (1 + sizeF k) ≤ 1000000 → (txN op n (txF k d) (txF k (d + 1)) d).length ≤ 1000000000 →
  Calls Tryz.prog 31 #[fnV f na cap, .int .i64 (c : Nat), .int .i64 d] w fun e w' => e = .returned (.string (tB (txN op n (txF k d) (txF k (d + 1)) d))) ∧ Below w.heap.size w w'
theorem txF_at {k k' r : Fo} {j : Nat} {c : Nat} {op n : Int} (h : dropF j k = .cons c op n k' r) (d : Int) : (txF k d).getD j [] = txN op n (txF k' d) (txF k' (d + 1)) d := by
  have e := txF_drop j k d
  rw [h] at e
  have e2 : ((txF k d).drop j)[0]? = some (txN op n (txF k' d) (txF k' (d + 1)) d) := by
    rw [← e]
    rfl
  rw [List.getElem?_drop, Nat.add_zero] at e2
  rw [List.getD_eq_getElem?_getD, e2]
  rfl
theorem cntF_le (k : Fo) : cntF k ≤ sizeF k := by
  induction k with
  | nil => exact Nat.le_refl _
  | cons _ _ _ _ r _ ih => simp only [cntF, sizeF]; omega
set_option maxRecDepth 100000 in
set_option maxHeartbeats 4000000 in
theorem text_1 (m : Nat) : TxO (m + 1) 1 := by
  intro f na cap c n k d w hm hr ho hf hd0 hd hlen
  obtain ⟨x, l', e0, hx, hxo, hxn, hxk, -⟩ := hr.cons_inv
  obtain ⟨hk1, hn, hok, -⟩ := ho
  obtain ⟨g, o, la, lc, rfl, hg, q0, q1, q2, hlc, hlm, hki, r1, r2⟩ := hf.ns c x hx
  rw [hxo] at q0
  rw [hxn] at q1
  have hcl : c < f.ns.length := (List.getElem?_eq_some_iff.1 hx).1
  have hcl2 := hf.le
  have hcm := hf.cap
  have HKL := Lib.hid (rdF_cnt hxk)
  unfold maxLen at hcm
  have hbf := Blk.new w 46 [.int .i64 f.ps, .slice (some ⟨g, o, none⟩) f.ns.length cap]
  have hw1 := below_new w (.cells #[.int .i64 f.ps, .slice (some ⟨g, o, none⟩) f.ns.length cap] 46)
  have hbn := Blk.new (w.alloc (.cells #[.int .i64 f.ps, .slice (some ⟨g, o, none⟩) f.ns.length cap] 46)) 59 [.int .i64 1, .int .i64 n, .slice la x.l.length lc]
  rw [World.size_alloc] at hbn
  have hbf2 := hbf.alloc (.cells #[.int .i64 1, .int .i64 n, .slice la x.l.length lc] 59)
  have hw2 : Below w.heap.size w ((w.alloc (.cells #[.int .i64 f.ps, .slice (some ⟨g, o, none⟩) f.ns.length cap] 46)).alloc (.cells #[.int .i64 1, .int .i64 n, .slice la x.l.length lc] 59)) := (below_new _ _).alloc (by simp) _
  have f0 := hbf.c 0 rfl
  have f1 := hbf.c 1 rfl
  have y0 := (hw1.cell (p := ⟨g, o + c * 3, none⟩) hg).trans q0
  have y1 := (hw1.cell (p := ⟨g, o + c * 3 + 1, none⟩) hg).trans q1
  have y2 := (hw1.cell (p := ⟨g, o + c * 3 + 2, none⟩) hg).trans q2
  have hg1 : g < (w.alloc (.cells #[.int .i64 f.ps, .slice (some ⟨g, o, none⟩) f.ns.length cap] 46)).heap.size := Nat.lt_of_lt_of_le hg hw1.size
  have hfr := hf.later hw2
  have hkr := (hki.below hw2).more fun g hg => Nat.lt_of_lt_of_le hg hw2.size
  have hzz := hbn.lt
  obtain ⟨R, hR⟩ : ∃ R, txN 1 n (txF k d) (txF k (d + 1)) d = R := ⟨_, rfl⟩
  rw [hR] at hlen ⊢
  have HR := Lib.hid hR
  clear hR hki r1 r2 q0 q1 q2 hxo hxn e0 hr
  unfold fnV
  go_enter Tryz.func31, Tryz.ntmps31
  go_upto_region 2 with fail
  clear y0 y1 y2 f0 f1 hw1 hf
  have f0 := hbf2.c 0 rfl
  have f1 := hbf2.c 1 rfl
  have n0 := hbn.c 0 rfl
  have n1 := hbn.c 1 rfl
  have n2 := hbn.c 2 rfl
  generalize (w.alloc (.cells #[.int .i64 f.ps, .slice (some ⟨g, o, none⟩) f.ns.length cap] 46)).alloc (.cells #[.int .i64 1, .int .i64 n, .slice la x.l.length lc] 59) = w2 at *
  have hD := rDigits_any n hn w2
  obtain ⟨A, hA⟩ : ∃ A, (⟨(Lib.itoa n).toArray⟩ : ByteArray) = A := ⟨_, rfl⟩
  rw [hA] at hD
  have HT : Hid (A = tB R) := by
    show _ = _
    rw [← hA, ← HR.out]
    rfl
  clear hA
  go_wp2_with (go_at_call 55; refine hD.mono ?_; rintro e w3 ⟨rfl, rfl⟩)
  go_ret
  exact ⟨by rw [HT.out]; rfl, hw2⟩
set_option maxRecDepth 100000 in
set_option maxHeartbeats 4000000 in
theorem text_3 (m : Nat) : TxO (m + 1) 3 := by
  intro f na cap c n k d w hm hr ho hf hd0 hd hlen
  obtain ⟨x, l', e0, hx, hxo, hxn, hxk, -⟩ := hr.cons_inv
  obtain ⟨hk1, hn, hok, -⟩ := ho
  obtain ⟨g, o, la, lc, rfl, hg, q0, q1, q2, hlc, hlm, hki, r1, r2⟩ := hf.ns c x hx
  rw [hxo] at q0
  rw [hxn] at q1
  have hcl : c < f.ns.length := (List.getElem?_eq_some_iff.1 hx).1
  have hcl2 := hf.le
  have hcm := hf.cap
  have HKL := Lib.hid (rdF_cnt hxk)
  unfold maxLen at hcm
  have hbf := Blk.new w 46 [.int .i64 f.ps, .slice (some ⟨g, o, none⟩) f.ns.length cap]
  have hw1 := below_new w (.cells #[.int .i64 f.ps, .slice (some ⟨g, o, none⟩) f.ns.length cap] 46)
  have hbn := Blk.new (w.alloc (.cells #[.int .i64 f.ps, .slice (some ⟨g, o, none⟩) f.ns.length cap] 46)) 59 [.int .i64 3, .int .i64 n, .slice la x.l.length lc]
  rw [World.size_alloc] at hbn
  have hbf2 := hbf.alloc (.cells #[.int .i64 3, .int .i64 n, .slice la x.l.length lc] 59)
  have hw2 : Below w.heap.size w ((w.alloc (.cells #[.int .i64 f.ps, .slice (some ⟨g, o, none⟩) f.ns.length cap] 46)).alloc (.cells #[.int .i64 3, .int .i64 n, .slice la x.l.length lc] 59)) := (below_new _ _).alloc (by simp) _
  have f0 := hbf.c 0 rfl
  have f1 := hbf.c 1 rfl
  have y0 := (hw1.cell (p := ⟨g, o + c * 3, none⟩) hg).trans q0
  have y1 := (hw1.cell (p := ⟨g, o + c * 3 + 1, none⟩) hg).trans q1
  have y2 := (hw1.cell (p := ⟨g, o + c * 3 + 2, none⟩) hg).trans q2
  have hg1 : g < (w.alloc (.cells #[.int .i64 f.ps, .slice (some ⟨g, o, none⟩) f.ns.length cap] 46)).heap.size := Nat.lt_of_lt_of_le hg hw1.size
  have hfr := hf.later hw2
  have hkr := (hki.below hw2).more fun g hg => Nat.lt_of_lt_of_le hg hw2.size
  have hzz := hbn.lt
  obtain ⟨R, hR⟩ : ∃ R, txN 3 n (txF k d) (txF k (d + 1)) d = R := ⟨_, rfl⟩
  rw [hR] at hlen ⊢
  have HR := Lib.hid hR
  clear hR hki r1 r2 q0 q1 q2 hxo hxn e0 hr
  unfold fnV
  go_enter Tryz.func31, Tryz.ntmps31
  go_upto_region 2 with fail
  clear y0 y1 y2 f0 f1 hw1 hf
  have f0 := hbf2.c 0 rfl
  have f1 := hbf2.c 1 rfl
  have n0 := hbn.c 0 rfl
  have n1 := hbn.c 1 rfl
  have n2 := hbn.c 2 rfl
  generalize (w.alloc (.cells #[.int .i64 f.ps, .slice (some ⟨g, o, none⟩) f.ns.length cap] 46)).alloc (.cells #[.int .i64 3, .int .i64 n, .slice la x.l.length lc] 59) = w2 at *
  have hD := own_any 118 n hn w2
  obtain ⟨A, hA⟩ : ∃ A, tB (118 :: Lib.itoa n) = A := ⟨_, rfl⟩
  rw [hA] at hD
  have HT : Hid (A = tB R) := by
    show _ = _
    rw [← hA, ← HR.out]
    rfl
  clear hA
  go_wp2_with (go_at_call 30; refine hD.mono ?_; rintro e w3 ⟨rfl, rfl⟩)
  go_ret
  exact ⟨by rw [HT.out]; rfl, hw2⟩
set_option maxRecDepth 100000 in
set_option maxHeartbeats 4000000 in
theorem text_2 (m : Nat) : TxO (m + 1) 2 := by
  intro f na cap c n k d w hm hr ho hf hd0 hd hlen
  obtain ⟨x, l', e0, hx, hxo, hxn, hxk, -⟩ := hr.cons_inv
  obtain ⟨hk1, hn, hok, -⟩ := ho
  obtain ⟨g, o, la, lc, rfl, hg, q0, q1, q2, hlc, hlm, hki, r1, r2⟩ := hf.ns c x hx
  rw [hxo] at q0
  rw [hxn] at q1
  have hcl : c < f.ns.length := (List.getElem?_eq_some_iff.1 hx).1
  have hcl2 := hf.le
  have hcm := hf.cap
  have HKL := Lib.hid (rdF_cnt hxk)
  unfold maxLen at hcm
  have hbf := Blk.new w 46 [.int .i64 f.ps, .slice (some ⟨g, o, none⟩) f.ns.length cap]
  have hw1 := below_new w (.cells #[.int .i64 f.ps, .slice (some ⟨g, o, none⟩) f.ns.length cap] 46)
  have hbn := Blk.new (w.alloc (.cells #[.int .i64 f.ps, .slice (some ⟨g, o, none⟩) f.ns.length cap] 46)) 59 [.int .i64 2, .int .i64 n, .slice la x.l.length lc]
  rw [World.size_alloc] at hbn
  have hbf2 := hbf.alloc (.cells #[.int .i64 2, .int .i64 n, .slice la x.l.length lc] 59)
  have hw2 : Below w.heap.size w ((w.alloc (.cells #[.int .i64 f.ps, .slice (some ⟨g, o, none⟩) f.ns.length cap] 46)).alloc (.cells #[.int .i64 2, .int .i64 n, .slice la x.l.length lc] 59)) := (below_new _ _).alloc (by simp) _
  have f0 := hbf.c 0 rfl
  have f1 := hbf.c 1 rfl
  have y0 := (hw1.cell (p := ⟨g, o + c * 3, none⟩) hg).trans q0
  have y1 := (hw1.cell (p := ⟨g, o + c * 3 + 1, none⟩) hg).trans q1
  have y2 := (hw1.cell (p := ⟨g, o + c * 3 + 2, none⟩) hg).trans q2
  have hg1 : g < (w.alloc (.cells #[.int .i64 f.ps, .slice (some ⟨g, o, none⟩) f.ns.length cap] 46)).heap.size := Nat.lt_of_lt_of_le hg hw1.size
  have hfr := hf.later hw2
  have hkr := (hki.below hw2).more fun g hg => Nat.lt_of_lt_of_le hg hw2.size
  have hzz := hbn.lt
  obtain ⟨R, hR⟩ : ∃ R, txN 2 n (txF k d) (txF k (d + 1)) d = R := ⟨_, rfl⟩
  rw [hR] at hlen ⊢
  have HR := Lib.hid hR
  clear hR hki r1 r2 q0 q1 q2 hxo hxn e0 hr
  unfold fnV
  go_enter Tryz.func31, Tryz.ntmps31
  go_upto_region 2 with fail
  clear y0 y1 y2 f0 f1 hw1 hf
  have f0 := hbf2.c 0 rfl
  have f1 := hbf2.c 1 rfl
  have n0 := hbn.c 0 rfl
  have n1 := hbn.c 1 rfl
  have n2 := hbn.c 2 rfl
  generalize (w.alloc (.cells #[.int .i64 f.ps, .slice (some ⟨g, o, none⟩) f.ns.length cap] 46)).alloc (.cells #[.int .i64 2, .int .i64 n, .slice la x.l.length lc] 59) = w2 at *
  have HT : Hid ((⟨#[117, 110, 105, 116]⟩ : ByteArray) = tB R) := by
    show _ = _
    rw [← HR.out]
    rfl
  have hA := below_new w2 (.cells #[.string ⟨#[117, 110, 105, 116]⟩, .string ⟨#[99, 104, 97, 110]⟩, .string ⟨#[110, 101, 118, 101, 114]⟩] 9)
  have hB := below_new (w2.alloc (.cells #[.string ⟨#[117, 110, 105, 116]⟩, .string ⟨#[99, 104, 97, 110]⟩, .string ⟨#[110, 101, 118, 101, 114]⟩] 9)) (.cells #[.int .i64 0, .int .i64 0, .int .i64 0, .int .i64 0, .int .i64 0, .int .i64 0, .int .i64 0, .int .i64 0, .int .i64 0, .int .i64 0, .int .i64 0, .int .i64 0, .int .i64 0, .int .i64 0, .int .i64 0, .int .i64 1, .int .i64 0, .int .i64 0, .int .i64 0, .int .i64 2] 3)
  have hAB := hA.trans (hB.mono hA.size)
  have k0 := (hbn.belowAll hAB).c 0 rfl
  have k1 := (Blk.new (w2.alloc (.cells #[.string ⟨#[117, 110, 105, 116]⟩, .string ⟨#[99, 104, 97, 110]⟩, .string ⟨#[110, 101, 118, 101, 114]⟩] 9)) 3 [.int .i64 0, .int .i64 0, .int .i64 0, .int .i64 0, .int .i64 0, .int .i64 0, .int .i64 0, .int .i64 0, .int .i64 0, .int .i64 0, .int .i64 0, .int .i64 0, .int .i64 0, .int .i64 0, .int .i64 0, .int .i64 1, .int .i64 0, .int .i64 0, .int .i64 0, .int .i64 2]).c 2 rfl
  have k2 := ((Blk.new w2 9 [.string ⟨#[117, 110, 105, 116]⟩, .string ⟨#[99, 104, 97, 110]⟩, .string ⟨#[110, 101, 118, 101, 114]⟩]).belowAll hB).c 0 rfl
  rw [World.size_alloc] at k1
  go_wp2_with fail
  go_ret
  refine ⟨by rw [HT.out]; rfl, ?_⟩
  exact hw2.trans (hAB.mono hw2.size)
set_option maxRecDepth 100000 in
set_option maxHeartbeats 4000000 in
theorem text_15 (m : Nat) : TxO (m + 1) 15 := by
  intro f na cap c n k d w hm hr ho hf hd0 hd hlen
  obtain ⟨x, l', e0, hx, hxo, hxn, hxk, -⟩ := hr.cons_inv
  obtain ⟨hk1, hn, hok, -⟩ := ho
  obtain ⟨g, o, la, lc, rfl, hg, q0, q1, q2, hlc, hlm, hki, r1, r2⟩ := hf.ns c x hx
  rw [hxo] at q0
  rw [hxn] at q1
  have hcl : c < f.ns.length := (List.getElem?_eq_some_iff.1 hx).1
  have hcl2 := hf.le
  have hcm := hf.cap
  have HKL := Lib.hid (rdF_cnt hxk)
  unfold maxLen at hcm
  have hbf := Blk.new w 46 [.int .i64 f.ps, .slice (some ⟨g, o, none⟩) f.ns.length cap]
  have hw1 := below_new w (.cells #[.int .i64 f.ps, .slice (some ⟨g, o, none⟩) f.ns.length cap] 46)
  have hbn := Blk.new (w.alloc (.cells #[.int .i64 f.ps, .slice (some ⟨g, o, none⟩) f.ns.length cap] 46)) 59 [.int .i64 15, .int .i64 n, .slice la x.l.length lc]
  rw [World.size_alloc] at hbn
  have hbf2 := hbf.alloc (.cells #[.int .i64 15, .int .i64 n, .slice la x.l.length lc] 59)
  have hw2 : Below w.heap.size w ((w.alloc (.cells #[.int .i64 f.ps, .slice (some ⟨g, o, none⟩) f.ns.length cap] 46)).alloc (.cells #[.int .i64 15, .int .i64 n, .slice la x.l.length lc] 59)) := (below_new _ _).alloc (by simp) _
  have f0 := hbf.c 0 rfl
  have f1 := hbf.c 1 rfl
  have y0 := (hw1.cell (p := ⟨g, o + c * 3, none⟩) hg).trans q0
  have y1 := (hw1.cell (p := ⟨g, o + c * 3 + 1, none⟩) hg).trans q1
  have y2 := (hw1.cell (p := ⟨g, o + c * 3 + 2, none⟩) hg).trans q2
  have hg1 : g < (w.alloc (.cells #[.int .i64 f.ps, .slice (some ⟨g, o, none⟩) f.ns.length cap] 46)).heap.size := Nat.lt_of_lt_of_le hg hw1.size
  have hfr := hf.later hw2
  have hkr := (hki.below hw2).more fun g hg => Nat.lt_of_lt_of_le hg hw2.size
  have hzz := hbn.lt
  obtain ⟨R, hR⟩ : ∃ R, txN 15 n (txF k d) (txF k (d + 1)) d = R := ⟨_, rfl⟩
  rw [hR] at hlen ⊢
  have HR := Lib.hid hR
  clear hR hki r1 r2 q0 q1 q2 hxo hxn e0 hr
  unfold fnV
  go_enter Tryz.func31, Tryz.ntmps31
  go_upto_region 2 with fail
  clear y0 y1 y2 f0 f1 hw1 hf
  have f0 := hbf2.c 0 rfl
  have f1 := hbf2.c 1 rfl
  have n0 := hbn.c 0 rfl
  have n1 := hbn.c 1 rfl
  have n2 := hbn.c 2 rfl
  generalize (w.alloc (.cells #[.int .i64 f.ps, .slice (some ⟨g, o, none⟩) f.ns.length cap] 46)).alloc (.cells #[.int .i64 15, .int .i64 n, .slice la x.l.length lc] 59) = w2 at *
  have HT : Hid ((⟨#[99, 104, 97, 110]⟩ : ByteArray) = tB R) := by
    show _ = _
    rw [← HR.out]
    rfl
  have hA := below_new w2 (.cells #[.string ⟨#[117, 110, 105, 116]⟩, .string ⟨#[99, 104, 97, 110]⟩, .string ⟨#[110, 101, 118, 101, 114]⟩] 9)
  have hB := below_new (w2.alloc (.cells #[.string ⟨#[117, 110, 105, 116]⟩, .string ⟨#[99, 104, 97, 110]⟩, .string ⟨#[110, 101, 118, 101, 114]⟩] 9)) (.cells #[.int .i64 0, .int .i64 0, .int .i64 0, .int .i64 0, .int .i64 0, .int .i64 0, .int .i64 0, .int .i64 0, .int .i64 0, .int .i64 0, .int .i64 0, .int .i64 0, .int .i64 0, .int .i64 0, .int .i64 0, .int .i64 1, .int .i64 0, .int .i64 0, .int .i64 0, .int .i64 2] 3)
  have hAB := hA.trans (hB.mono hA.size)
  have k0 := (hbn.belowAll hAB).c 0 rfl
  have k1 := (Blk.new (w2.alloc (.cells #[.string ⟨#[117, 110, 105, 116]⟩, .string ⟨#[99, 104, 97, 110]⟩, .string ⟨#[110, 101, 118, 101, 114]⟩] 9)) 3 [.int .i64 0, .int .i64 0, .int .i64 0, .int .i64 0, .int .i64 0, .int .i64 0, .int .i64 0, .int .i64 0, .int .i64 0, .int .i64 0, .int .i64 0, .int .i64 0, .int .i64 0, .int .i64 0, .int .i64 0, .int .i64 1, .int .i64 0, .int .i64 0, .int .i64 0, .int .i64 2]).c 15 rfl
  have k2 := ((Blk.new w2 9 [.string ⟨#[117, 110, 105, 116]⟩, .string ⟨#[99, 104, 97, 110]⟩, .string ⟨#[110, 101, 118, 101, 114]⟩]).belowAll hB).c 1 rfl
  rw [World.size_alloc] at k1
  go_wp2_with fail
  go_ret
  refine ⟨by rw [HT.out]; rfl, ?_⟩
  exact hw2.trans (hAB.mono hw2.size)
set_option maxRecDepth 100000 in
set_option maxHeartbeats 4000000 in
theorem text_19 (m : Nat) : TxO (m + 1) 19 := by
  intro f na cap c n k d w hm hr ho hf hd0 hd hlen
  obtain ⟨x, l', e0, hx, hxo, hxn, hxk, -⟩ := hr.cons_inv
  obtain ⟨hk1, hn, hok, -⟩ := ho
  obtain ⟨g, o, la, lc, rfl, hg, q0, q1, q2, hlc, hlm, hki, r1, r2⟩ := hf.ns c x hx
  rw [hxo] at q0
  rw [hxn] at q1
  have hcl : c < f.ns.length := (List.getElem?_eq_some_iff.1 hx).1
  have hcl2 := hf.le
  have hcm := hf.cap
  have HKL := Lib.hid (rdF_cnt hxk)
  unfold maxLen at hcm
  have hbf := Blk.new w 46 [.int .i64 f.ps, .slice (some ⟨g, o, none⟩) f.ns.length cap]
  have hw1 := below_new w (.cells #[.int .i64 f.ps, .slice (some ⟨g, o, none⟩) f.ns.length cap] 46)
  have hbn := Blk.new (w.alloc (.cells #[.int .i64 f.ps, .slice (some ⟨g, o, none⟩) f.ns.length cap] 46)) 59 [.int .i64 19, .int .i64 n, .slice la x.l.length lc]
  rw [World.size_alloc] at hbn
  have hbf2 := hbf.alloc (.cells #[.int .i64 19, .int .i64 n, .slice la x.l.length lc] 59)
  have hw2 : Below w.heap.size w ((w.alloc (.cells #[.int .i64 f.ps, .slice (some ⟨g, o, none⟩) f.ns.length cap] 46)).alloc (.cells #[.int .i64 19, .int .i64 n, .slice la x.l.length lc] 59)) := (below_new _ _).alloc (by simp) _
  have f0 := hbf.c 0 rfl
  have f1 := hbf.c 1 rfl
  have y0 := (hw1.cell (p := ⟨g, o + c * 3, none⟩) hg).trans q0
  have y1 := (hw1.cell (p := ⟨g, o + c * 3 + 1, none⟩) hg).trans q1
  have y2 := (hw1.cell (p := ⟨g, o + c * 3 + 2, none⟩) hg).trans q2
  have hg1 : g < (w.alloc (.cells #[.int .i64 f.ps, .slice (some ⟨g, o, none⟩) f.ns.length cap] 46)).heap.size := Nat.lt_of_lt_of_le hg hw1.size
  have hfr := hf.later hw2
  have hkr := (hki.below hw2).more fun g hg => Nat.lt_of_lt_of_le hg hw2.size
  have hzz := hbn.lt
  obtain ⟨R, hR⟩ : ∃ R, txN 19 n (txF k d) (txF k (d + 1)) d = R := ⟨_, rfl⟩
  rw [hR] at hlen ⊢
  have HR := Lib.hid hR
  clear hR hki r1 r2 q0 q1 q2 hxo hxn e0 hr
  unfold fnV
  go_enter Tryz.func31, Tryz.ntmps31
  go_upto_region 2 with fail
  clear y0 y1 y2 f0 f1 hw1 hf
  have f0 := hbf2.c 0 rfl
  have f1 := hbf2.c 1 rfl
  have n0 := hbn.c 0 rfl
  have n1 := hbn.c 1 rfl
  have n2 := hbn.c 2 rfl
  generalize (w.alloc (.cells #[.int .i64 f.ps, .slice (some ⟨g, o, none⟩) f.ns.length cap] 46)).alloc (.cells #[.int .i64 19, .int .i64 n, .slice la x.l.length lc] 59) = w2 at *
  have HT : Hid ((⟨#[110, 101, 118, 101, 114]⟩ : ByteArray) = tB R) := by
    show _ = _
    rw [← HR.out]
    rfl
  have hA := below_new w2 (.cells #[.string ⟨#[117, 110, 105, 116]⟩, .string ⟨#[99, 104, 97, 110]⟩, .string ⟨#[110, 101, 118, 101, 114]⟩] 9)
  have hB := below_new (w2.alloc (.cells #[.string ⟨#[117, 110, 105, 116]⟩, .string ⟨#[99, 104, 97, 110]⟩, .string ⟨#[110, 101, 118, 101, 114]⟩] 9)) (.cells #[.int .i64 0, .int .i64 0, .int .i64 0, .int .i64 0, .int .i64 0, .int .i64 0, .int .i64 0, .int .i64 0, .int .i64 0, .int .i64 0, .int .i64 0, .int .i64 0, .int .i64 0, .int .i64 0, .int .i64 0, .int .i64 1, .int .i64 0, .int .i64 0, .int .i64 0, .int .i64 2] 3)
  have hAB := hA.trans (hB.mono hA.size)
  have k0 := (hbn.belowAll hAB).c 0 rfl
  have k1 := (Blk.new (w2.alloc (.cells #[.string ⟨#[117, 110, 105, 116]⟩, .string ⟨#[99, 104, 97, 110]⟩, .string ⟨#[110, 101, 118, 101, 114]⟩] 9)) 3 [.int .i64 0, .int .i64 0, .int .i64 0, .int .i64 0, .int .i64 0, .int .i64 0, .int .i64 0, .int .i64 0, .int .i64 0, .int .i64 0, .int .i64 0, .int .i64 0, .int .i64 0, .int .i64 0, .int .i64 0, .int .i64 1, .int .i64 0, .int .i64 0, .int .i64 0, .int .i64 2]).c 19 rfl
  have k2 := ((Blk.new w2 9 [.string ⟨#[117, 110, 105, 116]⟩, .string ⟨#[99, 104, 97, 110]⟩, .string ⟨#[110, 101, 118, 101, 114]⟩]).belowAll hB).c 2 rfl
  rw [World.size_alloc] at k1
  go_wp2_with fail
  go_ret
  refine ⟨by rw [HT.out]; rfl, ?_⟩
  exact hw2.trans (hAB.mono hw2.size)
set_option maxRecDepth 100000 in
set_option maxHeartbeats 4000000 in
theorem text_13 (m : Nat) (hX : TxC m) : TxO (m + 1) 13 := by
  intro f na cap c n k d w hm hr ho hf hd0 hd hlen
  obtain ⟨x, l', e0, hx, hxo, hxn, hxk, -⟩ := hr.cons_inv
  obtain ⟨hk1, hn, hok, -⟩ := ho
  obtain ⟨g, o, la, lc, rfl, hg, q0, q1, q2, hlc, hlm, hki, r1, r2⟩ := hf.ns c x hx
  rw [hxo] at q0
  rw [hxn] at q1
  have hcl : c < f.ns.length := (List.getElem?_eq_some_iff.1 hx).1
  have hcl2 := hf.le
  have hcm := hf.cap
  have HKL := Lib.hid (rdF_cnt hxk)
  unfold maxLen at hcm
  have hbf := Blk.new w 46 [.int .i64 f.ps, .slice (some ⟨g, o, none⟩) f.ns.length cap]
  have hw1 := below_new w (.cells #[.int .i64 f.ps, .slice (some ⟨g, o, none⟩) f.ns.length cap] 46)
  have hbn := Blk.new (w.alloc (.cells #[.int .i64 f.ps, .slice (some ⟨g, o, none⟩) f.ns.length cap] 46)) 59 [.int .i64 13, .int .i64 n, .slice la x.l.length lc]
  rw [World.size_alloc] at hbn
  have hbf2 := hbf.alloc (.cells #[.int .i64 13, .int .i64 n, .slice la x.l.length lc] 59)
  have hw2 : Below w.heap.size w ((w.alloc (.cells #[.int .i64 f.ps, .slice (some ⟨g, o, none⟩) f.ns.length cap] 46)).alloc (.cells #[.int .i64 13, .int .i64 n, .slice la x.l.length lc] 59)) := (below_new _ _).alloc (by simp) _
  have f0 := hbf.c 0 rfl
  have f1 := hbf.c 1 rfl
  have y0 := (hw1.cell (p := ⟨g, o + c * 3, none⟩) hg).trans q0
  have y1 := (hw1.cell (p := ⟨g, o + c * 3 + 1, none⟩) hg).trans q1
  have y2 := (hw1.cell (p := ⟨g, o + c * 3 + 2, none⟩) hg).trans q2
  have hg1 : g < (w.alloc (.cells #[.int .i64 f.ps, .slice (some ⟨g, o, none⟩) f.ns.length cap] 46)).heap.size := Nat.lt_of_lt_of_le hg hw1.size
  have hfr := hf.later hw2
  have hkr := (hki.below hw2).more fun g hg => Nat.lt_of_lt_of_le hg hw2.size
  have hzz := hbn.lt
  obtain ⟨R, hR⟩ : ∃ R, txN 13 n (txF k d) (txF k (d + 1)) d = R := ⟨_, rfl⟩
  rw [hR] at hlen ⊢
  have HR := Lib.hid hR
  clear hR hki r1 r2 q0 q1 q2 hxo hxn e0 hr
  unfold fnV
  go_enter Tryz.func31, Tryz.ntmps31
  go_upto_region 2 with fail
  clear y0 y1 y2 f0 f1 hw1 hf
  have f0 := hbf2.c 0 rfl
  have f1 := hbf2.c 1 rfl
  have n0 := hbn.c 0 rfl
  have n1 := hbn.c 1 rfl
  have n2 := hbn.c 2 rfl
  generalize (w.alloc (.cells #[.int .i64 f.ps, .slice (some ⟨g, o, none⟩) f.ns.length cap] 46)).alloc (.cells #[.int .i64 13, .int .i64 n, .slice la x.l.length lc] 59) = w2 at *
  obtain ⟨J, hJ⟩ : ∃ J, brk (txF k d) = J := ⟨_, rfl⟩
  obtain ⟨Y, hY⟩ : ∃ Y, tB J = Y := ⟨_, rfl⟩
  have hRe := HR.out
  unfold txN at hRe
  rw [if_neg (by decide), if_neg (by decide), if_neg (by decide), if_neg (by decide), if_pos rfl] at hRe
  rw [hJ] at hRe
  have hRl := congrArg List.length hRe
  simp only [List.length_append] at hRl
  try simp only [List.length_cons] at hRl
  try simp only [List.length_nil] at hRl
  have hYz : Y.size = J.length := by rw [← hY, tB_size]
  have hYb : Y.size ≤ 1000000000 := by omega
  have HYD : Hid (Y.data.toList = J) := by show _ = _; rw [← hY, tB_data]
  have hTx := fun wx (hx : Below w2.heap.size w2 wx) => texts_any m hX f (some ⟨g, o, none⟩) cap x.l la lc k d wx (by omega) hxk hok (hfr.later hx) ((hkr.below hx).more fun g hg => Nat.lt_of_lt_of_le hg hx.size) hlc hlm hd0 (by omega) (by rw [hJ]; omega)
  rw [hJ, hY] at hTx
  unfold fnV at hTx
  obtain ⟨O, hO⟩ : ∃ O, tB (102 :: Lib.itoa n) = O := ⟨_, rfl⟩
  have hOz : O.size ≤ 22 := by
    rw [← hO, tB_size]
    have := itoa_21 hn
    simp only [List.length_cons]
    omega
  have HOD : Hid (O.data.toList = 102 :: Lib.itoa n) := by show _ = _; rw [← hO, tB_data]
  have cO : ∀ d' os, Calls Tryz.prog 30 #[.string ⟨#[102]⟩, .int .i64 n] (grow (redrawn w2 d') os) fun e w'' => e = .returned (.string O) ∧ ∃ p : Regrown, w'' = grow (redrawn w2 p.d) p.os := fun d' os => (own_any 102 n hn _).mono (by
    rintro e w' ⟨rfl, rfl⟩
    exact ⟨by rw [hO], ⟨d', os⟩, rfl⟩)
  have cT : ∀ d' os, Calls Tryz.prog 56 #[.agg #[.int .i64 f.ps, .slice (some ⟨g, o, none⟩) f.ns.length cap], .slice la x.l.length lc, .int .i64 d] (grow (redrawn w2 d') os) fun e w'' => e = .returned (.string Y) ∧ ∃ p : Regrown, w'' = grow (redrawn w2 p.d) p.os := fun d' os => Calls.regrown_of (hTx _ (below_regrown w2 d' os))
  have g0 := fun d os => cell_regrown f0 d os
  have g1 := fun d os => cell_regrown f1 d os
  have m0 := fun d os => cell_regrown n0 d os
  have m1 := fun d os => cell_regrown n1 d os
  have m2 := fun d os => cell_regrown n2 d os
  have HT : Hid (O ++ Y = tB R) := tB_of (by rw [ByteArray.data_append, Array.toList_append, HOD.out, HYD.out, ← hRe])
  have q1 : ¬ (9223372036854775807 < O.size + Y.size) := by omega
  clear hO hJ hY hRe hRl hYz hTx hbf hbf2 hbn
  go_upto_region 16 with fail
  refine wp_region_quiet_below (by kernel_rfl) (by kernel_rfl) ?_
  repeat (go_big_quiet_step (with_reducible first | exact cO _ _ | exact cT _ _))
  refine wpQuiet_nil ?_
  intro _ hw'
  obtain ⟨⟨dq, osq⟩, hw''⟩ := hw'
  subst hw''
  have hb3 := hw2.trans ((below_regrown w2 dq osq).mono hw2.size)
  go_wp2_with fail
  go_ret
  exact ⟨by rw [HT.out]; rfl, hb3⟩
set_option maxRecDepth 100000 in
set_option maxHeartbeats 4000000 in
theorem text_14 (m : Nat) (hX : TxC m) : TxO (m + 1) 14 := by
  intro f na cap c n k d w hm hr ho hf hd0 hd hlen
  obtain ⟨x, l', e0, hx, hxo, hxn, hxk, -⟩ := hr.cons_inv
  obtain ⟨hk1, hn, hok, -⟩ := ho
  obtain ⟨g, o, la, lc, rfl, hg, q0, q1, q2, hlc, hlm, hki, r1, r2⟩ := hf.ns c x hx
  rw [hxo] at q0
  rw [hxn] at q1
  have hcl : c < f.ns.length := (List.getElem?_eq_some_iff.1 hx).1
  have hcl2 := hf.le
  have hcm := hf.cap
  have HKL := Lib.hid (rdF_cnt hxk)
  unfold maxLen at hcm
  have hbf := Blk.new w 46 [.int .i64 f.ps, .slice (some ⟨g, o, none⟩) f.ns.length cap]
  have hw1 := below_new w (.cells #[.int .i64 f.ps, .slice (some ⟨g, o, none⟩) f.ns.length cap] 46)
  have hbn := Blk.new (w.alloc (.cells #[.int .i64 f.ps, .slice (some ⟨g, o, none⟩) f.ns.length cap] 46)) 59 [.int .i64 14, .int .i64 n, .slice la x.l.length lc]
  rw [World.size_alloc] at hbn
  have hbf2 := hbf.alloc (.cells #[.int .i64 14, .int .i64 n, .slice la x.l.length lc] 59)
  have hw2 : Below w.heap.size w ((w.alloc (.cells #[.int .i64 f.ps, .slice (some ⟨g, o, none⟩) f.ns.length cap] 46)).alloc (.cells #[.int .i64 14, .int .i64 n, .slice la x.l.length lc] 59)) := (below_new _ _).alloc (by simp) _
  have f0 := hbf.c 0 rfl
  have f1 := hbf.c 1 rfl
  have y0 := (hw1.cell (p := ⟨g, o + c * 3, none⟩) hg).trans q0
  have y1 := (hw1.cell (p := ⟨g, o + c * 3 + 1, none⟩) hg).trans q1
  have y2 := (hw1.cell (p := ⟨g, o + c * 3 + 2, none⟩) hg).trans q2
  have hg1 : g < (w.alloc (.cells #[.int .i64 f.ps, .slice (some ⟨g, o, none⟩) f.ns.length cap] 46)).heap.size := Nat.lt_of_lt_of_le hg hw1.size
  have hfr := hf.later hw2
  have hkr := (hki.below hw2).more fun g hg => Nat.lt_of_lt_of_le hg hw2.size
  have hzz := hbn.lt
  obtain ⟨R, hR⟩ : ∃ R, txN 14 n (txF k d) (txF k (d + 1)) d = R := ⟨_, rfl⟩
  rw [hR] at hlen ⊢
  have HR := Lib.hid hR
  clear hR hki r1 r2 q0 q1 q2 hxo hxn e0 hr
  unfold fnV
  go_enter Tryz.func31, Tryz.ntmps31
  go_upto_region 2 with fail
  clear y0 y1 y2 f0 f1 hw1 hf
  have f0 := hbf2.c 0 rfl
  have f1 := hbf2.c 1 rfl
  have n0 := hbn.c 0 rfl
  have n1 := hbn.c 1 rfl
  have n2 := hbn.c 2 rfl
  generalize (w.alloc (.cells #[.int .i64 f.ps, .slice (some ⟨g, o, none⟩) f.ns.length cap] 46)).alloc (.cells #[.int .i64 14, .int .i64 n, .slice la x.l.length lc] 59) = w2 at *
  obtain ⟨J, hJ⟩ : ∃ J, brk (txF k d) = J := ⟨_, rfl⟩
  obtain ⟨Y, hY⟩ : ∃ Y, tB J = Y := ⟨_, rfl⟩
  have hRe := HR.out
  unfold txN at hRe
  rw [if_neg (by decide), if_neg (by decide), if_neg (by decide), if_neg (by decide), if_neg (by decide)] at hRe
  have e1 : (wTab (14 : Int).toNat) = ([115, 112, 97, 119, 110], 7) := rfl
  rw [e1] at hRe
  dsimp only at hRe
  rw [if_neg (by decide), if_pos rfl] at hRe
  rw [hJ] at hRe
  have hRl := congrArg List.length hRe
  simp only [List.length_append] at hRl
  try simp only [List.length_cons] at hRl
  try simp only [List.length_nil] at hRl
  have hYz : Y.size = J.length := by rw [← hY, tB_size]
  have hYb : Y.size ≤ 1000000000 := by omega
  have HYD : Hid (Y.data.toList = J) := by show _ = _; rw [← hY, tB_data]
  have hTx := fun wx (hx : Below w2.heap.size w2 wx) => texts_any m hX f (some ⟨g, o, none⟩) cap x.l la lc k d wx (by omega) hxk hok (hfr.later hx) ((hkr.below hx).more fun g hg => Nat.lt_of_lt_of_le hg hx.size) hlc hlm hd0 (by omega) (by rw [hJ]; omega)
  rw [hJ, hY] at hTx
  unfold fnV at hTx
  obtain ⟨O, hO⟩ : ∃ O, tB (102 :: Lib.itoa n) = O := ⟨_, rfl⟩
  have hOz : O.size ≤ 22 := by
    rw [← hO, tB_size]
    have := itoa_21 hn
    simp only [List.length_cons]
    omega
  have HOD : Hid (O.data.toList = 102 :: Lib.itoa n) := by show _ = _; rw [← hO, tB_data]
  have cO : ∀ d' os, Calls Tryz.prog 30 #[.string ⟨#[102]⟩, .int .i64 n] (grow (redrawn w2 d') os) fun e w'' => e = .returned (.string O) ∧ ∃ p : Regrown, w'' = grow (redrawn w2 p.d) p.os := fun d' os => (own_any 102 n hn _).mono (by
    rintro e w' ⟨rfl, rfl⟩
    exact ⟨by rw [hO], ⟨d', os⟩, rfl⟩)
  have cT : ∀ d' os, Calls Tryz.prog 56 #[.agg #[.int .i64 f.ps, .slice (some ⟨g, o, none⟩) f.ns.length cap], .slice la x.l.length lc, .int .i64 d] (grow (redrawn w2 d') os) fun e w'' => e = .returned (.string Y) ∧ ∃ p : Regrown, w'' = grow (redrawn w2 p.d) p.os := fun d' os => Calls.regrown_of (hTx _ (below_regrown w2 d' os))
  have g0 := fun d os => cell_regrown f0 d os
  have g1 := fun d os => cell_regrown f1 d os
  have m0 := fun d os => cell_regrown n0 d os
  have m1 := fun d os => cell_regrown n1 d os
  have m2 := fun d os => cell_regrown n2 d os
  have z1 : (⟨#[115, 112, 97, 119, 110, 32]⟩ : ByteArray).size = 6 := rfl
  have HT : Hid ((⟨#[115, 112, 97, 119, 110, 32]⟩ : ByteArray) ++ O ++ Y = tB R) := tB_of (by rw [ByteArray.data_append, ByteArray.data_append, Array.toList_append, Array.toList_append, HOD.out, HYD.out, ← hRe]; simp)
  have q1 : ¬ (9223372036854775807 < 6 + O.size) := by omega
  have q2 : ¬ (9223372036854775807 < 6 + O.size + Y.size) := by omega
  clear hO hJ hY hRe hRl hYz hTx hbf hbf2 hbn
  go_upto_region 18 with fail
  refine wp_region_quiet_below (by kernel_rfl) (by kernel_rfl) ?_
  repeat (go_big_quiet_step (with_reducible first | exact cO _ _ | exact cT _ _))
  refine wpQuiet_nil ?_
  intro _ hw'
  obtain ⟨⟨dq, osq⟩, hw''⟩ := hw'
  subst hw''
  have hb3 := hw2.trans ((below_regrown w2 dq osq).mono hw2.size)
  go_wp2_with fail
  go_ret
  exact ⟨by rw [HT.out]; rfl, hb3⟩
set_option maxRecDepth 100000 in
set_option maxHeartbeats 4000000 in
theorem text_21 (m : Nat) (hX : TxC m) : TxO (m + 1) 21 := by
  intro f na cap c n k d w hm hr ho hf hd0 hd hlen
  obtain ⟨x, l', e0, hx, hxo, hxn, hxk, -⟩ := hr.cons_inv
  obtain ⟨hk1, hn, hok, -⟩ := ho
  obtain ⟨g, o, la, lc, rfl, hg, q0, q1, q2, hlc, hlm, hki, r1, r2⟩ := hf.ns c x hx
  rw [hxo] at q0
  rw [hxn] at q1
  have hcl : c < f.ns.length := (List.getElem?_eq_some_iff.1 hx).1
  have hcl2 := hf.le
  have hcm := hf.cap
  have HKL := Lib.hid (rdF_cnt hxk)
  unfold maxLen at hcm
  have hbf := Blk.new w 46 [.int .i64 f.ps, .slice (some ⟨g, o, none⟩) f.ns.length cap]
  have hw1 := below_new w (.cells #[.int .i64 f.ps, .slice (some ⟨g, o, none⟩) f.ns.length cap] 46)
  have hbn := Blk.new (w.alloc (.cells #[.int .i64 f.ps, .slice (some ⟨g, o, none⟩) f.ns.length cap] 46)) 59 [.int .i64 21, .int .i64 n, .slice la x.l.length lc]
  rw [World.size_alloc] at hbn
  have hbf2 := hbf.alloc (.cells #[.int .i64 21, .int .i64 n, .slice la x.l.length lc] 59)
  have hw2 : Below w.heap.size w ((w.alloc (.cells #[.int .i64 f.ps, .slice (some ⟨g, o, none⟩) f.ns.length cap] 46)).alloc (.cells #[.int .i64 21, .int .i64 n, .slice la x.l.length lc] 59)) := (below_new _ _).alloc (by simp) _
  have f0 := hbf.c 0 rfl
  have f1 := hbf.c 1 rfl
  have y0 := (hw1.cell (p := ⟨g, o + c * 3, none⟩) hg).trans q0
  have y1 := (hw1.cell (p := ⟨g, o + c * 3 + 1, none⟩) hg).trans q1
  have y2 := (hw1.cell (p := ⟨g, o + c * 3 + 2, none⟩) hg).trans q2
  have hg1 : g < (w.alloc (.cells #[.int .i64 f.ps, .slice (some ⟨g, o, none⟩) f.ns.length cap] 46)).heap.size := Nat.lt_of_lt_of_le hg hw1.size
  have hfr := hf.later hw2
  have hkr := (hki.below hw2).more fun g hg => Nat.lt_of_lt_of_le hg hw2.size
  have hzz := hbn.lt
  obtain ⟨R, hR⟩ : ∃ R, txN 21 n (txF k d) (txF k (d + 1)) d = R := ⟨_, rfl⟩
  rw [hR] at hlen ⊢
  have HR := Lib.hid hR
  clear hR hki r1 r2 q0 q1 q2 hxo hxn e0 hr
  unfold fnV
  go_enter Tryz.func31, Tryz.ntmps31
  go_upto_region 2 with fail
  clear y0 y1 y2 f0 f1 hw1 hf
  have f0 := hbf2.c 0 rfl
  have f1 := hbf2.c 1 rfl
  have n0 := hbn.c 0 rfl
  have n1 := hbn.c 1 rfl
  have n2 := hbn.c 2 rfl
  generalize (w.alloc (.cells #[.int .i64 f.ps, .slice (some ⟨g, o, none⟩) f.ns.length cap] 46)).alloc (.cells #[.int .i64 21, .int .i64 n, .slice la x.l.length lc] 59) = w2 at *
  obtain ⟨J, hJ⟩ : ∃ J, brk (txF k d) = J := ⟨_, rfl⟩
  obtain ⟨Y, hY⟩ : ∃ Y, tB J = Y := ⟨_, rfl⟩
  have hRe := HR.out
  unfold txN at hRe
  rw [if_neg (by decide), if_neg (by decide), if_neg (by decide), if_neg (by decide), if_neg (by decide)] at hRe
  have e1 : (wTab (21 : Int).toNat) = ([119, 114, 97, 112], 7) := rfl
  rw [e1] at hRe
  dsimp only at hRe
  rw [if_neg (by decide), if_pos rfl] at hRe
  rw [hJ] at hRe
  have hRl := congrArg List.length hRe
  simp only [List.length_append] at hRl
  try simp only [List.length_cons] at hRl
  try simp only [List.length_nil] at hRl
  have hYz : Y.size = J.length := by rw [← hY, tB_size]
  have hYb : Y.size ≤ 1000000000 := by omega
  have HYD : Hid (Y.data.toList = J) := by show _ = _; rw [← hY, tB_data]
  have hTx := fun wx (hx : Below w2.heap.size w2 wx) => texts_any m hX f (some ⟨g, o, none⟩) cap x.l la lc k d wx (by omega) hxk hok (hfr.later hx) ((hkr.below hx).more fun g hg => Nat.lt_of_lt_of_le hg hx.size) hlc hlm hd0 (by omega) (by rw [hJ]; omega)
  rw [hJ, hY] at hTx
  unfold fnV at hTx
  obtain ⟨O, hO⟩ : ∃ O, tB (102 :: Lib.itoa n) = O := ⟨_, rfl⟩
  have hOz : O.size ≤ 22 := by
    rw [← hO, tB_size]
    have := itoa_21 hn
    simp only [List.length_cons]
    omega
  have HOD : Hid (O.data.toList = 102 :: Lib.itoa n) := by show _ = _; rw [← hO, tB_data]
  have cO : ∀ d' os, Calls Tryz.prog 30 #[.string ⟨#[102]⟩, .int .i64 n] (grow (redrawn w2 d') os) fun e w'' => e = .returned (.string O) ∧ ∃ p : Regrown, w'' = grow (redrawn w2 p.d) p.os := fun d' os => (own_any 102 n hn _).mono (by
    rintro e w' ⟨rfl, rfl⟩
    exact ⟨by rw [hO], ⟨d', os⟩, rfl⟩)
  have cT : ∀ d' os, Calls Tryz.prog 56 #[.agg #[.int .i64 f.ps, .slice (some ⟨g, o, none⟩) f.ns.length cap], .slice la x.l.length lc, .int .i64 d] (grow (redrawn w2 d') os) fun e w'' => e = .returned (.string Y) ∧ ∃ p : Regrown, w'' = grow (redrawn w2 p.d) p.os := fun d' os => Calls.regrown_of (hTx _ (below_regrown w2 d' os))
  have g0 := fun d os => cell_regrown f0 d os
  have g1 := fun d os => cell_regrown f1 d os
  have m0 := fun d os => cell_regrown n0 d os
  have m1 := fun d os => cell_regrown n1 d os
  have m2 := fun d os => cell_regrown n2 d os
  have z1 : (⟨#[119, 114, 97, 112, 32]⟩ : ByteArray).size = 5 := rfl
  have HT : Hid ((⟨#[119, 114, 97, 112, 32]⟩ : ByteArray) ++ O ++ Y = tB R) := tB_of (by rw [ByteArray.data_append, ByteArray.data_append, Array.toList_append, Array.toList_append, HOD.out, HYD.out, ← hRe]; simp)
  have q1 : ¬ (9223372036854775807 < 5 + O.size) := by omega
  have q2 : ¬ (9223372036854775807 < 5 + O.size + Y.size) := by omega
  clear hO hJ hY hRe hRl hYz hTx hbf hbf2 hbn
  go_upto_region 22 with fail
  refine wp_region_quiet_below (by kernel_rfl) (by kernel_rfl) ?_
  repeat (go_big_quiet_step (with_reducible first | exact cO _ _ | exact cT _ _))
  refine wpQuiet_nil ?_
  intro _ hw'
  obtain ⟨⟨dq, osq⟩, hw''⟩ := hw'
  subst hw''
  have hb3 := hw2.trans ((below_regrown w2 dq osq).mono hw2.size)
  go_wp2_with fail
  go_ret
  exact ⟨by rw [HT.out]; rfl, hb3⟩
set_option maxRecDepth 100000 in
set_option maxHeartbeats 4000000 in
theorem text_22 (m : Nat) (hX : TxC m) : TxO (m + 1) 22 := by
  intro f na cap c n k d w hm hr ho hf hd0 hd hlen
  obtain ⟨x, l', e0, hx, hxo, hxn, hxk, -⟩ := hr.cons_inv
  obtain ⟨hk1, hn, hok, -⟩ := ho
  obtain ⟨g, o, la, lc, rfl, hg, q0, q1, q2, hlc, hlm, hki, r1, r2⟩ := hf.ns c x hx
  rw [hxo] at q0
  rw [hxn] at q1
  have hcl : c < f.ns.length := (List.getElem?_eq_some_iff.1 hx).1
  have hcl2 := hf.le
  have hcm := hf.cap
  have HKL := Lib.hid (rdF_cnt hxk)
  unfold maxLen at hcm
  have hbf := Blk.new w 46 [.int .i64 f.ps, .slice (some ⟨g, o, none⟩) f.ns.length cap]
  have hw1 := below_new w (.cells #[.int .i64 f.ps, .slice (some ⟨g, o, none⟩) f.ns.length cap] 46)
  have hbn := Blk.new (w.alloc (.cells #[.int .i64 f.ps, .slice (some ⟨g, o, none⟩) f.ns.length cap] 46)) 59 [.int .i64 22, .int .i64 n, .slice la x.l.length lc]
  rw [World.size_alloc] at hbn
  have hbf2 := hbf.alloc (.cells #[.int .i64 22, .int .i64 n, .slice la x.l.length lc] 59)
  have hw2 : Below w.heap.size w ((w.alloc (.cells #[.int .i64 f.ps, .slice (some ⟨g, o, none⟩) f.ns.length cap] 46)).alloc (.cells #[.int .i64 22, .int .i64 n, .slice la x.l.length lc] 59)) := (below_new _ _).alloc (by simp) _
  have f0 := hbf.c 0 rfl
  have f1 := hbf.c 1 rfl
  have y0 := (hw1.cell (p := ⟨g, o + c * 3, none⟩) hg).trans q0
  have y1 := (hw1.cell (p := ⟨g, o + c * 3 + 1, none⟩) hg).trans q1
  have y2 := (hw1.cell (p := ⟨g, o + c * 3 + 2, none⟩) hg).trans q2
  have hg1 : g < (w.alloc (.cells #[.int .i64 f.ps, .slice (some ⟨g, o, none⟩) f.ns.length cap] 46)).heap.size := Nat.lt_of_lt_of_le hg hw1.size
  have hfr := hf.later hw2
  have hkr := (hki.below hw2).more fun g hg => Nat.lt_of_lt_of_le hg hw2.size
  have hzz := hbn.lt
  obtain ⟨R, hR⟩ : ∃ R, txN 22 n (txF k d) (txF k (d + 1)) d = R := ⟨_, rfl⟩
  rw [hR] at hlen ⊢
  have HR := Lib.hid hR
  clear hR hki r1 r2 q0 q1 q2 hxo hxn e0 hr
  unfold fnV
  go_enter Tryz.func31, Tryz.ntmps31
  go_upto_region 2 with fail
  clear y0 y1 y2 f0 f1 hw1 hf
  have f0 := hbf2.c 0 rfl
  have f1 := hbf2.c 1 rfl
  have n0 := hbn.c 0 rfl
  have n1 := hbn.c 1 rfl
  have n2 := hbn.c 2 rfl
  generalize (w.alloc (.cells #[.int .i64 f.ps, .slice (some ⟨g, o, none⟩) f.ns.length cap] 46)).alloc (.cells #[.int .i64 22, .int .i64 n, .slice la x.l.length lc] 59) = w2 at *
  obtain ⟨J, hJ⟩ : ∃ J, brk (txF k d) = J := ⟨_, rfl⟩
  obtain ⟨Y, hY⟩ : ∃ Y, tB J = Y := ⟨_, rfl⟩
  have hRe := HR.out
  unfold txN at hRe
  rw [if_neg (by decide), if_neg (by decide), if_neg (by decide), if_neg (by decide), if_neg (by decide)] at hRe
  have e1 : (wTab (22 : Int).toNat) = ([103, 117, 97, 114, 100], 7) := rfl
  rw [e1] at hRe
  dsimp only at hRe
  rw [if_neg (by decide), if_pos rfl] at hRe
  rw [hJ] at hRe
  have hRl := congrArg List.length hRe
  simp only [List.length_append] at hRl
  try simp only [List.length_cons] at hRl
  try simp only [List.length_nil] at hRl
  have hYz : Y.size = J.length := by rw [← hY, tB_size]
  have hYb : Y.size ≤ 1000000000 := by omega
  have HYD : Hid (Y.data.toList = J) := by show _ = _; rw [← hY, tB_data]
  have hTx := fun wx (hx : Below w2.heap.size w2 wx) => texts_any m hX f (some ⟨g, o, none⟩) cap x.l la lc k d wx (by omega) hxk hok (hfr.later hx) ((hkr.below hx).more fun g hg => Nat.lt_of_lt_of_le hg hx.size) hlc hlm hd0 (by omega) (by rw [hJ]; omega)
  rw [hJ, hY] at hTx
  unfold fnV at hTx
  obtain ⟨O, hO⟩ : ∃ O, tB (102 :: Lib.itoa n) = O := ⟨_, rfl⟩
  have hOz : O.size ≤ 22 := by
    rw [← hO, tB_size]
    have := itoa_21 hn
    simp only [List.length_cons]
    omega
  have HOD : Hid (O.data.toList = 102 :: Lib.itoa n) := by show _ = _; rw [← hO, tB_data]
  have cO : ∀ d' os, Calls Tryz.prog 30 #[.string ⟨#[102]⟩, .int .i64 n] (grow (redrawn w2 d') os) fun e w'' => e = .returned (.string O) ∧ ∃ p : Regrown, w'' = grow (redrawn w2 p.d) p.os := fun d' os => (own_any 102 n hn _).mono (by
    rintro e w' ⟨rfl, rfl⟩
    exact ⟨by rw [hO], ⟨d', os⟩, rfl⟩)
  have cT : ∀ d' os, Calls Tryz.prog 56 #[.agg #[.int .i64 f.ps, .slice (some ⟨g, o, none⟩) f.ns.length cap], .slice la x.l.length lc, .int .i64 d] (grow (redrawn w2 d') os) fun e w'' => e = .returned (.string Y) ∧ ∃ p : Regrown, w'' = grow (redrawn w2 p.d) p.os := fun d' os => Calls.regrown_of (hTx _ (below_regrown w2 d' os))
  have g0 := fun d os => cell_regrown f0 d os
  have g1 := fun d os => cell_regrown f1 d os
  have m0 := fun d os => cell_regrown n0 d os
  have m1 := fun d os => cell_regrown n1 d os
  have m2 := fun d os => cell_regrown n2 d os
  have z1 : (⟨#[103, 117, 97, 114, 100, 32]⟩ : ByteArray).size = 6 := rfl
  have HT : Hid ((⟨#[103, 117, 97, 114, 100, 32]⟩ : ByteArray) ++ O ++ Y = tB R) := tB_of (by rw [ByteArray.data_append, ByteArray.data_append, Array.toList_append, Array.toList_append, HOD.out, HYD.out, ← hRe]; simp)
  have q1 : ¬ (9223372036854775807 < 6 + O.size) := by omega
  have q2 : ¬ (9223372036854775807 < 6 + O.size + Y.size) := by omega
  clear hO hJ hY hRe hRl hYz hTx hbf hbf2 hbn
  go_upto_region 24 with fail
  refine wp_region_quiet_below (by kernel_rfl) (by kernel_rfl) ?_
  repeat (go_big_quiet_step (with_reducible first | exact cO _ _ | exact cT _ _))
  refine wpQuiet_nil ?_
  intro _ hw'
  obtain ⟨⟨dq, osq⟩, hw''⟩ := hw'
  subst hw''
  have hb3 := hw2.trans ((below_regrown w2 dq osq).mono hw2.size)
  go_wp2_with fail
  go_ret
  exact ⟨by rw [HT.out]; rfl, hb3⟩
set_option maxRecDepth 100000 in
set_option maxHeartbeats 4000000 in
theorem text_23 (m : Nat) (hX : TxC m) : TxO (m + 1) 23 := by
  intro f na cap c n k d w hm hr ho hf hd0 hd hlen
  obtain ⟨x, l', e0, hx, hxo, hxn, hxk, -⟩ := hr.cons_inv
  obtain ⟨hk1, hn, hok, -⟩ := ho
  obtain ⟨g, o, la, lc, rfl, hg, q0, q1, q2, hlc, hlm, hki, r1, r2⟩ := hf.ns c x hx
  rw [hxo] at q0
  rw [hxn] at q1
  have hcl : c < f.ns.length := (List.getElem?_eq_some_iff.1 hx).1
  have hcl2 := hf.le
  have hcm := hf.cap
  have HKL := Lib.hid (rdF_cnt hxk)
  unfold maxLen at hcm
  have hbf := Blk.new w 46 [.int .i64 f.ps, .slice (some ⟨g, o, none⟩) f.ns.length cap]
  have hw1 := below_new w (.cells #[.int .i64 f.ps, .slice (some ⟨g, o, none⟩) f.ns.length cap] 46)
  have hbn := Blk.new (w.alloc (.cells #[.int .i64 f.ps, .slice (some ⟨g, o, none⟩) f.ns.length cap] 46)) 59 [.int .i64 23, .int .i64 n, .slice la x.l.length lc]
  rw [World.size_alloc] at hbn
  have hbf2 := hbf.alloc (.cells #[.int .i64 23, .int .i64 n, .slice la x.l.length lc] 59)
  have hw2 : Below w.heap.size w ((w.alloc (.cells #[.int .i64 f.ps, .slice (some ⟨g, o, none⟩) f.ns.length cap] 46)).alloc (.cells #[.int .i64 23, .int .i64 n, .slice la x.l.length lc] 59)) := (below_new _ _).alloc (by simp) _
  have f0 := hbf.c 0 rfl
  have f1 := hbf.c 1 rfl
  have y0 := (hw1.cell (p := ⟨g, o + c * 3, none⟩) hg).trans q0
  have y1 := (hw1.cell (p := ⟨g, o + c * 3 + 1, none⟩) hg).trans q1
  have y2 := (hw1.cell (p := ⟨g, o + c * 3 + 2, none⟩) hg).trans q2
  have hg1 : g < (w.alloc (.cells #[.int .i64 f.ps, .slice (some ⟨g, o, none⟩) f.ns.length cap] 46)).heap.size := Nat.lt_of_lt_of_le hg hw1.size
  have hfr := hf.later hw2
  have hkr := (hki.below hw2).more fun g hg => Nat.lt_of_lt_of_le hg hw2.size
  have hzz := hbn.lt
  obtain ⟨R, hR⟩ : ∃ R, txN 23 n (txF k d) (txF k (d + 1)) d = R := ⟨_, rfl⟩
  rw [hR] at hlen ⊢
  have HR := Lib.hid hR
  clear hR hki r1 r2 q0 q1 q2 hxo hxn e0 hr
  unfold fnV
  go_enter Tryz.func31, Tryz.ntmps31
  go_upto_region 2 with fail
  clear y0 y1 y2 f0 f1 hw1 hf
  have f0 := hbf2.c 0 rfl
  have f1 := hbf2.c 1 rfl
  have n0 := hbn.c 0 rfl
  have n1 := hbn.c 1 rfl
  have n2 := hbn.c 2 rfl
  generalize (w.alloc (.cells #[.int .i64 f.ps, .slice (some ⟨g, o, none⟩) f.ns.length cap] 46)).alloc (.cells #[.int .i64 23, .int .i64 n, .slice la x.l.length lc] 59) = w2 at *
  obtain ⟨J, hJ⟩ : ∃ J, brk (txF k d) = J := ⟨_, rfl⟩
  obtain ⟨Y, hY⟩ : ∃ Y, tB J = Y := ⟨_, rfl⟩
  have hRe := HR.out
  unfold txN at hRe
  rw [if_neg (by decide), if_neg (by decide), if_neg (by decide), if_neg (by decide), if_neg (by decide)] at hRe
  have e1 : (wTab (23 : Int).toNat) = ([110, 97, 99, 107], 7) := rfl
  rw [e1] at hRe
  dsimp only at hRe
  rw [if_neg (by decide), if_pos rfl] at hRe
  rw [hJ] at hRe
  have hRl := congrArg List.length hRe
  simp only [List.length_append] at hRl
  try simp only [List.length_cons] at hRl
  try simp only [List.length_nil] at hRl
  have hYz : Y.size = J.length := by rw [← hY, tB_size]
  have hYb : Y.size ≤ 1000000000 := by omega
  have HYD : Hid (Y.data.toList = J) := by show _ = _; rw [← hY, tB_data]
  have hTx := fun wx (hx : Below w2.heap.size w2 wx) => texts_any m hX f (some ⟨g, o, none⟩) cap x.l la lc k d wx (by omega) hxk hok (hfr.later hx) ((hkr.below hx).more fun g hg => Nat.lt_of_lt_of_le hg hx.size) hlc hlm hd0 (by omega) (by rw [hJ]; omega)
  rw [hJ, hY] at hTx
  unfold fnV at hTx
  obtain ⟨O, hO⟩ : ∃ O, tB (102 :: Lib.itoa n) = O := ⟨_, rfl⟩
  have hOz : O.size ≤ 22 := by
    rw [← hO, tB_size]
    have := itoa_21 hn
    simp only [List.length_cons]
    omega
  have HOD : Hid (O.data.toList = 102 :: Lib.itoa n) := by show _ = _; rw [← hO, tB_data]
  have cO : ∀ d' os, Calls Tryz.prog 30 #[.string ⟨#[102]⟩, .int .i64 n] (grow (redrawn w2 d') os) fun e w'' => e = .returned (.string O) ∧ ∃ p : Regrown, w'' = grow (redrawn w2 p.d) p.os := fun d' os => (own_any 102 n hn _).mono (by
    rintro e w' ⟨rfl, rfl⟩
    exact ⟨by rw [hO], ⟨d', os⟩, rfl⟩)
  have cT : ∀ d' os, Calls Tryz.prog 56 #[.agg #[.int .i64 f.ps, .slice (some ⟨g, o, none⟩) f.ns.length cap], .slice la x.l.length lc, .int .i64 d] (grow (redrawn w2 d') os) fun e w'' => e = .returned (.string Y) ∧ ∃ p : Regrown, w'' = grow (redrawn w2 p.d) p.os := fun d' os => Calls.regrown_of (hTx _ (below_regrown w2 d' os))
  have g0 := fun d os => cell_regrown f0 d os
  have g1 := fun d os => cell_regrown f1 d os
  have m0 := fun d os => cell_regrown n0 d os
  have m1 := fun d os => cell_regrown n1 d os
  have m2 := fun d os => cell_regrown n2 d os
  have z1 : (⟨#[110, 97, 99, 107, 32]⟩ : ByteArray).size = 5 := rfl
  have HT : Hid ((⟨#[110, 97, 99, 107, 32]⟩ : ByteArray) ++ O ++ Y = tB R) := tB_of (by rw [ByteArray.data_append, ByteArray.data_append, Array.toList_append, Array.toList_append, HOD.out, HYD.out, ← hRe]; simp)
  have q1 : ¬ (9223372036854775807 < 5 + O.size) := by omega
  have q2 : ¬ (9223372036854775807 < 5 + O.size + Y.size) := by omega
  clear hO hJ hY hRe hRl hYz hTx hbf hbf2 hbn
  go_upto_region 26 with fail
  refine wp_region_quiet_below (by kernel_rfl) (by kernel_rfl) ?_
  repeat (go_big_quiet_step (with_reducible first | exact cO _ _ | exact cT _ _))
  refine wpQuiet_nil ?_
  intro _ hw'
  obtain ⟨⟨dq, osq⟩, hw''⟩ := hw'
  subst hw''
  have hb3 := hw2.trans ((below_regrown w2 dq osq).mono hw2.size)
  go_wp2_with fail
  go_ret
  exact ⟨by rw [HT.out]; rfl, hb3⟩
set_option maxRecDepth 100000 in
set_option maxHeartbeats 4000000 in
theorem text_20 (m : Nat) (hX : TxC m) : TxO (m + 1) 20 := by
  intro f na cap c n k d w hm hr ho hf hd0 hd hlen
  obtain ⟨x, l', e0, hx, hxo, hxn, hxk, -⟩ := hr.cons_inv
  obtain ⟨hk1, hn, hok, -⟩ := ho
  obtain ⟨g, o, la, lc, rfl, hg, q0, q1, q2, hlc, hlm, hki, r1, r2⟩ := hf.ns c x hx
  rw [hxo] at q0
  rw [hxn] at q1
  have hcl : c < f.ns.length := (List.getElem?_eq_some_iff.1 hx).1
  have hcl2 := hf.le
  have hcm := hf.cap
  have HKL := Lib.hid (rdF_cnt hxk)
  unfold maxLen at hcm
  have hbf := Blk.new w 46 [.int .i64 f.ps, .slice (some ⟨g, o, none⟩) f.ns.length cap]
  have hw1 := below_new w (.cells #[.int .i64 f.ps, .slice (some ⟨g, o, none⟩) f.ns.length cap] 46)
  have hbn := Blk.new (w.alloc (.cells #[.int .i64 f.ps, .slice (some ⟨g, o, none⟩) f.ns.length cap] 46)) 59 [.int .i64 20, .int .i64 n, .slice la x.l.length lc]
  rw [World.size_alloc] at hbn
  have hbf2 := hbf.alloc (.cells #[.int .i64 20, .int .i64 n, .slice la x.l.length lc] 59)
  have hw2 : Below w.heap.size w ((w.alloc (.cells #[.int .i64 f.ps, .slice (some ⟨g, o, none⟩) f.ns.length cap] 46)).alloc (.cells #[.int .i64 20, .int .i64 n, .slice la x.l.length lc] 59)) := (below_new _ _).alloc (by simp) _
  have f0 := hbf.c 0 rfl
  have f1 := hbf.c 1 rfl
  have y0 := (hw1.cell (p := ⟨g, o + c * 3, none⟩) hg).trans q0
  have y1 := (hw1.cell (p := ⟨g, o + c * 3 + 1, none⟩) hg).trans q1
  have y2 := (hw1.cell (p := ⟨g, o + c * 3 + 2, none⟩) hg).trans q2
  have hg1 : g < (w.alloc (.cells #[.int .i64 f.ps, .slice (some ⟨g, o, none⟩) f.ns.length cap] 46)).heap.size := Nat.lt_of_lt_of_le hg hw1.size
  have hfr := hf.later hw2
  have hkr := (hki.below hw2).more fun g hg => Nat.lt_of_lt_of_le hg hw2.size
  have hzz := hbn.lt
  obtain ⟨R, hR⟩ : ∃ R, txN 20 n (txF k d) (txF k (d + 1)) d = R := ⟨_, rfl⟩
  rw [hR] at hlen ⊢
  have HR := Lib.hid hR
  clear hR hki r1 r2 q0 q1 q2 hxo hxn e0 hr
  unfold fnV
  go_enter Tryz.func31, Tryz.ntmps31
  go_upto_region 2 with fail
  clear y0 y1 y2 f0 f1 hw1 hf
  have f0 := hbf2.c 0 rfl
  have f1 := hbf2.c 1 rfl
  have n0 := hbn.c 0 rfl
  have n1 := hbn.c 1 rfl
  have n2 := hbn.c 2 rfl
  generalize (w.alloc (.cells #[.int .i64 f.ps, .slice (some ⟨g, o, none⟩) f.ns.length cap] 46)).alloc (.cells #[.int .i64 20, .int .i64 n, .slice la x.l.length lc] 59) = w2 at *
  obtain ⟨J, hJ⟩ : ∃ J, brk (txF k d) = J := ⟨_, rfl⟩
  obtain ⟨Y, hY⟩ : ∃ Y, tB J = Y := ⟨_, rfl⟩
  have hRe := HR.out
  unfold txN at hRe
  rw [if_neg (by decide), if_neg (by decide), if_neg (by decide), if_neg (by decide), if_neg (by decide)] at hRe
  have e1 : (wTab (20 : Int).toNat) = ([99, 104, 111, 111, 115, 101], 6) := rfl
  rw [e1] at hRe
  dsimp only at hRe
  rw [if_neg (by decide), if_neg (by decide)] at hRe
  rw [hJ] at hRe
  have hRl := congrArg List.length hRe
  simp only [List.length_append] at hRl
  try simp only [List.length_cons] at hRl
  try simp only [List.length_nil] at hRl
  have hYz : Y.size = J.length := by rw [← hY, tB_size]
  have hYb : Y.size ≤ 1000000000 := by omega
  have HYD : Hid (Y.data.toList = J) := by show _ = _; rw [← hY, tB_data]
  have hTx := fun wx (hx : Below w2.heap.size w2 wx) => texts_any m hX f (some ⟨g, o, none⟩) cap x.l la lc k d wx (by omega) hxk hok (hfr.later hx) ((hkr.below hx).more fun g hg => Nat.lt_of_lt_of_le hg hx.size) hlc hlm hd0 (by omega) (by rw [hJ]; omega)
  rw [hJ, hY] at hTx
  unfold fnV at hTx
  have hT0 := hTx w2 (Below.refl _ _)
  have z1 : (⟨#[99, 104, 111, 111, 115, 101]⟩ : ByteArray).size = 6 := rfl
  have HT : Hid ((⟨#[99, 104, 111, 111, 115, 101]⟩ : ByteArray) ++ Y = tB R) := tB_of (by rw [ByteArray.data_append, Array.toList_append, HYD.out, ← hRe]; simp)
  have q1 : ¬ (9223372036854775807 < 6 + Y.size) := by omega
  clear hJ hY hRe hRl hYz hTx hbf hbf2 hbn
  go_wp2_with (go_at_call 56; refine hT0.mono ?_; rintro e w3 ⟨rfl, hb3⟩)
  go_ret
  exact ⟨by rw [HT.out]; rfl, hw2.trans (hb3.mono hw2.size)⟩
set_option maxRecDepth 100000 in
set_option maxHeartbeats 4000000 in
theorem text_6 (m : Nat) (hX : TxC m) : TxO (m + 1) 6 := by
  intro f na cap c n k d w hm hr ho hf hd0 hd hlen
  obtain ⟨x, l', e0, hx, hxo, hxn, hxk, -⟩ := hr.cons_inv
  obtain ⟨hk1, hn, hok, -⟩ := ho
  obtain ⟨g, o, la, lc, rfl, hg, q0, q1, q2, hlc, hlm, hki, r1, r2⟩ := hf.ns c x hx
  rw [hxo] at q0
  rw [hxn] at q1
  have hcl : c < f.ns.length := (List.getElem?_eq_some_iff.1 hx).1
  have hcl2 := hf.le
  have hcm := hf.cap
  have HKL := Lib.hid (rdF_cnt hxk)
  unfold maxLen at hcm
  have hbf := Blk.new w 46 [.int .i64 f.ps, .slice (some ⟨g, o, none⟩) f.ns.length cap]
  have hw1 := below_new w (.cells #[.int .i64 f.ps, .slice (some ⟨g, o, none⟩) f.ns.length cap] 46)
  have hbn := Blk.new (w.alloc (.cells #[.int .i64 f.ps, .slice (some ⟨g, o, none⟩) f.ns.length cap] 46)) 59 [.int .i64 6, .int .i64 n, .slice la x.l.length lc]
  rw [World.size_alloc] at hbn
  have hbf2 := hbf.alloc (.cells #[.int .i64 6, .int .i64 n, .slice la x.l.length lc] 59)
  have hw2 : Below w.heap.size w ((w.alloc (.cells #[.int .i64 f.ps, .slice (some ⟨g, o, none⟩) f.ns.length cap] 46)).alloc (.cells #[.int .i64 6, .int .i64 n, .slice la x.l.length lc] 59)) := (below_new _ _).alloc (by simp) _
  have f0 := hbf.c 0 rfl
  have f1 := hbf.c 1 rfl
  have y0 := (hw1.cell (p := ⟨g, o + c * 3, none⟩) hg).trans q0
  have y1 := (hw1.cell (p := ⟨g, o + c * 3 + 1, none⟩) hg).trans q1
  have y2 := (hw1.cell (p := ⟨g, o + c * 3 + 2, none⟩) hg).trans q2
  have hg1 : g < (w.alloc (.cells #[.int .i64 f.ps, .slice (some ⟨g, o, none⟩) f.ns.length cap] 46)).heap.size := Nat.lt_of_lt_of_le hg hw1.size
  have hfr := hf.later hw2
  have hkr := (hki.below hw2).more fun g hg => Nat.lt_of_lt_of_le hg hw2.size
  have hzz := hbn.lt
  obtain ⟨R, hR⟩ : ∃ R, txN 6 n (txF k d) (txF k (d + 1)) d = R := ⟨_, rfl⟩
  rw [hR] at hlen ⊢
  have HR := Lib.hid hR
  clear hR hki r1 r2 q0 q1 q2 hxo hxn e0 hr
  unfold fnV
  go_enter Tryz.func31, Tryz.ntmps31
  go_upto_region 2 with fail
  clear y0 y1 y2 f0 f1 hw1 hf
  have f0 := hbf2.c 0 rfl
  have f1 := hbf2.c 1 rfl
  have n0 := hbn.c 0 rfl
  have n1 := hbn.c 1 rfl
  have n2 := hbn.c 2 rfl
  generalize (w.alloc (.cells #[.int .i64 f.ps, .slice (some ⟨g, o, none⟩) f.ns.length cap] 46)).alloc (.cells #[.int .i64 6, .int .i64 n, .slice la x.l.length lc] 59) = w2 at *
  obtain ⟨J, hJ⟩ : ∃ J, brk (txF k d) = J := ⟨_, rfl⟩
  obtain ⟨Y, hY⟩ : ∃ Y, tB J = Y := ⟨_, rfl⟩
  have hRe := HR.out
  unfold txN at hRe
  rw [if_neg (by decide), if_neg (by decide), if_neg (by decide), if_neg (by decide), if_neg (by decide)] at hRe
  have e1 : (wTab (6 : Int).toNat) = ([97, 100, 100], 5) := rfl
  rw [e1] at hRe
  dsimp only at hRe
  rw [if_neg (by decide), if_neg (by decide)] at hRe
  rw [hJ] at hRe
  have hRl := congrArg List.length hRe
  simp only [List.length_append] at hRl
  try simp only [List.length_cons] at hRl
  try simp only [List.length_nil] at hRl
  have hYz : Y.size = J.length := by rw [← hY, tB_size]
  have hYb : Y.size ≤ 1000000000 := by omega
  have HYD : Hid (Y.data.toList = J) := by show _ = _; rw [← hY, tB_data]
  have hTx := fun wx (hx : Below w2.heap.size w2 wx) => texts_any m hX f (some ⟨g, o, none⟩) cap x.l la lc k d wx (by omega) hxk hok (hfr.later hx) ((hkr.below hx).more fun g hg => Nat.lt_of_lt_of_le hg hx.size) hlc hlm hd0 (by omega) (by rw [hJ]; omega)
  rw [hJ, hY] at hTx
  unfold fnV at hTx
  have z1 : (⟨#[97, 100, 100]⟩ : ByteArray).size = 3 := rfl
  have HT : Hid ((⟨#[97, 100, 100]⟩ : ByteArray) ++ Y = tB R) := tB_of (by rw [ByteArray.data_append, Array.toList_append, HYD.out, ← hRe]; simp)
  have q1 : ¬ (9223372036854775807 < 3 + Y.size) := by omega
  have hbt := Blk.new w2 9 [.string ⟨#[]⟩, .string ⟨#[]⟩, .string ⟨#[]⟩, .string ⟨#[]⟩, .string ⟨#[]⟩, .string ⟨#[]⟩, .string ⟨#[97, 100, 100]⟩, .string ⟨#[115, 117, 98]⟩, .string ⟨#[101, 113]⟩, .string ⟨#[108, 101, 115, 115]⟩, .string ⟨#[112, 97, 105, 114]⟩, .string ⟨#[102, 105, 114, 115, 116]⟩, .string ⟨#[115, 101, 99, 111, 110, 100]⟩, .string ⟨#[]⟩, .string ⟨#[]⟩, .string ⟨#[]⟩, .string ⟨#[115, 101, 110, 100]⟩, .string ⟨#[114, 101, 99, 118]⟩, .string ⟨#[97, 108, 119, 97, 121, 115]⟩, .string ⟨#[]⟩, .string ⟨#[]⟩, .string ⟨#[]⟩, .string ⟨#[]⟩, .string ⟨#[]⟩, .string ⟨#[115, 121, 110, 99]⟩]
  have hw3 := below_new w2 (.cells #[.string ⟨#[]⟩, .string ⟨#[]⟩, .string ⟨#[]⟩, .string ⟨#[]⟩, .string ⟨#[]⟩, .string ⟨#[]⟩, .string ⟨#[97, 100, 100]⟩, .string ⟨#[115, 117, 98]⟩, .string ⟨#[101, 113]⟩, .string ⟨#[108, 101, 115, 115]⟩, .string ⟨#[112, 97, 105, 114]⟩, .string ⟨#[102, 105, 114, 115, 116]⟩, .string ⟨#[115, 101, 99, 111, 110, 100]⟩, .string ⟨#[]⟩, .string ⟨#[]⟩, .string ⟨#[]⟩, .string ⟨#[115, 101, 110, 100]⟩, .string ⟨#[114, 101, 99, 118]⟩, .string ⟨#[97, 108, 119, 97, 121, 115]⟩, .string ⟨#[]⟩, .string ⟨#[]⟩, .string ⟨#[]⟩, .string ⟨#[]⟩, .string ⟨#[]⟩, .string ⟨#[115, 121, 110, 99]⟩] 9)
  have hbf3 := hbf2.belowAll hw3
  have hbn3 := hbn.belowAll hw3
  clear hJ hY hRe hRl hYz hbf hbf2 hbn
  go_upto_region 28 with fail
  clear f0 f1 n0 n1 n2
  generalize w2.alloc (.cells #[.string ⟨#[]⟩, .string ⟨#[]⟩, .string ⟨#[]⟩, .string ⟨#[]⟩, .string ⟨#[]⟩, .string ⟨#[]⟩, .string ⟨#[97, 100, 100]⟩, .string ⟨#[115, 117, 98]⟩, .string ⟨#[101, 113]⟩, .string ⟨#[108, 101, 115, 115]⟩, .string ⟨#[112, 97, 105, 114]⟩, .string ⟨#[102, 105, 114, 115, 116]⟩, .string ⟨#[115, 101, 99, 111, 110, 100]⟩, .string ⟨#[]⟩, .string ⟨#[]⟩, .string ⟨#[]⟩, .string ⟨#[115, 101, 110, 100]⟩, .string ⟨#[114, 101, 99, 118]⟩, .string ⟨#[97, 108, 119, 97, 121, 115]⟩, .string ⟨#[]⟩, .string ⟨#[]⟩, .string ⟨#[]⟩, .string ⟨#[]⟩, .string ⟨#[]⟩, .string ⟨#[115, 121, 110, 99]⟩] 9) = w3 at *
  have f0 := hbf3.c 0 rfl
  have f1 := hbf3.c 1 rfl
  have n0 := hbn3.c 0 rfl
  have n2 := hbn3.c 2 rfl
  have t0 := hbt.c 6 rfl
  have g0 := fun d os => cell_regrown f0 d os
  have g1 := fun d os => cell_regrown f1 d os
  have m0 := fun d os => cell_regrown n0 d os
  have m2 := fun d os => cell_regrown n2 d os
  have s0 := fun d os => cell_regrown t0 d os
  have cT : ∀ d' os, Calls Tryz.prog 56 #[.agg #[.int .i64 f.ps, .slice (some ⟨g, o, none⟩) f.ns.length cap], .slice la x.l.length lc, .int .i64 d] (grow (redrawn w3 d') os) fun e w'' => e = .returned (.string Y) ∧ ∃ p : Regrown, w'' = grow (redrawn w3 p.d) p.os := fun d' os => Calls.regrown_of (hTx _ (hw3.trans ((below_regrown w3 d' os).mono hw3.size)))
  clear hTx hbf3 hbn3 hbt
  refine wp_region_quiet_below (by kernel_rfl) (by kernel_rfl) ?_
  repeat (go_big_quiet_step (with_reducible exact cT _ _))
  refine wpQuiet_nil ?_
  intro _ hw'
  obtain ⟨⟨dq, osq⟩, hw''⟩ := hw'
  subst hw''
  have hb3 := (hw2.trans (hw3.mono hw2.size)).trans ((below_regrown w3 dq osq).mono (by have := hw2.size; have := hw3.size; omega))
  go_wp2_with fail
  go_ret
  exact ⟨by rw [HT.out]; rfl, hb3⟩
set_option maxRecDepth 100000 in
set_option maxHeartbeats 4000000 in
theorem text_7 (m : Nat) (hX : TxC m) : TxO (m + 1) 7 := by
  intro f na cap c n k d w hm hr ho hf hd0 hd hlen
  obtain ⟨x, l', e0, hx, hxo, hxn, hxk, -⟩ := hr.cons_inv
  obtain ⟨hk1, hn, hok, -⟩ := ho
  obtain ⟨g, o, la, lc, rfl, hg, q0, q1, q2, hlc, hlm, hki, r1, r2⟩ := hf.ns c x hx
  rw [hxo] at q0
  rw [hxn] at q1
  have hcl : c < f.ns.length := (List.getElem?_eq_some_iff.1 hx).1
  have hcl2 := hf.le
  have hcm := hf.cap
  have HKL := Lib.hid (rdF_cnt hxk)
  unfold maxLen at hcm
  have hbf := Blk.new w 46 [.int .i64 f.ps, .slice (some ⟨g, o, none⟩) f.ns.length cap]
  have hw1 := below_new w (.cells #[.int .i64 f.ps, .slice (some ⟨g, o, none⟩) f.ns.length cap] 46)
  have hbn := Blk.new (w.alloc (.cells #[.int .i64 f.ps, .slice (some ⟨g, o, none⟩) f.ns.length cap] 46)) 59 [.int .i64 7, .int .i64 n, .slice la x.l.length lc]
  rw [World.size_alloc] at hbn
  have hbf2 := hbf.alloc (.cells #[.int .i64 7, .int .i64 n, .slice la x.l.length lc] 59)
  have hw2 : Below w.heap.size w ((w.alloc (.cells #[.int .i64 f.ps, .slice (some ⟨g, o, none⟩) f.ns.length cap] 46)).alloc (.cells #[.int .i64 7, .int .i64 n, .slice la x.l.length lc] 59)) := (below_new _ _).alloc (by simp) _
  have f0 := hbf.c 0 rfl
  have f1 := hbf.c 1 rfl
  have y0 := (hw1.cell (p := ⟨g, o + c * 3, none⟩) hg).trans q0
  have y1 := (hw1.cell (p := ⟨g, o + c * 3 + 1, none⟩) hg).trans q1
  have y2 := (hw1.cell (p := ⟨g, o + c * 3 + 2, none⟩) hg).trans q2
  have hg1 : g < (w.alloc (.cells #[.int .i64 f.ps, .slice (some ⟨g, o, none⟩) f.ns.length cap] 46)).heap.size := Nat.lt_of_lt_of_le hg hw1.size
  have hfr := hf.later hw2
  have hkr := (hki.below hw2).more fun g hg => Nat.lt_of_lt_of_le hg hw2.size
  have hzz := hbn.lt
  obtain ⟨R, hR⟩ : ∃ R, txN 7 n (txF k d) (txF k (d + 1)) d = R := ⟨_, rfl⟩
  rw [hR] at hlen ⊢
  have HR := Lib.hid hR
  clear hR hki r1 r2 q0 q1 q2 hxo hxn e0 hr
  unfold fnV
  go_enter Tryz.func31, Tryz.ntmps31
  go_upto_region 2 with fail
  clear y0 y1 y2 f0 f1 hw1 hf
  have f0 := hbf2.c 0 rfl
  have f1 := hbf2.c 1 rfl
  have n0 := hbn.c 0 rfl
  have n1 := hbn.c 1 rfl
  have n2 := hbn.c 2 rfl
  generalize (w.alloc (.cells #[.int .i64 f.ps, .slice (some ⟨g, o, none⟩) f.ns.length cap] 46)).alloc (.cells #[.int .i64 7, .int .i64 n, .slice la x.l.length lc] 59) = w2 at *
  obtain ⟨J, hJ⟩ : ∃ J, brk (txF k d) = J := ⟨_, rfl⟩
  obtain ⟨Y, hY⟩ : ∃ Y, tB J = Y := ⟨_, rfl⟩
  have hRe := HR.out
  unfold txN at hRe
  rw [if_neg (by decide), if_neg (by decide), if_neg (by decide), if_neg (by decide), if_neg (by decide)] at hRe
  have e1 : (wTab (7 : Int).toNat) = ([115, 117, 98], 5) := rfl
  rw [e1] at hRe
  dsimp only at hRe
  rw [if_neg (by decide), if_neg (by decide)] at hRe
  rw [hJ] at hRe
  have hRl := congrArg List.length hRe
  simp only [List.length_append] at hRl
  try simp only [List.length_cons] at hRl
  try simp only [List.length_nil] at hRl
  have hYz : Y.size = J.length := by rw [← hY, tB_size]
  have hYb : Y.size ≤ 1000000000 := by omega
  have HYD : Hid (Y.data.toList = J) := by show _ = _; rw [← hY, tB_data]
  have hTx := fun wx (hx : Below w2.heap.size w2 wx) => texts_any m hX f (some ⟨g, o, none⟩) cap x.l la lc k d wx (by omega) hxk hok (hfr.later hx) ((hkr.below hx).more fun g hg => Nat.lt_of_lt_of_le hg hx.size) hlc hlm hd0 (by omega) (by rw [hJ]; omega)
  rw [hJ, hY] at hTx
  unfold fnV at hTx
  have z1 : (⟨#[115, 117, 98]⟩ : ByteArray).size = 3 := rfl
  have HT : Hid ((⟨#[115, 117, 98]⟩ : ByteArray) ++ Y = tB R) := tB_of (by rw [ByteArray.data_append, Array.toList_append, HYD.out, ← hRe]; simp)
  have q1 : ¬ (9223372036854775807 < 3 + Y.size) := by omega
  have hbt := Blk.new w2 9 [.string ⟨#[]⟩, .string ⟨#[]⟩, .string ⟨#[]⟩, .string ⟨#[]⟩, .string ⟨#[]⟩, .string ⟨#[]⟩, .string ⟨#[97, 100, 100]⟩, .string ⟨#[115, 117, 98]⟩, .string ⟨#[101, 113]⟩, .string ⟨#[108, 101, 115, 115]⟩, .string ⟨#[112, 97, 105, 114]⟩, .string ⟨#[102, 105, 114, 115, 116]⟩, .string ⟨#[115, 101, 99, 111, 110, 100]⟩, .string ⟨#[]⟩, .string ⟨#[]⟩, .string ⟨#[]⟩, .string ⟨#[115, 101, 110, 100]⟩, .string ⟨#[114, 101, 99, 118]⟩, .string ⟨#[97, 108, 119, 97, 121, 115]⟩, .string ⟨#[]⟩, .string ⟨#[]⟩, .string ⟨#[]⟩, .string ⟨#[]⟩, .string ⟨#[]⟩, .string ⟨#[115, 121, 110, 99]⟩]
  have hw3 := below_new w2 (.cells #[.string ⟨#[]⟩, .string ⟨#[]⟩, .string ⟨#[]⟩, .string ⟨#[]⟩, .string ⟨#[]⟩, .string ⟨#[]⟩, .string ⟨#[97, 100, 100]⟩, .string ⟨#[115, 117, 98]⟩, .string ⟨#[101, 113]⟩, .string ⟨#[108, 101, 115, 115]⟩, .string ⟨#[112, 97, 105, 114]⟩, .string ⟨#[102, 105, 114, 115, 116]⟩, .string ⟨#[115, 101, 99, 111, 110, 100]⟩, .string ⟨#[]⟩, .string ⟨#[]⟩, .string ⟨#[]⟩, .string ⟨#[115, 101, 110, 100]⟩, .string ⟨#[114, 101, 99, 118]⟩, .string ⟨#[97, 108, 119, 97, 121, 115]⟩, .string ⟨#[]⟩, .string ⟨#[]⟩, .string ⟨#[]⟩, .string ⟨#[]⟩, .string ⟨#[]⟩, .string ⟨#[115, 121, 110, 99]⟩] 9)
  have hbf3 := hbf2.belowAll hw3
  have hbn3 := hbn.belowAll hw3
  clear hJ hY hRe hRl hYz hbf hbf2 hbn
  go_upto_region 28 with fail
  clear f0 f1 n0 n1 n2
  generalize w2.alloc (.cells #[.string ⟨#[]⟩, .string ⟨#[]⟩, .string ⟨#[]⟩, .string ⟨#[]⟩, .string ⟨#[]⟩, .string ⟨#[]⟩, .string ⟨#[97, 100, 100]⟩, .string ⟨#[115, 117, 98]⟩, .string ⟨#[101, 113]⟩, .string ⟨#[108, 101, 115, 115]⟩, .string ⟨#[112, 97, 105, 114]⟩, .string ⟨#[102, 105, 114, 115, 116]⟩, .string ⟨#[115, 101, 99, 111, 110, 100]⟩, .string ⟨#[]⟩, .string ⟨#[]⟩, .string ⟨#[]⟩, .string ⟨#[115, 101, 110, 100]⟩, .string ⟨#[114, 101, 99, 118]⟩, .string ⟨#[97, 108, 119, 97, 121, 115]⟩, .string ⟨#[]⟩, .string ⟨#[]⟩, .string ⟨#[]⟩, .string ⟨#[]⟩, .string ⟨#[]⟩, .string ⟨#[115, 121, 110, 99]⟩] 9) = w3 at *
  have f0 := hbf3.c 0 rfl
  have f1 := hbf3.c 1 rfl
  have n0 := hbn3.c 0 rfl
  have n2 := hbn3.c 2 rfl
  have t0 := hbt.c 7 rfl
  have g0 := fun d os => cell_regrown f0 d os
  have g1 := fun d os => cell_regrown f1 d os
  have m0 := fun d os => cell_regrown n0 d os
  have m2 := fun d os => cell_regrown n2 d os
  have s0 := fun d os => cell_regrown t0 d os
  have cT : ∀ d' os, Calls Tryz.prog 56 #[.agg #[.int .i64 f.ps, .slice (some ⟨g, o, none⟩) f.ns.length cap], .slice la x.l.length lc, .int .i64 d] (grow (redrawn w3 d') os) fun e w'' => e = .returned (.string Y) ∧ ∃ p : Regrown, w'' = grow (redrawn w3 p.d) p.os := fun d' os => Calls.regrown_of (hTx _ (hw3.trans ((below_regrown w3 d' os).mono hw3.size)))
  clear hTx hbf3 hbn3 hbt
  refine wp_region_quiet_below (by kernel_rfl) (by kernel_rfl) ?_
  repeat (go_big_quiet_step (with_reducible exact cT _ _))
  refine wpQuiet_nil ?_
  intro _ hw'
  obtain ⟨⟨dq, osq⟩, hw''⟩ := hw'
  subst hw''
  have hb3 := (hw2.trans (hw3.mono hw2.size)).trans ((below_regrown w3 dq osq).mono (by have := hw2.size; have := hw3.size; omega))
  go_wp2_with fail
  go_ret
  exact ⟨by rw [HT.out]; rfl, hb3⟩
set_option maxRecDepth 100000 in
set_option maxHeartbeats 4000000 in
theorem text_8 (m : Nat) (hX : TxC m) : TxO (m + 1) 8 := by
  intro f na cap c n k d w hm hr ho hf hd0 hd hlen
  obtain ⟨x, l', e0, hx, hxo, hxn, hxk, -⟩ := hr.cons_inv
  obtain ⟨hk1, hn, hok, -⟩ := ho
  obtain ⟨g, o, la, lc, rfl, hg, q0, q1, q2, hlc, hlm, hki, r1, r2⟩ := hf.ns c x hx
  rw [hxo] at q0
  rw [hxn] at q1
  have hcl : c < f.ns.length := (List.getElem?_eq_some_iff.1 hx).1
  have hcl2 := hf.le
  have hcm := hf.cap
  have HKL := Lib.hid (rdF_cnt hxk)
  unfold maxLen at hcm
  have hbf := Blk.new w 46 [.int .i64 f.ps, .slice (some ⟨g, o, none⟩) f.ns.length cap]
  have hw1 := below_new w (.cells #[.int .i64 f.ps, .slice (some ⟨g, o, none⟩) f.ns.length cap] 46)
  have hbn := Blk.new (w.alloc (.cells #[.int .i64 f.ps, .slice (some ⟨g, o, none⟩) f.ns.length cap] 46)) 59 [.int .i64 8, .int .i64 n, .slice la x.l.length lc]
  rw [World.size_alloc] at hbn
  have hbf2 := hbf.alloc (.cells #[.int .i64 8, .int .i64 n, .slice la x.l.length lc] 59)
  have hw2 : Below w.heap.size w ((w.alloc (.cells #[.int .i64 f.ps, .slice (some ⟨g, o, none⟩) f.ns.length cap] 46)).alloc (.cells #[.int .i64 8, .int .i64 n, .slice la x.l.length lc] 59)) := (below_new _ _).alloc (by simp) _
  have f0 := hbf.c 0 rfl
  have f1 := hbf.c 1 rfl
  have y0 := (hw1.cell (p := ⟨g, o + c * 3, none⟩) hg).trans q0
  have y1 := (hw1.cell (p := ⟨g, o + c * 3 + 1, none⟩) hg).trans q1
  have y2 := (hw1.cell (p := ⟨g, o + c * 3 + 2, none⟩) hg).trans q2
  have hg1 : g < (w.alloc (.cells #[.int .i64 f.ps, .slice (some ⟨g, o, none⟩) f.ns.length cap] 46)).heap.size := Nat.lt_of_lt_of_le hg hw1.size
  have hfr := hf.later hw2
  have hkr := (hki.below hw2).more fun g hg => Nat.lt_of_lt_of_le hg hw2.size
  have hzz := hbn.lt
  obtain ⟨R, hR⟩ : ∃ R, txN 8 n (txF k d) (txF k (d + 1)) d = R := ⟨_, rfl⟩
  rw [hR] at hlen ⊢
  have HR := Lib.hid hR
  clear hR hki r1 r2 q0 q1 q2 hxo hxn e0 hr
  unfold fnV
  go_enter Tryz.func31, Tryz.ntmps31
  go_upto_region 2 with fail
  clear y0 y1 y2 f0 f1 hw1 hf
  have f0 := hbf2.c 0 rfl
  have f1 := hbf2.c 1 rfl
  have n0 := hbn.c 0 rfl
  have n1 := hbn.c 1 rfl
  have n2 := hbn.c 2 rfl
  generalize (w.alloc (.cells #[.int .i64 f.ps, .slice (some ⟨g, o, none⟩) f.ns.length cap] 46)).alloc (.cells #[.int .i64 8, .int .i64 n, .slice la x.l.length lc] 59) = w2 at *
  obtain ⟨J, hJ⟩ : ∃ J, brk (txF k d) = J := ⟨_, rfl⟩
  obtain ⟨Y, hY⟩ : ∃ Y, tB J = Y := ⟨_, rfl⟩
  have hRe := HR.out
  unfold txN at hRe
  rw [if_neg (by decide), if_neg (by decide), if_neg (by decide), if_neg (by decide), if_neg (by decide)] at hRe
  have e1 : (wTab (8 : Int).toNat) = ([101, 113], 5) := rfl
  rw [e1] at hRe
  dsimp only at hRe
  rw [if_neg (by decide), if_neg (by decide)] at hRe
  rw [hJ] at hRe
  have hRl := congrArg List.length hRe
  simp only [List.length_append] at hRl
  try simp only [List.length_cons] at hRl
  try simp only [List.length_nil] at hRl
  have hYz : Y.size = J.length := by rw [← hY, tB_size]
  have hYb : Y.size ≤ 1000000000 := by omega
  have HYD : Hid (Y.data.toList = J) := by show _ = _; rw [← hY, tB_data]
  have hTx := fun wx (hx : Below w2.heap.size w2 wx) => texts_any m hX f (some ⟨g, o, none⟩) cap x.l la lc k d wx (by omega) hxk hok (hfr.later hx) ((hkr.below hx).more fun g hg => Nat.lt_of_lt_of_le hg hx.size) hlc hlm hd0 (by omega) (by rw [hJ]; omega)
  rw [hJ, hY] at hTx
  unfold fnV at hTx
  have z1 : (⟨#[101, 113]⟩ : ByteArray).size = 2 := rfl
  have HT : Hid ((⟨#[101, 113]⟩ : ByteArray) ++ Y = tB R) := tB_of (by rw [ByteArray.data_append, Array.toList_append, HYD.out, ← hRe]; simp)
  have q1 : ¬ (9223372036854775807 < 2 + Y.size) := by omega
  have hbt := Blk.new w2 9 [.string ⟨#[]⟩, .string ⟨#[]⟩, .string ⟨#[]⟩, .string ⟨#[]⟩, .string ⟨#[]⟩, .string ⟨#[]⟩, .string ⟨#[97, 100, 100]⟩, .string ⟨#[115, 117, 98]⟩, .string ⟨#[101, 113]⟩, .string ⟨#[108, 101, 115, 115]⟩, .string ⟨#[112, 97, 105, 114]⟩, .string ⟨#[102, 105, 114, 115, 116]⟩, .string ⟨#[115, 101, 99, 111, 110, 100]⟩, .string ⟨#[]⟩, .string ⟨#[]⟩, .string ⟨#[]⟩, .string ⟨#[115, 101, 110, 100]⟩, .string ⟨#[114, 101, 99, 118]⟩, .string ⟨#[97, 108, 119, 97, 121, 115]⟩, .string ⟨#[]⟩, .string ⟨#[]⟩, .string ⟨#[]⟩, .string ⟨#[]⟩, .string ⟨#[]⟩, .string ⟨#[115, 121, 110, 99]⟩]
  have hw3 := below_new w2 (.cells #[.string ⟨#[]⟩, .string ⟨#[]⟩, .string ⟨#[]⟩, .string ⟨#[]⟩, .string ⟨#[]⟩, .string ⟨#[]⟩, .string ⟨#[97, 100, 100]⟩, .string ⟨#[115, 117, 98]⟩, .string ⟨#[101, 113]⟩, .string ⟨#[108, 101, 115, 115]⟩, .string ⟨#[112, 97, 105, 114]⟩, .string ⟨#[102, 105, 114, 115, 116]⟩, .string ⟨#[115, 101, 99, 111, 110, 100]⟩, .string ⟨#[]⟩, .string ⟨#[]⟩, .string ⟨#[]⟩, .string ⟨#[115, 101, 110, 100]⟩, .string ⟨#[114, 101, 99, 118]⟩, .string ⟨#[97, 108, 119, 97, 121, 115]⟩, .string ⟨#[]⟩, .string ⟨#[]⟩, .string ⟨#[]⟩, .string ⟨#[]⟩, .string ⟨#[]⟩, .string ⟨#[115, 121, 110, 99]⟩] 9)
  have hbf3 := hbf2.belowAll hw3
  have hbn3 := hbn.belowAll hw3
  clear hJ hY hRe hRl hYz hbf hbf2 hbn
  go_upto_region 28 with fail
  clear f0 f1 n0 n1 n2
  generalize w2.alloc (.cells #[.string ⟨#[]⟩, .string ⟨#[]⟩, .string ⟨#[]⟩, .string ⟨#[]⟩, .string ⟨#[]⟩, .string ⟨#[]⟩, .string ⟨#[97, 100, 100]⟩, .string ⟨#[115, 117, 98]⟩, .string ⟨#[101, 113]⟩, .string ⟨#[108, 101, 115, 115]⟩, .string ⟨#[112, 97, 105, 114]⟩, .string ⟨#[102, 105, 114, 115, 116]⟩, .string ⟨#[115, 101, 99, 111, 110, 100]⟩, .string ⟨#[]⟩, .string ⟨#[]⟩, .string ⟨#[]⟩, .string ⟨#[115, 101, 110, 100]⟩, .string ⟨#[114, 101, 99, 118]⟩, .string ⟨#[97, 108, 119, 97, 121, 115]⟩, .string ⟨#[]⟩, .string ⟨#[]⟩, .string ⟨#[]⟩, .string ⟨#[]⟩, .string ⟨#[]⟩, .string ⟨#[115, 121, 110, 99]⟩] 9) = w3 at *
  have f0 := hbf3.c 0 rfl
  have f1 := hbf3.c 1 rfl
  have n0 := hbn3.c 0 rfl
  have n2 := hbn3.c 2 rfl
  have t0 := hbt.c 8 rfl
  have g0 := fun d os => cell_regrown f0 d os
  have g1 := fun d os => cell_regrown f1 d os
  have m0 := fun d os => cell_regrown n0 d os
  have m2 := fun d os => cell_regrown n2 d os
  have s0 := fun d os => cell_regrown t0 d os
  have cT : ∀ d' os, Calls Tryz.prog 56 #[.agg #[.int .i64 f.ps, .slice (some ⟨g, o, none⟩) f.ns.length cap], .slice la x.l.length lc, .int .i64 d] (grow (redrawn w3 d') os) fun e w'' => e = .returned (.string Y) ∧ ∃ p : Regrown, w'' = grow (redrawn w3 p.d) p.os := fun d' os => Calls.regrown_of (hTx _ (hw3.trans ((below_regrown w3 d' os).mono hw3.size)))
  clear hTx hbf3 hbn3 hbt
  refine wp_region_quiet_below (by kernel_rfl) (by kernel_rfl) ?_
  repeat (go_big_quiet_step (with_reducible exact cT _ _))
  refine wpQuiet_nil ?_
  intro _ hw'
  obtain ⟨⟨dq, osq⟩, hw''⟩ := hw'
  subst hw''
  have hb3 := (hw2.trans (hw3.mono hw2.size)).trans ((below_regrown w3 dq osq).mono (by have := hw2.size; have := hw3.size; omega))
  go_wp2_with fail
  go_ret
  exact ⟨by rw [HT.out]; rfl, hb3⟩
set_option maxRecDepth 100000 in
set_option maxHeartbeats 4000000 in
theorem text_9 (m : Nat) (hX : TxC m) : TxO (m + 1) 9 := by
  intro f na cap c n k d w hm hr ho hf hd0 hd hlen
  obtain ⟨x, l', e0, hx, hxo, hxn, hxk, -⟩ := hr.cons_inv
  obtain ⟨hk1, hn, hok, -⟩ := ho
  obtain ⟨g, o, la, lc, rfl, hg, q0, q1, q2, hlc, hlm, hki, r1, r2⟩ := hf.ns c x hx
  rw [hxo] at q0
  rw [hxn] at q1
  have hcl : c < f.ns.length := (List.getElem?_eq_some_iff.1 hx).1
  have hcl2 := hf.le
  have hcm := hf.cap
  have HKL := Lib.hid (rdF_cnt hxk)
  unfold maxLen at hcm
  have hbf := Blk.new w 46 [.int .i64 f.ps, .slice (some ⟨g, o, none⟩) f.ns.length cap]
  have hw1 := below_new w (.cells #[.int .i64 f.ps, .slice (some ⟨g, o, none⟩) f.ns.length cap] 46)
  have hbn := Blk.new (w.alloc (.cells #[.int .i64 f.ps, .slice (some ⟨g, o, none⟩) f.ns.length cap] 46)) 59 [.int .i64 9, .int .i64 n, .slice la x.l.length lc]
  rw [World.size_alloc] at hbn
  have hbf2 := hbf.alloc (.cells #[.int .i64 9, .int .i64 n, .slice la x.l.length lc] 59)
  have hw2 : Below w.heap.size w ((w.alloc (.cells #[.int .i64 f.ps, .slice (some ⟨g, o, none⟩) f.ns.length cap] 46)).alloc (.cells #[.int .i64 9, .int .i64 n, .slice la x.l.length lc] 59)) := (below_new _ _).alloc (by simp) _
  have f0 := hbf.c 0 rfl
  have f1 := hbf.c 1 rfl
  have y0 := (hw1.cell (p := ⟨g, o + c * 3, none⟩) hg).trans q0
  have y1 := (hw1.cell (p := ⟨g, o + c * 3 + 1, none⟩) hg).trans q1
  have y2 := (hw1.cell (p := ⟨g, o + c * 3 + 2, none⟩) hg).trans q2
  have hg1 : g < (w.alloc (.cells #[.int .i64 f.ps, .slice (some ⟨g, o, none⟩) f.ns.length cap] 46)).heap.size := Nat.lt_of_lt_of_le hg hw1.size
  have hfr := hf.later hw2
  have hkr := (hki.below hw2).more fun g hg => Nat.lt_of_lt_of_le hg hw2.size
  have hzz := hbn.lt
  obtain ⟨R, hR⟩ : ∃ R, txN 9 n (txF k d) (txF k (d + 1)) d = R := ⟨_, rfl⟩
  rw [hR] at hlen ⊢
  have HR := Lib.hid hR
  clear hR hki r1 r2 q0 q1 q2 hxo hxn e0 hr
  unfold fnV
  go_enter Tryz.func31, Tryz.ntmps31
  go_upto_region 2 with fail
  clear y0 y1 y2 f0 f1 hw1 hf
  have f0 := hbf2.c 0 rfl
  have f1 := hbf2.c 1 rfl
  have n0 := hbn.c 0 rfl
  have n1 := hbn.c 1 rfl
  have n2 := hbn.c 2 rfl
  generalize (w.alloc (.cells #[.int .i64 f.ps, .slice (some ⟨g, o, none⟩) f.ns.length cap] 46)).alloc (.cells #[.int .i64 9, .int .i64 n, .slice la x.l.length lc] 59) = w2 at *
  obtain ⟨J, hJ⟩ : ∃ J, brk (txF k d) = J := ⟨_, rfl⟩
  obtain ⟨Y, hY⟩ : ∃ Y, tB J = Y := ⟨_, rfl⟩
  have hRe := HR.out
  unfold txN at hRe
  rw [if_neg (by decide), if_neg (by decide), if_neg (by decide), if_neg (by decide), if_neg (by decide)] at hRe
  have e1 : (wTab (9 : Int).toNat) = ([108, 101, 115, 115], 5) := rfl
  rw [e1] at hRe
  dsimp only at hRe
  rw [if_neg (by decide), if_neg (by decide)] at hRe
  rw [hJ] at hRe
  have hRl := congrArg List.length hRe
  simp only [List.length_append] at hRl
  try simp only [List.length_cons] at hRl
  try simp only [List.length_nil] at hRl
  have hYz : Y.size = J.length := by rw [← hY, tB_size]
  have hYb : Y.size ≤ 1000000000 := by omega
  have HYD : Hid (Y.data.toList = J) := by show _ = _; rw [← hY, tB_data]
  have hTx := fun wx (hx : Below w2.heap.size w2 wx) => texts_any m hX f (some ⟨g, o, none⟩) cap x.l la lc k d wx (by omega) hxk hok (hfr.later hx) ((hkr.below hx).more fun g hg => Nat.lt_of_lt_of_le hg hx.size) hlc hlm hd0 (by omega) (by rw [hJ]; omega)
  rw [hJ, hY] at hTx
  unfold fnV at hTx
  have z1 : (⟨#[108, 101, 115, 115]⟩ : ByteArray).size = 4 := rfl
  have HT : Hid ((⟨#[108, 101, 115, 115]⟩ : ByteArray) ++ Y = tB R) := tB_of (by rw [ByteArray.data_append, Array.toList_append, HYD.out, ← hRe]; simp)
  have q1 : ¬ (9223372036854775807 < 4 + Y.size) := by omega
  have hbt := Blk.new w2 9 [.string ⟨#[]⟩, .string ⟨#[]⟩, .string ⟨#[]⟩, .string ⟨#[]⟩, .string ⟨#[]⟩, .string ⟨#[]⟩, .string ⟨#[97, 100, 100]⟩, .string ⟨#[115, 117, 98]⟩, .string ⟨#[101, 113]⟩, .string ⟨#[108, 101, 115, 115]⟩, .string ⟨#[112, 97, 105, 114]⟩, .string ⟨#[102, 105, 114, 115, 116]⟩, .string ⟨#[115, 101, 99, 111, 110, 100]⟩, .string ⟨#[]⟩, .string ⟨#[]⟩, .string ⟨#[]⟩, .string ⟨#[115, 101, 110, 100]⟩, .string ⟨#[114, 101, 99, 118]⟩, .string ⟨#[97, 108, 119, 97, 121, 115]⟩, .string ⟨#[]⟩, .string ⟨#[]⟩, .string ⟨#[]⟩, .string ⟨#[]⟩, .string ⟨#[]⟩, .string ⟨#[115, 121, 110, 99]⟩]
  have hw3 := below_new w2 (.cells #[.string ⟨#[]⟩, .string ⟨#[]⟩, .string ⟨#[]⟩, .string ⟨#[]⟩, .string ⟨#[]⟩, .string ⟨#[]⟩, .string ⟨#[97, 100, 100]⟩, .string ⟨#[115, 117, 98]⟩, .string ⟨#[101, 113]⟩, .string ⟨#[108, 101, 115, 115]⟩, .string ⟨#[112, 97, 105, 114]⟩, .string ⟨#[102, 105, 114, 115, 116]⟩, .string ⟨#[115, 101, 99, 111, 110, 100]⟩, .string ⟨#[]⟩, .string ⟨#[]⟩, .string ⟨#[]⟩, .string ⟨#[115, 101, 110, 100]⟩, .string ⟨#[114, 101, 99, 118]⟩, .string ⟨#[97, 108, 119, 97, 121, 115]⟩, .string ⟨#[]⟩, .string ⟨#[]⟩, .string ⟨#[]⟩, .string ⟨#[]⟩, .string ⟨#[]⟩, .string ⟨#[115, 121, 110, 99]⟩] 9)
  have hbf3 := hbf2.belowAll hw3
  have hbn3 := hbn.belowAll hw3
  clear hJ hY hRe hRl hYz hbf hbf2 hbn
  go_upto_region 28 with fail
  clear f0 f1 n0 n1 n2
  generalize w2.alloc (.cells #[.string ⟨#[]⟩, .string ⟨#[]⟩, .string ⟨#[]⟩, .string ⟨#[]⟩, .string ⟨#[]⟩, .string ⟨#[]⟩, .string ⟨#[97, 100, 100]⟩, .string ⟨#[115, 117, 98]⟩, .string ⟨#[101, 113]⟩, .string ⟨#[108, 101, 115, 115]⟩, .string ⟨#[112, 97, 105, 114]⟩, .string ⟨#[102, 105, 114, 115, 116]⟩, .string ⟨#[115, 101, 99, 111, 110, 100]⟩, .string ⟨#[]⟩, .string ⟨#[]⟩, .string ⟨#[]⟩, .string ⟨#[115, 101, 110, 100]⟩, .string ⟨#[114, 101, 99, 118]⟩, .string ⟨#[97, 108, 119, 97, 121, 115]⟩, .string ⟨#[]⟩, .string ⟨#[]⟩, .string ⟨#[]⟩, .string ⟨#[]⟩, .string ⟨#[]⟩, .string ⟨#[115, 121, 110, 99]⟩] 9) = w3 at *
  have f0 := hbf3.c 0 rfl
  have f1 := hbf3.c 1 rfl
  have n0 := hbn3.c 0 rfl
  have n2 := hbn3.c 2 rfl
  have t0 := hbt.c 9 rfl
  have g0 := fun d os => cell_regrown f0 d os
  have g1 := fun d os => cell_regrown f1 d os
  have m0 := fun d os => cell_regrown n0 d os
  have m2 := fun d os => cell_regrown n2 d os
  have s0 := fun d os => cell_regrown t0 d os
  have cT : ∀ d' os, Calls Tryz.prog 56 #[.agg #[.int .i64 f.ps, .slice (some ⟨g, o, none⟩) f.ns.length cap], .slice la x.l.length lc, .int .i64 d] (grow (redrawn w3 d') os) fun e w'' => e = .returned (.string Y) ∧ ∃ p : Regrown, w'' = grow (redrawn w3 p.d) p.os := fun d' os => Calls.regrown_of (hTx _ (hw3.trans ((below_regrown w3 d' os).mono hw3.size)))
  clear hTx hbf3 hbn3 hbt
  refine wp_region_quiet_below (by kernel_rfl) (by kernel_rfl) ?_
  repeat (go_big_quiet_step (with_reducible exact cT _ _))
  refine wpQuiet_nil ?_
  intro _ hw'
  obtain ⟨⟨dq, osq⟩, hw''⟩ := hw'
  subst hw''
  have hb3 := (hw2.trans (hw3.mono hw2.size)).trans ((below_regrown w3 dq osq).mono (by have := hw2.size; have := hw3.size; omega))
  go_wp2_with fail
  go_ret
  exact ⟨by rw [HT.out]; rfl, hb3⟩
set_option maxRecDepth 100000 in
set_option maxHeartbeats 4000000 in
theorem text_10 (m : Nat) (hX : TxC m) : TxO (m + 1) 10 := by
  intro f na cap c n k d w hm hr ho hf hd0 hd hlen
  obtain ⟨x, l', e0, hx, hxo, hxn, hxk, -⟩ := hr.cons_inv
  obtain ⟨hk1, hn, hok, -⟩ := ho
  obtain ⟨g, o, la, lc, rfl, hg, q0, q1, q2, hlc, hlm, hki, r1, r2⟩ := hf.ns c x hx
  rw [hxo] at q0
  rw [hxn] at q1
  have hcl : c < f.ns.length := (List.getElem?_eq_some_iff.1 hx).1
  have hcl2 := hf.le
  have hcm := hf.cap
  have HKL := Lib.hid (rdF_cnt hxk)
  unfold maxLen at hcm
  have hbf := Blk.new w 46 [.int .i64 f.ps, .slice (some ⟨g, o, none⟩) f.ns.length cap]
  have hw1 := below_new w (.cells #[.int .i64 f.ps, .slice (some ⟨g, o, none⟩) f.ns.length cap] 46)
  have hbn := Blk.new (w.alloc (.cells #[.int .i64 f.ps, .slice (some ⟨g, o, none⟩) f.ns.length cap] 46)) 59 [.int .i64 10, .int .i64 n, .slice la x.l.length lc]
  rw [World.size_alloc] at hbn
  have hbf2 := hbf.alloc (.cells #[.int .i64 10, .int .i64 n, .slice la x.l.length lc] 59)
  have hw2 : Below w.heap.size w ((w.alloc (.cells #[.int .i64 f.ps, .slice (some ⟨g, o, none⟩) f.ns.length cap] 46)).alloc (.cells #[.int .i64 10, .int .i64 n, .slice la x.l.length lc] 59)) := (below_new _ _).alloc (by simp) _
  have f0 := hbf.c 0 rfl
  have f1 := hbf.c 1 rfl
  have y0 := (hw1.cell (p := ⟨g, o + c * 3, none⟩) hg).trans q0
  have y1 := (hw1.cell (p := ⟨g, o + c * 3 + 1, none⟩) hg).trans q1
  have y2 := (hw1.cell (p := ⟨g, o + c * 3 + 2, none⟩) hg).trans q2
  have hg1 : g < (w.alloc (.cells #[.int .i64 f.ps, .slice (some ⟨g, o, none⟩) f.ns.length cap] 46)).heap.size := Nat.lt_of_lt_of_le hg hw1.size
  have hfr := hf.later hw2
  have hkr := (hki.below hw2).more fun g hg => Nat.lt_of_lt_of_le hg hw2.size
  have hzz := hbn.lt
  obtain ⟨R, hR⟩ : ∃ R, txN 10 n (txF k d) (txF k (d + 1)) d = R := ⟨_, rfl⟩
  rw [hR] at hlen ⊢
  have HR := Lib.hid hR
  clear hR hki r1 r2 q0 q1 q2 hxo hxn e0 hr
  unfold fnV
  go_enter Tryz.func31, Tryz.ntmps31
  go_upto_region 2 with fail
  clear y0 y1 y2 f0 f1 hw1 hf
  have f0 := hbf2.c 0 rfl
  have f1 := hbf2.c 1 rfl
  have n0 := hbn.c 0 rfl
  have n1 := hbn.c 1 rfl
  have n2 := hbn.c 2 rfl
  generalize (w.alloc (.cells #[.int .i64 f.ps, .slice (some ⟨g, o, none⟩) f.ns.length cap] 46)).alloc (.cells #[.int .i64 10, .int .i64 n, .slice la x.l.length lc] 59) = w2 at *
  obtain ⟨J, hJ⟩ : ∃ J, brk (txF k d) = J := ⟨_, rfl⟩
  obtain ⟨Y, hY⟩ : ∃ Y, tB J = Y := ⟨_, rfl⟩
  have hRe := HR.out
  unfold txN at hRe
  rw [if_neg (by decide), if_neg (by decide), if_neg (by decide), if_neg (by decide), if_neg (by decide)] at hRe
  have e1 : (wTab (10 : Int).toNat) = ([112, 97, 105, 114], 5) := rfl
  rw [e1] at hRe
  dsimp only at hRe
  rw [if_neg (by decide), if_neg (by decide)] at hRe
  rw [hJ] at hRe
  have hRl := congrArg List.length hRe
  simp only [List.length_append] at hRl
  try simp only [List.length_cons] at hRl
  try simp only [List.length_nil] at hRl
  have hYz : Y.size = J.length := by rw [← hY, tB_size]
  have hYb : Y.size ≤ 1000000000 := by omega
  have HYD : Hid (Y.data.toList = J) := by show _ = _; rw [← hY, tB_data]
  have hTx := fun wx (hx : Below w2.heap.size w2 wx) => texts_any m hX f (some ⟨g, o, none⟩) cap x.l la lc k d wx (by omega) hxk hok (hfr.later hx) ((hkr.below hx).more fun g hg => Nat.lt_of_lt_of_le hg hx.size) hlc hlm hd0 (by omega) (by rw [hJ]; omega)
  rw [hJ, hY] at hTx
  unfold fnV at hTx
  have z1 : (⟨#[112, 97, 105, 114]⟩ : ByteArray).size = 4 := rfl
  have HT : Hid ((⟨#[112, 97, 105, 114]⟩ : ByteArray) ++ Y = tB R) := tB_of (by rw [ByteArray.data_append, Array.toList_append, HYD.out, ← hRe]; simp)
  have q1 : ¬ (9223372036854775807 < 4 + Y.size) := by omega
  have hbt := Blk.new w2 9 [.string ⟨#[]⟩, .string ⟨#[]⟩, .string ⟨#[]⟩, .string ⟨#[]⟩, .string ⟨#[]⟩, .string ⟨#[]⟩, .string ⟨#[97, 100, 100]⟩, .string ⟨#[115, 117, 98]⟩, .string ⟨#[101, 113]⟩, .string ⟨#[108, 101, 115, 115]⟩, .string ⟨#[112, 97, 105, 114]⟩, .string ⟨#[102, 105, 114, 115, 116]⟩, .string ⟨#[115, 101, 99, 111, 110, 100]⟩, .string ⟨#[]⟩, .string ⟨#[]⟩, .string ⟨#[]⟩, .string ⟨#[115, 101, 110, 100]⟩, .string ⟨#[114, 101, 99, 118]⟩, .string ⟨#[97, 108, 119, 97, 121, 115]⟩, .string ⟨#[]⟩, .string ⟨#[]⟩, .string ⟨#[]⟩, .string ⟨#[]⟩, .string ⟨#[]⟩, .string ⟨#[115, 121, 110, 99]⟩]
  have hw3 := below_new w2 (.cells #[.string ⟨#[]⟩, .string ⟨#[]⟩, .string ⟨#[]⟩, .string ⟨#[]⟩, .string ⟨#[]⟩, .string ⟨#[]⟩, .string ⟨#[97, 100, 100]⟩, .string ⟨#[115, 117, 98]⟩, .string ⟨#[101, 113]⟩, .string ⟨#[108, 101, 115, 115]⟩, .string ⟨#[112, 97, 105, 114]⟩, .string ⟨#[102, 105, 114, 115, 116]⟩, .string ⟨#[115, 101, 99, 111, 110, 100]⟩, .string ⟨#[]⟩, .string ⟨#[]⟩, .string ⟨#[]⟩, .string ⟨#[115, 101, 110, 100]⟩, .string ⟨#[114, 101, 99, 118]⟩, .string ⟨#[97, 108, 119, 97, 121, 115]⟩, .string ⟨#[]⟩, .string ⟨#[]⟩, .string ⟨#[]⟩, .string ⟨#[]⟩, .string ⟨#[]⟩, .string ⟨#[115, 121, 110, 99]⟩] 9)
  have hbf3 := hbf2.belowAll hw3
  have hbn3 := hbn.belowAll hw3
  clear hJ hY hRe hRl hYz hbf hbf2 hbn
  go_upto_region 28 with fail
  clear f0 f1 n0 n1 n2
  generalize w2.alloc (.cells #[.string ⟨#[]⟩, .string ⟨#[]⟩, .string ⟨#[]⟩, .string ⟨#[]⟩, .string ⟨#[]⟩, .string ⟨#[]⟩, .string ⟨#[97, 100, 100]⟩, .string ⟨#[115, 117, 98]⟩, .string ⟨#[101, 113]⟩, .string ⟨#[108, 101, 115, 115]⟩, .string ⟨#[112, 97, 105, 114]⟩, .string ⟨#[102, 105, 114, 115, 116]⟩, .string ⟨#[115, 101, 99, 111, 110, 100]⟩, .string ⟨#[]⟩, .string ⟨#[]⟩, .string ⟨#[]⟩, .string ⟨#[115, 101, 110, 100]⟩, .string ⟨#[114, 101, 99, 118]⟩, .string ⟨#[97, 108, 119, 97, 121, 115]⟩, .string ⟨#[]⟩, .string ⟨#[]⟩, .string ⟨#[]⟩, .string ⟨#[]⟩, .string ⟨#[]⟩, .string ⟨#[115, 121, 110, 99]⟩] 9) = w3 at *
  have f0 := hbf3.c 0 rfl
  have f1 := hbf3.c 1 rfl
  have n0 := hbn3.c 0 rfl
  have n2 := hbn3.c 2 rfl
  have t0 := hbt.c 10 rfl
  have g0 := fun d os => cell_regrown f0 d os
  have g1 := fun d os => cell_regrown f1 d os
  have m0 := fun d os => cell_regrown n0 d os
  have m2 := fun d os => cell_regrown n2 d os
  have s0 := fun d os => cell_regrown t0 d os
  have cT : ∀ d' os, Calls Tryz.prog 56 #[.agg #[.int .i64 f.ps, .slice (some ⟨g, o, none⟩) f.ns.length cap], .slice la x.l.length lc, .int .i64 d] (grow (redrawn w3 d') os) fun e w'' => e = .returned (.string Y) ∧ ∃ p : Regrown, w'' = grow (redrawn w3 p.d) p.os := fun d' os => Calls.regrown_of (hTx _ (hw3.trans ((below_regrown w3 d' os).mono hw3.size)))
  clear hTx hbf3 hbn3 hbt
  refine wp_region_quiet_below (by kernel_rfl) (by kernel_rfl) ?_
  repeat (go_big_quiet_step (with_reducible exact cT _ _))
  refine wpQuiet_nil ?_
  intro _ hw'
  obtain ⟨⟨dq, osq⟩, hw''⟩ := hw'
  subst hw''
  have hb3 := (hw2.trans (hw3.mono hw2.size)).trans ((below_regrown w3 dq osq).mono (by have := hw2.size; have := hw3.size; omega))
  go_wp2_with fail
  go_ret
  exact ⟨by rw [HT.out]; rfl, hb3⟩
set_option maxRecDepth 100000 in
set_option maxHeartbeats 4000000 in
theorem text_11 (m : Nat) (hX : TxC m) : TxO (m + 1) 11 := by
  intro f na cap c n k d w hm hr ho hf hd0 hd hlen
  obtain ⟨x, l', e0, hx, hxo, hxn, hxk, -⟩ := hr.cons_inv
  obtain ⟨hk1, hn, hok, -⟩ := ho
  obtain ⟨g, o, la, lc, rfl, hg, q0, q1, q2, hlc, hlm, hki, r1, r2⟩ := hf.ns c x hx
  rw [hxo] at q0
  rw [hxn] at q1
  have hcl : c < f.ns.length := (List.getElem?_eq_some_iff.1 hx).1
  have hcl2 := hf.le
  have hcm := hf.cap
  have HKL := Lib.hid (rdF_cnt hxk)
  unfold maxLen at hcm
  have hbf := Blk.new w 46 [.int .i64 f.ps, .slice (some ⟨g, o, none⟩) f.ns.length cap]
  have hw1 := below_new w (.cells #[.int .i64 f.ps, .slice (some ⟨g, o, none⟩) f.ns.length cap] 46)
  have hbn := Blk.new (w.alloc (.cells #[.int .i64 f.ps, .slice (some ⟨g, o, none⟩) f.ns.length cap] 46)) 59 [.int .i64 11, .int .i64 n, .slice la x.l.length lc]
  rw [World.size_alloc] at hbn
  have hbf2 := hbf.alloc (.cells #[.int .i64 11, .int .i64 n, .slice la x.l.length lc] 59)
  have hw2 : Below w.heap.size w ((w.alloc (.cells #[.int .i64 f.ps, .slice (some ⟨g, o, none⟩) f.ns.length cap] 46)).alloc (.cells #[.int .i64 11, .int .i64 n, .slice la x.l.length lc] 59)) := (below_new _ _).alloc (by simp) _
  have f0 := hbf.c 0 rfl
  have f1 := hbf.c 1 rfl
  have y0 := (hw1.cell (p := ⟨g, o + c * 3, none⟩) hg).trans q0
  have y1 := (hw1.cell (p := ⟨g, o + c * 3 + 1, none⟩) hg).trans q1
  have y2 := (hw1.cell (p := ⟨g, o + c * 3 + 2, none⟩) hg).trans q2
  have hg1 : g < (w.alloc (.cells #[.int .i64 f.ps, .slice (some ⟨g, o, none⟩) f.ns.length cap] 46)).heap.size := Nat.lt_of_lt_of_le hg hw1.size
  have hfr := hf.later hw2
  have hkr := (hki.below hw2).more fun g hg => Nat.lt_of_lt_of_le hg hw2.size
  have hzz := hbn.lt
  obtain ⟨R, hR⟩ : ∃ R, txN 11 n (txF k d) (txF k (d + 1)) d = R := ⟨_, rfl⟩
  rw [hR] at hlen ⊢
  have HR := Lib.hid hR
  clear hR hki r1 r2 q0 q1 q2 hxo hxn e0 hr
  unfold fnV
  go_enter Tryz.func31, Tryz.ntmps31
  go_upto_region 2 with fail
  clear y0 y1 y2 f0 f1 hw1 hf
  have f0 := hbf2.c 0 rfl
  have f1 := hbf2.c 1 rfl
  have n0 := hbn.c 0 rfl
  have n1 := hbn.c 1 rfl
  have n2 := hbn.c 2 rfl
  generalize (w.alloc (.cells #[.int .i64 f.ps, .slice (some ⟨g, o, none⟩) f.ns.length cap] 46)).alloc (.cells #[.int .i64 11, .int .i64 n, .slice la x.l.length lc] 59) = w2 at *
  obtain ⟨J, hJ⟩ : ∃ J, brk (txF k d) = J := ⟨_, rfl⟩
  obtain ⟨Y, hY⟩ : ∃ Y, tB J = Y := ⟨_, rfl⟩
  have hRe := HR.out
  unfold txN at hRe
  rw [if_neg (by decide), if_neg (by decide), if_neg (by decide), if_neg (by decide), if_neg (by decide)] at hRe
  have e1 : (wTab (11 : Int).toNat) = ([102, 105, 114, 115, 116], 4) := rfl
  rw [e1] at hRe
  dsimp only at hRe
  rw [if_neg (by decide), if_neg (by decide)] at hRe
  rw [hJ] at hRe
  have hRl := congrArg List.length hRe
  simp only [List.length_append] at hRl
  try simp only [List.length_cons] at hRl
  try simp only [List.length_nil] at hRl
  have hYz : Y.size = J.length := by rw [← hY, tB_size]
  have hYb : Y.size ≤ 1000000000 := by omega
  have HYD : Hid (Y.data.toList = J) := by show _ = _; rw [← hY, tB_data]
  have hTx := fun wx (hx : Below w2.heap.size w2 wx) => texts_any m hX f (some ⟨g, o, none⟩) cap x.l la lc k d wx (by omega) hxk hok (hfr.later hx) ((hkr.below hx).more fun g hg => Nat.lt_of_lt_of_le hg hx.size) hlc hlm hd0 (by omega) (by rw [hJ]; omega)
  rw [hJ, hY] at hTx
  unfold fnV at hTx
  have z1 : (⟨#[102, 105, 114, 115, 116]⟩ : ByteArray).size = 5 := rfl
  have HT : Hid ((⟨#[102, 105, 114, 115, 116]⟩ : ByteArray) ++ Y = tB R) := tB_of (by rw [ByteArray.data_append, Array.toList_append, HYD.out, ← hRe]; simp)
  have q1 : ¬ (9223372036854775807 < 5 + Y.size) := by omega
  have hbt := Blk.new w2 9 [.string ⟨#[]⟩, .string ⟨#[]⟩, .string ⟨#[]⟩, .string ⟨#[]⟩, .string ⟨#[]⟩, .string ⟨#[]⟩, .string ⟨#[97, 100, 100]⟩, .string ⟨#[115, 117, 98]⟩, .string ⟨#[101, 113]⟩, .string ⟨#[108, 101, 115, 115]⟩, .string ⟨#[112, 97, 105, 114]⟩, .string ⟨#[102, 105, 114, 115, 116]⟩, .string ⟨#[115, 101, 99, 111, 110, 100]⟩, .string ⟨#[]⟩, .string ⟨#[]⟩, .string ⟨#[]⟩, .string ⟨#[115, 101, 110, 100]⟩, .string ⟨#[114, 101, 99, 118]⟩, .string ⟨#[97, 108, 119, 97, 121, 115]⟩, .string ⟨#[]⟩, .string ⟨#[]⟩, .string ⟨#[]⟩, .string ⟨#[]⟩, .string ⟨#[]⟩, .string ⟨#[115, 121, 110, 99]⟩]
  have hw3 := below_new w2 (.cells #[.string ⟨#[]⟩, .string ⟨#[]⟩, .string ⟨#[]⟩, .string ⟨#[]⟩, .string ⟨#[]⟩, .string ⟨#[]⟩, .string ⟨#[97, 100, 100]⟩, .string ⟨#[115, 117, 98]⟩, .string ⟨#[101, 113]⟩, .string ⟨#[108, 101, 115, 115]⟩, .string ⟨#[112, 97, 105, 114]⟩, .string ⟨#[102, 105, 114, 115, 116]⟩, .string ⟨#[115, 101, 99, 111, 110, 100]⟩, .string ⟨#[]⟩, .string ⟨#[]⟩, .string ⟨#[]⟩, .string ⟨#[115, 101, 110, 100]⟩, .string ⟨#[114, 101, 99, 118]⟩, .string ⟨#[97, 108, 119, 97, 121, 115]⟩, .string ⟨#[]⟩, .string ⟨#[]⟩, .string ⟨#[]⟩, .string ⟨#[]⟩, .string ⟨#[]⟩, .string ⟨#[115, 121, 110, 99]⟩] 9)
  have hbf3 := hbf2.belowAll hw3
  have hbn3 := hbn.belowAll hw3
  clear hJ hY hRe hRl hYz hbf hbf2 hbn
  go_upto_region 28 with fail
  clear f0 f1 n0 n1 n2
  generalize w2.alloc (.cells #[.string ⟨#[]⟩, .string ⟨#[]⟩, .string ⟨#[]⟩, .string ⟨#[]⟩, .string ⟨#[]⟩, .string ⟨#[]⟩, .string ⟨#[97, 100, 100]⟩, .string ⟨#[115, 117, 98]⟩, .string ⟨#[101, 113]⟩, .string ⟨#[108, 101, 115, 115]⟩, .string ⟨#[112, 97, 105, 114]⟩, .string ⟨#[102, 105, 114, 115, 116]⟩, .string ⟨#[115, 101, 99, 111, 110, 100]⟩, .string ⟨#[]⟩, .string ⟨#[]⟩, .string ⟨#[]⟩, .string ⟨#[115, 101, 110, 100]⟩, .string ⟨#[114, 101, 99, 118]⟩, .string ⟨#[97, 108, 119, 97, 121, 115]⟩, .string ⟨#[]⟩, .string ⟨#[]⟩, .string ⟨#[]⟩, .string ⟨#[]⟩, .string ⟨#[]⟩, .string ⟨#[115, 121, 110, 99]⟩] 9) = w3 at *
  have f0 := hbf3.c 0 rfl
  have f1 := hbf3.c 1 rfl
  have n0 := hbn3.c 0 rfl
  have n2 := hbn3.c 2 rfl
  have t0 := hbt.c 11 rfl
  have g0 := fun d os => cell_regrown f0 d os
  have g1 := fun d os => cell_regrown f1 d os
  have m0 := fun d os => cell_regrown n0 d os
  have m2 := fun d os => cell_regrown n2 d os
  have s0 := fun d os => cell_regrown t0 d os
  have cT : ∀ d' os, Calls Tryz.prog 56 #[.agg #[.int .i64 f.ps, .slice (some ⟨g, o, none⟩) f.ns.length cap], .slice la x.l.length lc, .int .i64 d] (grow (redrawn w3 d') os) fun e w'' => e = .returned (.string Y) ∧ ∃ p : Regrown, w'' = grow (redrawn w3 p.d) p.os := fun d' os => Calls.regrown_of (hTx _ (hw3.trans ((below_regrown w3 d' os).mono hw3.size)))
  clear hTx hbf3 hbn3 hbt
  refine wp_region_quiet_below (by kernel_rfl) (by kernel_rfl) ?_
  repeat (go_big_quiet_step (with_reducible exact cT _ _))
  refine wpQuiet_nil ?_
  intro _ hw'
  obtain ⟨⟨dq, osq⟩, hw''⟩ := hw'
  subst hw''
  have hb3 := (hw2.trans (hw3.mono hw2.size)).trans ((below_regrown w3 dq osq).mono (by have := hw2.size; have := hw3.size; omega))
  go_wp2_with fail
  go_ret
  exact ⟨by rw [HT.out]; rfl, hb3⟩
set_option maxRecDepth 100000 in
set_option maxHeartbeats 4000000 in
theorem text_12 (m : Nat) (hX : TxC m) : TxO (m + 1) 12 := by
  intro f na cap c n k d w hm hr ho hf hd0 hd hlen
  obtain ⟨x, l', e0, hx, hxo, hxn, hxk, -⟩ := hr.cons_inv
  obtain ⟨hk1, hn, hok, -⟩ := ho
  obtain ⟨g, o, la, lc, rfl, hg, q0, q1, q2, hlc, hlm, hki, r1, r2⟩ := hf.ns c x hx
  rw [hxo] at q0
  rw [hxn] at q1
  have hcl : c < f.ns.length := (List.getElem?_eq_some_iff.1 hx).1
  have hcl2 := hf.le
  have hcm := hf.cap
  have HKL := Lib.hid (rdF_cnt hxk)
  unfold maxLen at hcm
  have hbf := Blk.new w 46 [.int .i64 f.ps, .slice (some ⟨g, o, none⟩) f.ns.length cap]
  have hw1 := below_new w (.cells #[.int .i64 f.ps, .slice (some ⟨g, o, none⟩) f.ns.length cap] 46)
  have hbn := Blk.new (w.alloc (.cells #[.int .i64 f.ps, .slice (some ⟨g, o, none⟩) f.ns.length cap] 46)) 59 [.int .i64 12, .int .i64 n, .slice la x.l.length lc]
  rw [World.size_alloc] at hbn
  have hbf2 := hbf.alloc (.cells #[.int .i64 12, .int .i64 n, .slice la x.l.length lc] 59)
  have hw2 : Below w.heap.size w ((w.alloc (.cells #[.int .i64 f.ps, .slice (some ⟨g, o, none⟩) f.ns.length cap] 46)).alloc (.cells #[.int .i64 12, .int .i64 n, .slice la x.l.length lc] 59)) := (below_new _ _).alloc (by simp) _
  have f0 := hbf.c 0 rfl
  have f1 := hbf.c 1 rfl
  have y0 := (hw1.cell (p := ⟨g, o + c * 3, none⟩) hg).trans q0
  have y1 := (hw1.cell (p := ⟨g, o + c * 3 + 1, none⟩) hg).trans q1
  have y2 := (hw1.cell (p := ⟨g, o + c * 3 + 2, none⟩) hg).trans q2
  have hg1 : g < (w.alloc (.cells #[.int .i64 f.ps, .slice (some ⟨g, o, none⟩) f.ns.length cap] 46)).heap.size := Nat.lt_of_lt_of_le hg hw1.size
  have hfr := hf.later hw2
  have hkr := (hki.below hw2).more fun g hg => Nat.lt_of_lt_of_le hg hw2.size
  have hzz := hbn.lt
  obtain ⟨R, hR⟩ : ∃ R, txN 12 n (txF k d) (txF k (d + 1)) d = R := ⟨_, rfl⟩
  rw [hR] at hlen ⊢
  have HR := Lib.hid hR
  clear hR hki r1 r2 q0 q1 q2 hxo hxn e0 hr
  unfold fnV
  go_enter Tryz.func31, Tryz.ntmps31
  go_upto_region 2 with fail
  clear y0 y1 y2 f0 f1 hw1 hf
  have f0 := hbf2.c 0 rfl
  have f1 := hbf2.c 1 rfl
  have n0 := hbn.c 0 rfl
  have n1 := hbn.c 1 rfl
  have n2 := hbn.c 2 rfl
  generalize (w.alloc (.cells #[.int .i64 f.ps, .slice (some ⟨g, o, none⟩) f.ns.length cap] 46)).alloc (.cells #[.int .i64 12, .int .i64 n, .slice la x.l.length lc] 59) = w2 at *
  obtain ⟨J, hJ⟩ : ∃ J, brk (txF k d) = J := ⟨_, rfl⟩
  obtain ⟨Y, hY⟩ : ∃ Y, tB J = Y := ⟨_, rfl⟩
  have hRe := HR.out
  unfold txN at hRe
  rw [if_neg (by decide), if_neg (by decide), if_neg (by decide), if_neg (by decide), if_neg (by decide)] at hRe
  have e1 : (wTab (12 : Int).toNat) = ([115, 101, 99, 111, 110, 100], 4) := rfl
  rw [e1] at hRe
  dsimp only at hRe
  rw [if_neg (by decide), if_neg (by decide)] at hRe
  rw [hJ] at hRe
  have hRl := congrArg List.length hRe
  simp only [List.length_append] at hRl
  try simp only [List.length_cons] at hRl
  try simp only [List.length_nil] at hRl
  have hYz : Y.size = J.length := by rw [← hY, tB_size]
  have hYb : Y.size ≤ 1000000000 := by omega
  have HYD : Hid (Y.data.toList = J) := by show _ = _; rw [← hY, tB_data]
  have hTx := fun wx (hx : Below w2.heap.size w2 wx) => texts_any m hX f (some ⟨g, o, none⟩) cap x.l la lc k d wx (by omega) hxk hok (hfr.later hx) ((hkr.below hx).more fun g hg => Nat.lt_of_lt_of_le hg hx.size) hlc hlm hd0 (by omega) (by rw [hJ]; omega)
  rw [hJ, hY] at hTx
  unfold fnV at hTx
  have z1 : (⟨#[115, 101, 99, 111, 110, 100]⟩ : ByteArray).size = 6 := rfl
  have HT : Hid ((⟨#[115, 101, 99, 111, 110, 100]⟩ : ByteArray) ++ Y = tB R) := tB_of (by rw [ByteArray.data_append, Array.toList_append, HYD.out, ← hRe]; simp)
  have q1 : ¬ (9223372036854775807 < 6 + Y.size) := by omega
  have hbt := Blk.new w2 9 [.string ⟨#[]⟩, .string ⟨#[]⟩, .string ⟨#[]⟩, .string ⟨#[]⟩, .string ⟨#[]⟩, .string ⟨#[]⟩, .string ⟨#[97, 100, 100]⟩, .string ⟨#[115, 117, 98]⟩, .string ⟨#[101, 113]⟩, .string ⟨#[108, 101, 115, 115]⟩, .string ⟨#[112, 97, 105, 114]⟩, .string ⟨#[102, 105, 114, 115, 116]⟩, .string ⟨#[115, 101, 99, 111, 110, 100]⟩, .string ⟨#[]⟩, .string ⟨#[]⟩, .string ⟨#[]⟩, .string ⟨#[115, 101, 110, 100]⟩, .string ⟨#[114, 101, 99, 118]⟩, .string ⟨#[97, 108, 119, 97, 121, 115]⟩, .string ⟨#[]⟩, .string ⟨#[]⟩, .string ⟨#[]⟩, .string ⟨#[]⟩, .string ⟨#[]⟩, .string ⟨#[115, 121, 110, 99]⟩]
  have hw3 := below_new w2 (.cells #[.string ⟨#[]⟩, .string ⟨#[]⟩, .string ⟨#[]⟩, .string ⟨#[]⟩, .string ⟨#[]⟩, .string ⟨#[]⟩, .string ⟨#[97, 100, 100]⟩, .string ⟨#[115, 117, 98]⟩, .string ⟨#[101, 113]⟩, .string ⟨#[108, 101, 115, 115]⟩, .string ⟨#[112, 97, 105, 114]⟩, .string ⟨#[102, 105, 114, 115, 116]⟩, .string ⟨#[115, 101, 99, 111, 110, 100]⟩, .string ⟨#[]⟩, .string ⟨#[]⟩, .string ⟨#[]⟩, .string ⟨#[115, 101, 110, 100]⟩, .string ⟨#[114, 101, 99, 118]⟩, .string ⟨#[97, 108, 119, 97, 121, 115]⟩, .string ⟨#[]⟩, .string ⟨#[]⟩, .string ⟨#[]⟩, .string ⟨#[]⟩, .string ⟨#[]⟩, .string ⟨#[115, 121, 110, 99]⟩] 9)
  have hbf3 := hbf2.belowAll hw3
  have hbn3 := hbn.belowAll hw3
  clear hJ hY hRe hRl hYz hbf hbf2 hbn
  go_upto_region 28 with fail
  clear f0 f1 n0 n1 n2
  generalize w2.alloc (.cells #[.string ⟨#[]⟩, .string ⟨#[]⟩, .string ⟨#[]⟩, .string ⟨#[]⟩, .string ⟨#[]⟩, .string ⟨#[]⟩, .string ⟨#[97, 100, 100]⟩, .string ⟨#[115, 117, 98]⟩, .string ⟨#[101, 113]⟩, .string ⟨#[108, 101, 115, 115]⟩, .string ⟨#[112, 97, 105, 114]⟩, .string ⟨#[102, 105, 114, 115, 116]⟩, .string ⟨#[115, 101, 99, 111, 110, 100]⟩, .string ⟨#[]⟩, .string ⟨#[]⟩, .string ⟨#[]⟩, .string ⟨#[115, 101, 110, 100]⟩, .string ⟨#[114, 101, 99, 118]⟩, .string ⟨#[97, 108, 119, 97, 121, 115]⟩, .string ⟨#[]⟩, .string ⟨#[]⟩, .string ⟨#[]⟩, .string ⟨#[]⟩, .string ⟨#[]⟩, .string ⟨#[115, 121, 110, 99]⟩] 9) = w3 at *
  have f0 := hbf3.c 0 rfl
  have f1 := hbf3.c 1 rfl
  have n0 := hbn3.c 0 rfl
  have n2 := hbn3.c 2 rfl
  have t0 := hbt.c 12 rfl
  have g0 := fun d os => cell_regrown f0 d os
  have g1 := fun d os => cell_regrown f1 d os
  have m0 := fun d os => cell_regrown n0 d os
  have m2 := fun d os => cell_regrown n2 d os
  have s0 := fun d os => cell_regrown t0 d os
  have cT : ∀ d' os, Calls Tryz.prog 56 #[.agg #[.int .i64 f.ps, .slice (some ⟨g, o, none⟩) f.ns.length cap], .slice la x.l.length lc, .int .i64 d] (grow (redrawn w3 d') os) fun e w'' => e = .returned (.string Y) ∧ ∃ p : Regrown, w'' = grow (redrawn w3 p.d) p.os := fun d' os => Calls.regrown_of (hTx _ (hw3.trans ((below_regrown w3 d' os).mono hw3.size)))
  clear hTx hbf3 hbn3 hbt
  refine wp_region_quiet_below (by kernel_rfl) (by kernel_rfl) ?_
  repeat (go_big_quiet_step (with_reducible exact cT _ _))
  refine wpQuiet_nil ?_
  intro _ hw'
  obtain ⟨⟨dq, osq⟩, hw''⟩ := hw'
  subst hw''
  have hb3 := (hw2.trans (hw3.mono hw2.size)).trans ((below_regrown w3 dq osq).mono (by have := hw2.size; have := hw3.size; omega))
  go_wp2_with fail
  go_ret
  exact ⟨by rw [HT.out]; rfl, hb3⟩
set_option maxRecDepth 100000 in
set_option maxHeartbeats 4000000 in
theorem text_16 (m : Nat) (hX : TxC m) : TxO (m + 1) 16 := by
  intro f na cap c n k d w hm hr ho hf hd0 hd hlen
  obtain ⟨x, l', e0, hx, hxo, hxn, hxk, -⟩ := hr.cons_inv
  obtain ⟨hk1, hn, hok, -⟩ := ho
  obtain ⟨g, o, la, lc, rfl, hg, q0, q1, q2, hlc, hlm, hki, r1, r2⟩ := hf.ns c x hx
  rw [hxo] at q0
  rw [hxn] at q1
  have hcl : c < f.ns.length := (List.getElem?_eq_some_iff.1 hx).1
  have hcl2 := hf.le
  have hcm := hf.cap
  have HKL := Lib.hid (rdF_cnt hxk)
  unfold maxLen at hcm
  have hbf := Blk.new w 46 [.int .i64 f.ps, .slice (some ⟨g, o, none⟩) f.ns.length cap]
  have hw1 := below_new w (.cells #[.int .i64 f.ps, .slice (some ⟨g, o, none⟩) f.ns.length cap] 46)
  have hbn := Blk.new (w.alloc (.cells #[.int .i64 f.ps, .slice (some ⟨g, o, none⟩) f.ns.length cap] 46)) 59 [.int .i64 16, .int .i64 n, .slice la x.l.length lc]
  rw [World.size_alloc] at hbn
  have hbf2 := hbf.alloc (.cells #[.int .i64 16, .int .i64 n, .slice la x.l.length lc] 59)
  have hw2 : Below w.heap.size w ((w.alloc (.cells #[.int .i64 f.ps, .slice (some ⟨g, o, none⟩) f.ns.length cap] 46)).alloc (.cells #[.int .i64 16, .int .i64 n, .slice la x.l.length lc] 59)) := (below_new _ _).alloc (by simp) _
  have f0 := hbf.c 0 rfl
  have f1 := hbf.c 1 rfl
  have y0 := (hw1.cell (p := ⟨g, o + c * 3, none⟩) hg).trans q0
  have y1 := (hw1.cell (p := ⟨g, o + c * 3 + 1, none⟩) hg).trans q1
  have y2 := (hw1.cell (p := ⟨g, o + c * 3 + 2, none⟩) hg).trans q2
  have hg1 : g < (w.alloc (.cells #[.int .i64 f.ps, .slice (some ⟨g, o, none⟩) f.ns.length cap] 46)).heap.size := Nat.lt_of_lt_of_le hg hw1.size
  have hfr := hf.later hw2
  have hkr := (hki.below hw2).more fun g hg => Nat.lt_of_lt_of_le hg hw2.size
  have hzz := hbn.lt
  obtain ⟨R, hR⟩ : ∃ R, txN 16 n (txF k d) (txF k (d + 1)) d = R := ⟨_, rfl⟩
  rw [hR] at hlen ⊢
  have HR := Lib.hid hR
  clear hR hki r1 r2 q0 q1 q2 hxo hxn e0 hr
  unfold fnV
  go_enter Tryz.func31, Tryz.ntmps31
  go_upto_region 2 with fail
  clear y0 y1 y2 f0 f1 hw1 hf
  have f0 := hbf2.c 0 rfl
  have f1 := hbf2.c 1 rfl
  have n0 := hbn.c 0 rfl
  have n1 := hbn.c 1 rfl
  have n2 := hbn.c 2 rfl
  generalize (w.alloc (.cells #[.int .i64 f.ps, .slice (some ⟨g, o, none⟩) f.ns.length cap] 46)).alloc (.cells #[.int .i64 16, .int .i64 n, .slice la x.l.length lc] 59) = w2 at *
  obtain ⟨J, hJ⟩ : ∃ J, brk (txF k d) = J := ⟨_, rfl⟩
  obtain ⟨Y, hY⟩ : ∃ Y, tB J = Y := ⟨_, rfl⟩
  have hRe := HR.out
  unfold txN at hRe
  rw [if_neg (by decide), if_neg (by decide), if_neg (by decide), if_neg (by decide), if_neg (by decide)] at hRe
  have e1 : (wTab (16 : Int).toNat) = ([115, 101, 110, 100], 5) := rfl
  rw [e1] at hRe
  dsimp only at hRe
  rw [if_neg (by decide), if_neg (by decide)] at hRe
  rw [hJ] at hRe
  have hRl := congrArg List.length hRe
  simp only [List.length_append] at hRl
  try simp only [List.length_cons] at hRl
  try simp only [List.length_nil] at hRl
  have hYz : Y.size = J.length := by rw [← hY, tB_size]
  have hYb : Y.size ≤ 1000000000 := by omega
  have HYD : Hid (Y.data.toList = J) := by show _ = _; rw [← hY, tB_data]
  have hTx := fun wx (hx : Below w2.heap.size w2 wx) => texts_any m hX f (some ⟨g, o, none⟩) cap x.l la lc k d wx (by omega) hxk hok (hfr.later hx) ((hkr.below hx).more fun g hg => Nat.lt_of_lt_of_le hg hx.size) hlc hlm hd0 (by omega) (by rw [hJ]; omega)
  rw [hJ, hY] at hTx
  unfold fnV at hTx
  have z1 : (⟨#[115, 101, 110, 100]⟩ : ByteArray).size = 4 := rfl
  have HT : Hid ((⟨#[115, 101, 110, 100]⟩ : ByteArray) ++ Y = tB R) := tB_of (by rw [ByteArray.data_append, Array.toList_append, HYD.out, ← hRe]; simp)
  have q1 : ¬ (9223372036854775807 < 4 + Y.size) := by omega
  have hbt := Blk.new w2 9 [.string ⟨#[]⟩, .string ⟨#[]⟩, .string ⟨#[]⟩, .string ⟨#[]⟩, .string ⟨#[]⟩, .string ⟨#[]⟩, .string ⟨#[97, 100, 100]⟩, .string ⟨#[115, 117, 98]⟩, .string ⟨#[101, 113]⟩, .string ⟨#[108, 101, 115, 115]⟩, .string ⟨#[112, 97, 105, 114]⟩, .string ⟨#[102, 105, 114, 115, 116]⟩, .string ⟨#[115, 101, 99, 111, 110, 100]⟩, .string ⟨#[]⟩, .string ⟨#[]⟩, .string ⟨#[]⟩, .string ⟨#[115, 101, 110, 100]⟩, .string ⟨#[114, 101, 99, 118]⟩, .string ⟨#[97, 108, 119, 97, 121, 115]⟩, .string ⟨#[]⟩, .string ⟨#[]⟩, .string ⟨#[]⟩, .string ⟨#[]⟩, .string ⟨#[]⟩, .string ⟨#[115, 121, 110, 99]⟩]
  have hw3 := below_new w2 (.cells #[.string ⟨#[]⟩, .string ⟨#[]⟩, .string ⟨#[]⟩, .string ⟨#[]⟩, .string ⟨#[]⟩, .string ⟨#[]⟩, .string ⟨#[97, 100, 100]⟩, .string ⟨#[115, 117, 98]⟩, .string ⟨#[101, 113]⟩, .string ⟨#[108, 101, 115, 115]⟩, .string ⟨#[112, 97, 105, 114]⟩, .string ⟨#[102, 105, 114, 115, 116]⟩, .string ⟨#[115, 101, 99, 111, 110, 100]⟩, .string ⟨#[]⟩, .string ⟨#[]⟩, .string ⟨#[]⟩, .string ⟨#[115, 101, 110, 100]⟩, .string ⟨#[114, 101, 99, 118]⟩, .string ⟨#[97, 108, 119, 97, 121, 115]⟩, .string ⟨#[]⟩, .string ⟨#[]⟩, .string ⟨#[]⟩, .string ⟨#[]⟩, .string ⟨#[]⟩, .string ⟨#[115, 121, 110, 99]⟩] 9)
  have hbf3 := hbf2.belowAll hw3
  have hbn3 := hbn.belowAll hw3
  clear hJ hY hRe hRl hYz hbf hbf2 hbn
  go_upto_region 28 with fail
  clear f0 f1 n0 n1 n2
  generalize w2.alloc (.cells #[.string ⟨#[]⟩, .string ⟨#[]⟩, .string ⟨#[]⟩, .string ⟨#[]⟩, .string ⟨#[]⟩, .string ⟨#[]⟩, .string ⟨#[97, 100, 100]⟩, .string ⟨#[115, 117, 98]⟩, .string ⟨#[101, 113]⟩, .string ⟨#[108, 101, 115, 115]⟩, .string ⟨#[112, 97, 105, 114]⟩, .string ⟨#[102, 105, 114, 115, 116]⟩, .string ⟨#[115, 101, 99, 111, 110, 100]⟩, .string ⟨#[]⟩, .string ⟨#[]⟩, .string ⟨#[]⟩, .string ⟨#[115, 101, 110, 100]⟩, .string ⟨#[114, 101, 99, 118]⟩, .string ⟨#[97, 108, 119, 97, 121, 115]⟩, .string ⟨#[]⟩, .string ⟨#[]⟩, .string ⟨#[]⟩, .string ⟨#[]⟩, .string ⟨#[]⟩, .string ⟨#[115, 121, 110, 99]⟩] 9) = w3 at *
  have f0 := hbf3.c 0 rfl
  have f1 := hbf3.c 1 rfl
  have n0 := hbn3.c 0 rfl
  have n2 := hbn3.c 2 rfl
  have t0 := hbt.c 16 rfl
  have g0 := fun d os => cell_regrown f0 d os
  have g1 := fun d os => cell_regrown f1 d os
  have m0 := fun d os => cell_regrown n0 d os
  have m2 := fun d os => cell_regrown n2 d os
  have s0 := fun d os => cell_regrown t0 d os
  have cT : ∀ d' os, Calls Tryz.prog 56 #[.agg #[.int .i64 f.ps, .slice (some ⟨g, o, none⟩) f.ns.length cap], .slice la x.l.length lc, .int .i64 d] (grow (redrawn w3 d') os) fun e w'' => e = .returned (.string Y) ∧ ∃ p : Regrown, w'' = grow (redrawn w3 p.d) p.os := fun d' os => Calls.regrown_of (hTx _ (hw3.trans ((below_regrown w3 d' os).mono hw3.size)))
  clear hTx hbf3 hbn3 hbt
  refine wp_region_quiet_below (by kernel_rfl) (by kernel_rfl) ?_
  repeat (go_big_quiet_step (with_reducible exact cT _ _))
  refine wpQuiet_nil ?_
  intro _ hw'
  obtain ⟨⟨dq, osq⟩, hw''⟩ := hw'
  subst hw''
  have hb3 := (hw2.trans (hw3.mono hw2.size)).trans ((below_regrown w3 dq osq).mono (by have := hw2.size; have := hw3.size; omega))
  go_wp2_with fail
  go_ret
  exact ⟨by rw [HT.out]; rfl, hb3⟩
set_option maxRecDepth 100000 in
set_option maxHeartbeats 4000000 in
theorem text_17 (m : Nat) (hX : TxC m) : TxO (m + 1) 17 := by
  intro f na cap c n k d w hm hr ho hf hd0 hd hlen
  obtain ⟨x, l', e0, hx, hxo, hxn, hxk, -⟩ := hr.cons_inv
  obtain ⟨hk1, hn, hok, -⟩ := ho
  obtain ⟨g, o, la, lc, rfl, hg, q0, q1, q2, hlc, hlm, hki, r1, r2⟩ := hf.ns c x hx
  rw [hxo] at q0
  rw [hxn] at q1
  have hcl : c < f.ns.length := (List.getElem?_eq_some_iff.1 hx).1
  have hcl2 := hf.le
  have hcm := hf.cap
  have HKL := Lib.hid (rdF_cnt hxk)
  unfold maxLen at hcm
  have hbf := Blk.new w 46 [.int .i64 f.ps, .slice (some ⟨g, o, none⟩) f.ns.length cap]
  have hw1 := below_new w (.cells #[.int .i64 f.ps, .slice (some ⟨g, o, none⟩) f.ns.length cap] 46)
  have hbn := Blk.new (w.alloc (.cells #[.int .i64 f.ps, .slice (some ⟨g, o, none⟩) f.ns.length cap] 46)) 59 [.int .i64 17, .int .i64 n, .slice la x.l.length lc]
  rw [World.size_alloc] at hbn
  have hbf2 := hbf.alloc (.cells #[.int .i64 17, .int .i64 n, .slice la x.l.length lc] 59)
  have hw2 : Below w.heap.size w ((w.alloc (.cells #[.int .i64 f.ps, .slice (some ⟨g, o, none⟩) f.ns.length cap] 46)).alloc (.cells #[.int .i64 17, .int .i64 n, .slice la x.l.length lc] 59)) := (below_new _ _).alloc (by simp) _
  have f0 := hbf.c 0 rfl
  have f1 := hbf.c 1 rfl
  have y0 := (hw1.cell (p := ⟨g, o + c * 3, none⟩) hg).trans q0
  have y1 := (hw1.cell (p := ⟨g, o + c * 3 + 1, none⟩) hg).trans q1
  have y2 := (hw1.cell (p := ⟨g, o + c * 3 + 2, none⟩) hg).trans q2
  have hg1 : g < (w.alloc (.cells #[.int .i64 f.ps, .slice (some ⟨g, o, none⟩) f.ns.length cap] 46)).heap.size := Nat.lt_of_lt_of_le hg hw1.size
  have hfr := hf.later hw2
  have hkr := (hki.below hw2).more fun g hg => Nat.lt_of_lt_of_le hg hw2.size
  have hzz := hbn.lt
  obtain ⟨R, hR⟩ : ∃ R, txN 17 n (txF k d) (txF k (d + 1)) d = R := ⟨_, rfl⟩
  rw [hR] at hlen ⊢
  have HR := Lib.hid hR
  clear hR hki r1 r2 q0 q1 q2 hxo hxn e0 hr
  unfold fnV
  go_enter Tryz.func31, Tryz.ntmps31
  go_upto_region 2 with fail
  clear y0 y1 y2 f0 f1 hw1 hf
  have f0 := hbf2.c 0 rfl
  have f1 := hbf2.c 1 rfl
  have n0 := hbn.c 0 rfl
  have n1 := hbn.c 1 rfl
  have n2 := hbn.c 2 rfl
  generalize (w.alloc (.cells #[.int .i64 f.ps, .slice (some ⟨g, o, none⟩) f.ns.length cap] 46)).alloc (.cells #[.int .i64 17, .int .i64 n, .slice la x.l.length lc] 59) = w2 at *
  obtain ⟨J, hJ⟩ : ∃ J, brk (txF k d) = J := ⟨_, rfl⟩
  obtain ⟨Y, hY⟩ : ∃ Y, tB J = Y := ⟨_, rfl⟩
  have hRe := HR.out
  unfold txN at hRe
  rw [if_neg (by decide), if_neg (by decide), if_neg (by decide), if_neg (by decide), if_neg (by decide)] at hRe
  have e1 : (wTab (17 : Int).toNat) = ([114, 101, 99, 118], 4) := rfl
  rw [e1] at hRe
  dsimp only at hRe
  rw [if_neg (by decide), if_neg (by decide)] at hRe
  rw [hJ] at hRe
  have hRl := congrArg List.length hRe
  simp only [List.length_append] at hRl
  try simp only [List.length_cons] at hRl
  try simp only [List.length_nil] at hRl
  have hYz : Y.size = J.length := by rw [← hY, tB_size]
  have hYb : Y.size ≤ 1000000000 := by omega
  have HYD : Hid (Y.data.toList = J) := by show _ = _; rw [← hY, tB_data]
  have hTx := fun wx (hx : Below w2.heap.size w2 wx) => texts_any m hX f (some ⟨g, o, none⟩) cap x.l la lc k d wx (by omega) hxk hok (hfr.later hx) ((hkr.below hx).more fun g hg => Nat.lt_of_lt_of_le hg hx.size) hlc hlm hd0 (by omega) (by rw [hJ]; omega)
  rw [hJ, hY] at hTx
  unfold fnV at hTx
  have z1 : (⟨#[114, 101, 99, 118]⟩ : ByteArray).size = 4 := rfl
  have HT : Hid ((⟨#[114, 101, 99, 118]⟩ : ByteArray) ++ Y = tB R) := tB_of (by rw [ByteArray.data_append, Array.toList_append, HYD.out, ← hRe]; simp)
  have q1 : ¬ (9223372036854775807 < 4 + Y.size) := by omega
  have hbt := Blk.new w2 9 [.string ⟨#[]⟩, .string ⟨#[]⟩, .string ⟨#[]⟩, .string ⟨#[]⟩, .string ⟨#[]⟩, .string ⟨#[]⟩, .string ⟨#[97, 100, 100]⟩, .string ⟨#[115, 117, 98]⟩, .string ⟨#[101, 113]⟩, .string ⟨#[108, 101, 115, 115]⟩, .string ⟨#[112, 97, 105, 114]⟩, .string ⟨#[102, 105, 114, 115, 116]⟩, .string ⟨#[115, 101, 99, 111, 110, 100]⟩, .string ⟨#[]⟩, .string ⟨#[]⟩, .string ⟨#[]⟩, .string ⟨#[115, 101, 110, 100]⟩, .string ⟨#[114, 101, 99, 118]⟩, .string ⟨#[97, 108, 119, 97, 121, 115]⟩, .string ⟨#[]⟩, .string ⟨#[]⟩, .string ⟨#[]⟩, .string ⟨#[]⟩, .string ⟨#[]⟩, .string ⟨#[115, 121, 110, 99]⟩]
  have hw3 := below_new w2 (.cells #[.string ⟨#[]⟩, .string ⟨#[]⟩, .string ⟨#[]⟩, .string ⟨#[]⟩, .string ⟨#[]⟩, .string ⟨#[]⟩, .string ⟨#[97, 100, 100]⟩, .string ⟨#[115, 117, 98]⟩, .string ⟨#[101, 113]⟩, .string ⟨#[108, 101, 115, 115]⟩, .string ⟨#[112, 97, 105, 114]⟩, .string ⟨#[102, 105, 114, 115, 116]⟩, .string ⟨#[115, 101, 99, 111, 110, 100]⟩, .string ⟨#[]⟩, .string ⟨#[]⟩, .string ⟨#[]⟩, .string ⟨#[115, 101, 110, 100]⟩, .string ⟨#[114, 101, 99, 118]⟩, .string ⟨#[97, 108, 119, 97, 121, 115]⟩, .string ⟨#[]⟩, .string ⟨#[]⟩, .string ⟨#[]⟩, .string ⟨#[]⟩, .string ⟨#[]⟩, .string ⟨#[115, 121, 110, 99]⟩] 9)
  have hbf3 := hbf2.belowAll hw3
  have hbn3 := hbn.belowAll hw3
  clear hJ hY hRe hRl hYz hbf hbf2 hbn
  go_upto_region 28 with fail
  clear f0 f1 n0 n1 n2
  generalize w2.alloc (.cells #[.string ⟨#[]⟩, .string ⟨#[]⟩, .string ⟨#[]⟩, .string ⟨#[]⟩, .string ⟨#[]⟩, .string ⟨#[]⟩, .string ⟨#[97, 100, 100]⟩, .string ⟨#[115, 117, 98]⟩, .string ⟨#[101, 113]⟩, .string ⟨#[108, 101, 115, 115]⟩, .string ⟨#[112, 97, 105, 114]⟩, .string ⟨#[102, 105, 114, 115, 116]⟩, .string ⟨#[115, 101, 99, 111, 110, 100]⟩, .string ⟨#[]⟩, .string ⟨#[]⟩, .string ⟨#[]⟩, .string ⟨#[115, 101, 110, 100]⟩, .string ⟨#[114, 101, 99, 118]⟩, .string ⟨#[97, 108, 119, 97, 121, 115]⟩, .string ⟨#[]⟩, .string ⟨#[]⟩, .string ⟨#[]⟩, .string ⟨#[]⟩, .string ⟨#[]⟩, .string ⟨#[115, 121, 110, 99]⟩] 9) = w3 at *
  have f0 := hbf3.c 0 rfl
  have f1 := hbf3.c 1 rfl
  have n0 := hbn3.c 0 rfl
  have n2 := hbn3.c 2 rfl
  have t0 := hbt.c 17 rfl
  have g0 := fun d os => cell_regrown f0 d os
  have g1 := fun d os => cell_regrown f1 d os
  have m0 := fun d os => cell_regrown n0 d os
  have m2 := fun d os => cell_regrown n2 d os
  have s0 := fun d os => cell_regrown t0 d os
  have cT : ∀ d' os, Calls Tryz.prog 56 #[.agg #[.int .i64 f.ps, .slice (some ⟨g, o, none⟩) f.ns.length cap], .slice la x.l.length lc, .int .i64 d] (grow (redrawn w3 d') os) fun e w'' => e = .returned (.string Y) ∧ ∃ p : Regrown, w'' = grow (redrawn w3 p.d) p.os := fun d' os => Calls.regrown_of (hTx _ (hw3.trans ((below_regrown w3 d' os).mono hw3.size)))
  clear hTx hbf3 hbn3 hbt
  refine wp_region_quiet_below (by kernel_rfl) (by kernel_rfl) ?_
  repeat (go_big_quiet_step (with_reducible exact cT _ _))
  refine wpQuiet_nil ?_
  intro _ hw'
  obtain ⟨⟨dq, osq⟩, hw''⟩ := hw'
  subst hw''
  have hb3 := (hw2.trans (hw3.mono hw2.size)).trans ((below_regrown w3 dq osq).mono (by have := hw2.size; have := hw3.size; omega))
  go_wp2_with fail
  go_ret
  exact ⟨by rw [HT.out]; rfl, hb3⟩
set_option maxRecDepth 100000 in
set_option maxHeartbeats 4000000 in
theorem text_18 (m : Nat) (hX : TxC m) : TxO (m + 1) 18 := by
  intro f na cap c n k d w hm hr ho hf hd0 hd hlen
  obtain ⟨x, l', e0, hx, hxo, hxn, hxk, -⟩ := hr.cons_inv
  obtain ⟨hk1, hn, hok, -⟩ := ho
  obtain ⟨g, o, la, lc, rfl, hg, q0, q1, q2, hlc, hlm, hki, r1, r2⟩ := hf.ns c x hx
  rw [hxo] at q0
  rw [hxn] at q1
  have hcl : c < f.ns.length := (List.getElem?_eq_some_iff.1 hx).1
  have hcl2 := hf.le
  have hcm := hf.cap
  have HKL := Lib.hid (rdF_cnt hxk)
  unfold maxLen at hcm
  have hbf := Blk.new w 46 [.int .i64 f.ps, .slice (some ⟨g, o, none⟩) f.ns.length cap]
  have hw1 := below_new w (.cells #[.int .i64 f.ps, .slice (some ⟨g, o, none⟩) f.ns.length cap] 46)
  have hbn := Blk.new (w.alloc (.cells #[.int .i64 f.ps, .slice (some ⟨g, o, none⟩) f.ns.length cap] 46)) 59 [.int .i64 18, .int .i64 n, .slice la x.l.length lc]
  rw [World.size_alloc] at hbn
  have hbf2 := hbf.alloc (.cells #[.int .i64 18, .int .i64 n, .slice la x.l.length lc] 59)
  have hw2 : Below w.heap.size w ((w.alloc (.cells #[.int .i64 f.ps, .slice (some ⟨g, o, none⟩) f.ns.length cap] 46)).alloc (.cells #[.int .i64 18, .int .i64 n, .slice la x.l.length lc] 59)) := (below_new _ _).alloc (by simp) _
  have f0 := hbf.c 0 rfl
  have f1 := hbf.c 1 rfl
  have y0 := (hw1.cell (p := ⟨g, o + c * 3, none⟩) hg).trans q0
  have y1 := (hw1.cell (p := ⟨g, o + c * 3 + 1, none⟩) hg).trans q1
  have y2 := (hw1.cell (p := ⟨g, o + c * 3 + 2, none⟩) hg).trans q2
  have hg1 : g < (w.alloc (.cells #[.int .i64 f.ps, .slice (some ⟨g, o, none⟩) f.ns.length cap] 46)).heap.size := Nat.lt_of_lt_of_le hg hw1.size
  have hfr := hf.later hw2
  have hkr := (hki.below hw2).more fun g hg => Nat.lt_of_lt_of_le hg hw2.size
  have hzz := hbn.lt
  obtain ⟨R, hR⟩ : ∃ R, txN 18 n (txF k d) (txF k (d + 1)) d = R := ⟨_, rfl⟩
  rw [hR] at hlen ⊢
  have HR := Lib.hid hR
  clear hR hki r1 r2 q0 q1 q2 hxo hxn e0 hr
  unfold fnV
  go_enter Tryz.func31, Tryz.ntmps31
  go_upto_region 2 with fail
  clear y0 y1 y2 f0 f1 hw1 hf
  have f0 := hbf2.c 0 rfl
  have f1 := hbf2.c 1 rfl
  have n0 := hbn.c 0 rfl
  have n1 := hbn.c 1 rfl
  have n2 := hbn.c 2 rfl
  generalize (w.alloc (.cells #[.int .i64 f.ps, .slice (some ⟨g, o, none⟩) f.ns.length cap] 46)).alloc (.cells #[.int .i64 18, .int .i64 n, .slice la x.l.length lc] 59) = w2 at *
  obtain ⟨J, hJ⟩ : ∃ J, brk (txF k d) = J := ⟨_, rfl⟩
  obtain ⟨Y, hY⟩ : ∃ Y, tB J = Y := ⟨_, rfl⟩
  have hRe := HR.out
  unfold txN at hRe
  rw [if_neg (by decide), if_neg (by decide), if_neg (by decide), if_neg (by decide), if_neg (by decide)] at hRe
  have e1 : (wTab (18 : Int).toNat) = ([97, 108, 119, 97, 121, 115], 4) := rfl
  rw [e1] at hRe
  dsimp only at hRe
  rw [if_neg (by decide), if_neg (by decide)] at hRe
  rw [hJ] at hRe
  have hRl := congrArg List.length hRe
  simp only [List.length_append] at hRl
  try simp only [List.length_cons] at hRl
  try simp only [List.length_nil] at hRl
  have hYz : Y.size = J.length := by rw [← hY, tB_size]
  have hYb : Y.size ≤ 1000000000 := by omega
  have HYD : Hid (Y.data.toList = J) := by show _ = _; rw [← hY, tB_data]
  have hTx := fun wx (hx : Below w2.heap.size w2 wx) => texts_any m hX f (some ⟨g, o, none⟩) cap x.l la lc k d wx (by omega) hxk hok (hfr.later hx) ((hkr.below hx).more fun g hg => Nat.lt_of_lt_of_le hg hx.size) hlc hlm hd0 (by omega) (by rw [hJ]; omega)
  rw [hJ, hY] at hTx
  unfold fnV at hTx
  have z1 : (⟨#[97, 108, 119, 97, 121, 115]⟩ : ByteArray).size = 6 := rfl
  have HT : Hid ((⟨#[97, 108, 119, 97, 121, 115]⟩ : ByteArray) ++ Y = tB R) := tB_of (by rw [ByteArray.data_append, Array.toList_append, HYD.out, ← hRe]; simp)
  have q1 : ¬ (9223372036854775807 < 6 + Y.size) := by omega
  have hbt := Blk.new w2 9 [.string ⟨#[]⟩, .string ⟨#[]⟩, .string ⟨#[]⟩, .string ⟨#[]⟩, .string ⟨#[]⟩, .string ⟨#[]⟩, .string ⟨#[97, 100, 100]⟩, .string ⟨#[115, 117, 98]⟩, .string ⟨#[101, 113]⟩, .string ⟨#[108, 101, 115, 115]⟩, .string ⟨#[112, 97, 105, 114]⟩, .string ⟨#[102, 105, 114, 115, 116]⟩, .string ⟨#[115, 101, 99, 111, 110, 100]⟩, .string ⟨#[]⟩, .string ⟨#[]⟩, .string ⟨#[]⟩, .string ⟨#[115, 101, 110, 100]⟩, .string ⟨#[114, 101, 99, 118]⟩, .string ⟨#[97, 108, 119, 97, 121, 115]⟩, .string ⟨#[]⟩, .string ⟨#[]⟩, .string ⟨#[]⟩, .string ⟨#[]⟩, .string ⟨#[]⟩, .string ⟨#[115, 121, 110, 99]⟩]
  have hw3 := below_new w2 (.cells #[.string ⟨#[]⟩, .string ⟨#[]⟩, .string ⟨#[]⟩, .string ⟨#[]⟩, .string ⟨#[]⟩, .string ⟨#[]⟩, .string ⟨#[97, 100, 100]⟩, .string ⟨#[115, 117, 98]⟩, .string ⟨#[101, 113]⟩, .string ⟨#[108, 101, 115, 115]⟩, .string ⟨#[112, 97, 105, 114]⟩, .string ⟨#[102, 105, 114, 115, 116]⟩, .string ⟨#[115, 101, 99, 111, 110, 100]⟩, .string ⟨#[]⟩, .string ⟨#[]⟩, .string ⟨#[]⟩, .string ⟨#[115, 101, 110, 100]⟩, .string ⟨#[114, 101, 99, 118]⟩, .string ⟨#[97, 108, 119, 97, 121, 115]⟩, .string ⟨#[]⟩, .string ⟨#[]⟩, .string ⟨#[]⟩, .string ⟨#[]⟩, .string ⟨#[]⟩, .string ⟨#[115, 121, 110, 99]⟩] 9)
  have hbf3 := hbf2.belowAll hw3
  have hbn3 := hbn.belowAll hw3
  clear hJ hY hRe hRl hYz hbf hbf2 hbn
  go_upto_region 28 with fail
  clear f0 f1 n0 n1 n2
  generalize w2.alloc (.cells #[.string ⟨#[]⟩, .string ⟨#[]⟩, .string ⟨#[]⟩, .string ⟨#[]⟩, .string ⟨#[]⟩, .string ⟨#[]⟩, .string ⟨#[97, 100, 100]⟩, .string ⟨#[115, 117, 98]⟩, .string ⟨#[101, 113]⟩, .string ⟨#[108, 101, 115, 115]⟩, .string ⟨#[112, 97, 105, 114]⟩, .string ⟨#[102, 105, 114, 115, 116]⟩, .string ⟨#[115, 101, 99, 111, 110, 100]⟩, .string ⟨#[]⟩, .string ⟨#[]⟩, .string ⟨#[]⟩, .string ⟨#[115, 101, 110, 100]⟩, .string ⟨#[114, 101, 99, 118]⟩, .string ⟨#[97, 108, 119, 97, 121, 115]⟩, .string ⟨#[]⟩, .string ⟨#[]⟩, .string ⟨#[]⟩, .string ⟨#[]⟩, .string ⟨#[]⟩, .string ⟨#[115, 121, 110, 99]⟩] 9) = w3 at *
  have f0 := hbf3.c 0 rfl
  have f1 := hbf3.c 1 rfl
  have n0 := hbn3.c 0 rfl
  have n2 := hbn3.c 2 rfl
  have t0 := hbt.c 18 rfl
  have g0 := fun d os => cell_regrown f0 d os
  have g1 := fun d os => cell_regrown f1 d os
  have m0 := fun d os => cell_regrown n0 d os
  have m2 := fun d os => cell_regrown n2 d os
  have s0 := fun d os => cell_regrown t0 d os
  have cT : ∀ d' os, Calls Tryz.prog 56 #[.agg #[.int .i64 f.ps, .slice (some ⟨g, o, none⟩) f.ns.length cap], .slice la x.l.length lc, .int .i64 d] (grow (redrawn w3 d') os) fun e w'' => e = .returned (.string Y) ∧ ∃ p : Regrown, w'' = grow (redrawn w3 p.d) p.os := fun d' os => Calls.regrown_of (hTx _ (hw3.trans ((below_regrown w3 d' os).mono hw3.size)))
  clear hTx hbf3 hbn3 hbt
  refine wp_region_quiet_below (by kernel_rfl) (by kernel_rfl) ?_
  repeat (go_big_quiet_step (with_reducible exact cT _ _))
  refine wpQuiet_nil ?_
  intro _ hw'
  obtain ⟨⟨dq, osq⟩, hw''⟩ := hw'
  subst hw''
  have hb3 := (hw2.trans (hw3.mono hw2.size)).trans ((below_regrown w3 dq osq).mono (by have := hw2.size; have := hw3.size; omega))
  go_wp2_with fail
  go_ret
  exact ⟨by rw [HT.out]; rfl, hb3⟩
set_option maxRecDepth 100000 in
set_option maxHeartbeats 4000000 in
theorem text_24 (m : Nat) (hX : TxC m) : TxO (m + 1) 24 := by
  intro f na cap c n k d w hm hr ho hf hd0 hd hlen
  obtain ⟨x, l', e0, hx, hxo, hxn, hxk, -⟩ := hr.cons_inv
  obtain ⟨hk1, hn, hok, -⟩ := ho
  obtain ⟨g, o, la, lc, rfl, hg, q0, q1, q2, hlc, hlm, hki, r1, r2⟩ := hf.ns c x hx
  rw [hxo] at q0
  rw [hxn] at q1
  have hcl : c < f.ns.length := (List.getElem?_eq_some_iff.1 hx).1
  have hcl2 := hf.le
  have hcm := hf.cap
  have HKL := Lib.hid (rdF_cnt hxk)
  unfold maxLen at hcm
  have hbf := Blk.new w 46 [.int .i64 f.ps, .slice (some ⟨g, o, none⟩) f.ns.length cap]
  have hw1 := below_new w (.cells #[.int .i64 f.ps, .slice (some ⟨g, o, none⟩) f.ns.length cap] 46)
  have hbn := Blk.new (w.alloc (.cells #[.int .i64 f.ps, .slice (some ⟨g, o, none⟩) f.ns.length cap] 46)) 59 [.int .i64 24, .int .i64 n, .slice la x.l.length lc]
  rw [World.size_alloc] at hbn
  have hbf2 := hbf.alloc (.cells #[.int .i64 24, .int .i64 n, .slice la x.l.length lc] 59)
  have hw2 : Below w.heap.size w ((w.alloc (.cells #[.int .i64 f.ps, .slice (some ⟨g, o, none⟩) f.ns.length cap] 46)).alloc (.cells #[.int .i64 24, .int .i64 n, .slice la x.l.length lc] 59)) := (below_new _ _).alloc (by simp) _
  have f0 := hbf.c 0 rfl
  have f1 := hbf.c 1 rfl
  have y0 := (hw1.cell (p := ⟨g, o + c * 3, none⟩) hg).trans q0
  have y1 := (hw1.cell (p := ⟨g, o + c * 3 + 1, none⟩) hg).trans q1
  have y2 := (hw1.cell (p := ⟨g, o + c * 3 + 2, none⟩) hg).trans q2
  have hg1 : g < (w.alloc (.cells #[.int .i64 f.ps, .slice (some ⟨g, o, none⟩) f.ns.length cap] 46)).heap.size := Nat.lt_of_lt_of_le hg hw1.size
  have hfr := hf.later hw2
  have hkr := (hki.below hw2).more fun g hg => Nat.lt_of_lt_of_le hg hw2.size
  have hzz := hbn.lt
  obtain ⟨R, hR⟩ : ∃ R, txN 24 n (txF k d) (txF k (d + 1)) d = R := ⟨_, rfl⟩
  rw [hR] at hlen ⊢
  have HR := Lib.hid hR
  clear hR hki r1 r2 q0 q1 q2 hxo hxn e0 hr
  unfold fnV
  go_enter Tryz.func31, Tryz.ntmps31
  go_upto_region 2 with fail
  clear y0 y1 y2 f0 f1 hw1 hf
  have f0 := hbf2.c 0 rfl
  have f1 := hbf2.c 1 rfl
  have n0 := hbn.c 0 rfl
  have n1 := hbn.c 1 rfl
  have n2 := hbn.c 2 rfl
  generalize (w.alloc (.cells #[.int .i64 f.ps, .slice (some ⟨g, o, none⟩) f.ns.length cap] 46)).alloc (.cells #[.int .i64 24, .int .i64 n, .slice la x.l.length lc] 59) = w2 at *
  obtain ⟨J, hJ⟩ : ∃ J, brk (txF k d) = J := ⟨_, rfl⟩
  obtain ⟨Y, hY⟩ : ∃ Y, tB J = Y := ⟨_, rfl⟩
  have hRe := HR.out
  unfold txN at hRe
  rw [if_neg (by decide), if_neg (by decide), if_neg (by decide), if_neg (by decide), if_neg (by decide)] at hRe
  have e1 : (wTab (24 : Int).toNat) = ([115, 121, 110, 99], 4) := rfl
  rw [e1] at hRe
  dsimp only at hRe
  rw [if_neg (by decide), if_neg (by decide)] at hRe
  rw [hJ] at hRe
  have hRl := congrArg List.length hRe
  simp only [List.length_append] at hRl
  try simp only [List.length_cons] at hRl
  try simp only [List.length_nil] at hRl
  have hYz : Y.size = J.length := by rw [← hY, tB_size]
  have hYb : Y.size ≤ 1000000000 := by omega
  have HYD : Hid (Y.data.toList = J) := by show _ = _; rw [← hY, tB_data]
  have hTx := fun wx (hx : Below w2.heap.size w2 wx) => texts_any m hX f (some ⟨g, o, none⟩) cap x.l la lc k d wx (by omega) hxk hok (hfr.later hx) ((hkr.below hx).more fun g hg => Nat.lt_of_lt_of_le hg hx.size) hlc hlm hd0 (by omega) (by rw [hJ]; omega)
  rw [hJ, hY] at hTx
  unfold fnV at hTx
  have z1 : (⟨#[115, 121, 110, 99]⟩ : ByteArray).size = 4 := rfl
  have HT : Hid ((⟨#[115, 121, 110, 99]⟩ : ByteArray) ++ Y = tB R) := tB_of (by rw [ByteArray.data_append, Array.toList_append, HYD.out, ← hRe]; simp)
  have q1 : ¬ (9223372036854775807 < 4 + Y.size) := by omega
  have hbt := Blk.new w2 9 [.string ⟨#[]⟩, .string ⟨#[]⟩, .string ⟨#[]⟩, .string ⟨#[]⟩, .string ⟨#[]⟩, .string ⟨#[]⟩, .string ⟨#[97, 100, 100]⟩, .string ⟨#[115, 117, 98]⟩, .string ⟨#[101, 113]⟩, .string ⟨#[108, 101, 115, 115]⟩, .string ⟨#[112, 97, 105, 114]⟩, .string ⟨#[102, 105, 114, 115, 116]⟩, .string ⟨#[115, 101, 99, 111, 110, 100]⟩, .string ⟨#[]⟩, .string ⟨#[]⟩, .string ⟨#[]⟩, .string ⟨#[115, 101, 110, 100]⟩, .string ⟨#[114, 101, 99, 118]⟩, .string ⟨#[97, 108, 119, 97, 121, 115]⟩, .string ⟨#[]⟩, .string ⟨#[]⟩, .string ⟨#[]⟩, .string ⟨#[]⟩, .string ⟨#[]⟩, .string ⟨#[115, 121, 110, 99]⟩]
  have hw3 := below_new w2 (.cells #[.string ⟨#[]⟩, .string ⟨#[]⟩, .string ⟨#[]⟩, .string ⟨#[]⟩, .string ⟨#[]⟩, .string ⟨#[]⟩, .string ⟨#[97, 100, 100]⟩, .string ⟨#[115, 117, 98]⟩, .string ⟨#[101, 113]⟩, .string ⟨#[108, 101, 115, 115]⟩, .string ⟨#[112, 97, 105, 114]⟩, .string ⟨#[102, 105, 114, 115, 116]⟩, .string ⟨#[115, 101, 99, 111, 110, 100]⟩, .string ⟨#[]⟩, .string ⟨#[]⟩, .string ⟨#[]⟩, .string ⟨#[115, 101, 110, 100]⟩, .string ⟨#[114, 101, 99, 118]⟩, .string ⟨#[97, 108, 119, 97, 121, 115]⟩, .string ⟨#[]⟩, .string ⟨#[]⟩, .string ⟨#[]⟩, .string ⟨#[]⟩, .string ⟨#[]⟩, .string ⟨#[115, 121, 110, 99]⟩] 9)
  have hbf3 := hbf2.belowAll hw3
  have hbn3 := hbn.belowAll hw3
  clear hJ hY hRe hRl hYz hbf hbf2 hbn
  go_upto_region 28 with fail
  clear f0 f1 n0 n1 n2
  generalize w2.alloc (.cells #[.string ⟨#[]⟩, .string ⟨#[]⟩, .string ⟨#[]⟩, .string ⟨#[]⟩, .string ⟨#[]⟩, .string ⟨#[]⟩, .string ⟨#[97, 100, 100]⟩, .string ⟨#[115, 117, 98]⟩, .string ⟨#[101, 113]⟩, .string ⟨#[108, 101, 115, 115]⟩, .string ⟨#[112, 97, 105, 114]⟩, .string ⟨#[102, 105, 114, 115, 116]⟩, .string ⟨#[115, 101, 99, 111, 110, 100]⟩, .string ⟨#[]⟩, .string ⟨#[]⟩, .string ⟨#[]⟩, .string ⟨#[115, 101, 110, 100]⟩, .string ⟨#[114, 101, 99, 118]⟩, .string ⟨#[97, 108, 119, 97, 121, 115]⟩, .string ⟨#[]⟩, .string ⟨#[]⟩, .string ⟨#[]⟩, .string ⟨#[]⟩, .string ⟨#[]⟩, .string ⟨#[115, 121, 110, 99]⟩] 9) = w3 at *
  have f0 := hbf3.c 0 rfl
  have f1 := hbf3.c 1 rfl
  have n0 := hbn3.c 0 rfl
  have n2 := hbn3.c 2 rfl
  have t0 := hbt.c 24 rfl
  have g0 := fun d os => cell_regrown f0 d os
  have g1 := fun d os => cell_regrown f1 d os
  have m0 := fun d os => cell_regrown n0 d os
  have m2 := fun d os => cell_regrown n2 d os
  have s0 := fun d os => cell_regrown t0 d os
  have cT : ∀ d' os, Calls Tryz.prog 56 #[.agg #[.int .i64 f.ps, .slice (some ⟨g, o, none⟩) f.ns.length cap], .slice la x.l.length lc, .int .i64 d] (grow (redrawn w3 d') os) fun e w'' => e = .returned (.string Y) ∧ ∃ p : Regrown, w'' = grow (redrawn w3 p.d) p.os := fun d' os => Calls.regrown_of (hTx _ (hw3.trans ((below_regrown w3 d' os).mono hw3.size)))
  clear hTx hbf3 hbn3 hbt
  refine wp_region_quiet_below (by kernel_rfl) (by kernel_rfl) ?_
  repeat (go_big_quiet_step (with_reducible exact cT _ _))
  refine wpQuiet_nil ?_
  intro _ hw'
  obtain ⟨⟨dq, osq⟩, hw''⟩ := hw'
  subst hw''
  have hb3 := (hw2.trans (hw3.mono hw2.size)).trans ((below_regrown w3 dq osq).mono (by have := hw2.size; have := hw3.size; omega))
  go_wp2_with fail
  go_ret
  exact ⟨by rw [HT.out]; rfl, hb3⟩
set_option maxRecDepth 100000 in
set_option maxHeartbeats 4000000 in
theorem text_4 (m : Nat) (hX : TxC m) : TxO (m + 1) 4 := by
  intro f na cap c n k d w hm hr ho hf hd0 hd hlen
  obtain ⟨x, l', e0, hx, hxo, hxn, hxk, -⟩ := hr.cons_inv
  obtain ⟨hk1, hn, hok, -⟩ := ho
  obtain ⟨g, o, la, lc, rfl, hg, q0, q1, q2, hlc, hlm, hki, r1, r2⟩ := hf.ns c x hx
  rw [hxo] at q0
  rw [hxn] at q1
  have hcl : c < f.ns.length := (List.getElem?_eq_some_iff.1 hx).1
  have hcl2 := hf.le
  have hcm := hf.cap
  have HKL := Lib.hid (rdF_cnt hxk)
  unfold maxLen at hcm
  have hbf := Blk.new w 46 [.int .i64 f.ps, .slice (some ⟨g, o, none⟩) f.ns.length cap]
  have hw1 := below_new w (.cells #[.int .i64 f.ps, .slice (some ⟨g, o, none⟩) f.ns.length cap] 46)
  have hbn := Blk.new (w.alloc (.cells #[.int .i64 f.ps, .slice (some ⟨g, o, none⟩) f.ns.length cap] 46)) 59 [.int .i64 4, .int .i64 n, .slice la x.l.length lc]
  rw [World.size_alloc] at hbn
  have hbf2 := hbf.alloc (.cells #[.int .i64 4, .int .i64 n, .slice la x.l.length lc] 59)
  have hw2 : Below w.heap.size w ((w.alloc (.cells #[.int .i64 f.ps, .slice (some ⟨g, o, none⟩) f.ns.length cap] 46)).alloc (.cells #[.int .i64 4, .int .i64 n, .slice la x.l.length lc] 59)) := (below_new _ _).alloc (by simp) _
  have f0 := hbf.c 0 rfl
  have f1 := hbf.c 1 rfl
  have y0 := (hw1.cell (p := ⟨g, o + c * 3, none⟩) hg).trans q0
  have y1 := (hw1.cell (p := ⟨g, o + c * 3 + 1, none⟩) hg).trans q1
  have y2 := (hw1.cell (p := ⟨g, o + c * 3 + 2, none⟩) hg).trans q2
  have hg1 : g < (w.alloc (.cells #[.int .i64 f.ps, .slice (some ⟨g, o, none⟩) f.ns.length cap] 46)).heap.size := Nat.lt_of_lt_of_le hg hw1.size
  have hfr := hf.later hw2
  have hkr := (hki.below hw2).more fun g hg => Nat.lt_of_lt_of_le hg hw2.size
  have hzz := hbn.lt
  obtain ⟨R, hR⟩ : ∃ R, txN 4 n (txF k d) (txF k (d + 1)) d = R := ⟨_, rfl⟩
  rw [hR] at hlen ⊢
  have HR := Lib.hid hR
  clear hR hki r1 r2 q0 q1 q2 hxo hxn e0 hr
  unfold fnV
  go_enter Tryz.func31, Tryz.ntmps31
  go_upto_region 2 with fail
  clear y0 y1 y2 f0 f1 hw1 hf
  have f0 := hbf2.c 0 rfl
  have f1 := hbf2.c 1 rfl
  have n0 := hbn.c 0 rfl
  have n1 := hbn.c 1 rfl
  have n2 := hbn.c 2 rfl
  generalize (w.alloc (.cells #[.int .i64 f.ps, .slice (some ⟨g, o, none⟩) f.ns.length cap] 46)).alloc (.cells #[.int .i64 4, .int .i64 n, .slice la x.l.length lc] 59) = w2 at *
  have hc2 : cntF k = 2 := by simpa [kidsOk] using hk1
  obtain ⟨c0, op0, n0', k0, r0, e01, e02, e03, e04, e05, -⟩ := rdF_atT hxk 0 (by have := HKL.out; omega) hok
  have a0 := txF_at e02 (d)
  obtain ⟨X0, hX0⟩ : ∃ X, txN op0 n0' (txF k0 (d)) (txF k0 (d + 1)) (d) = X := ⟨_, rfl⟩
  rw [hX0] at a0
  obtain ⟨Y0, hY0⟩ : ∃ Y, tB X0 = Y := ⟨_, rfl⟩
  have hYz0 : Y0.size = X0.length := by rw [← hY0, tB_size]
  have HYD0 : Hid (Y0.data.toList = X0) := by show _ = _; rw [← hY0, tB_data]
  obtain ⟨c1, op1, n1', k1, r1, e11, e12, e13, e14, e15, -⟩ := rdF_atT hxk 1 (by have := HKL.out; omega) hok
  have a1 := txF_at e12 (d + 1)
  obtain ⟨X1, hX1⟩ : ∃ X, txN op1 n1' (txF k1 (d + 1)) (txF k1 (d + 1 + 1)) (d + 1) = X := ⟨_, rfl⟩
  rw [hX1] at a1
  obtain ⟨Y1, hY1⟩ : ∃ Y, tB X1 = Y := ⟨_, rfl⟩
  have hYz1 : Y1.size = X1.length := by rw [← hY1, tB_size]
  have HYD1 : Hid (Y1.data.toList = X1) := by show _ = _; rw [← hY1, tB_data]
  obtain ⟨O, hO⟩ : ∃ O, tB (118 :: Lib.itoa d) = O := ⟨_, rfl⟩
  have hdr : Rng d := by unfold Rng; omega
  have hOz : O.size ≤ 22 := by
    rw [← hO, tB_size]
    have := itoa_21 hdr
    simp only [List.length_cons]
    omega
  have HOD : Hid (O.data.toList = 118 :: Lib.itoa d) := by show _ = _; rw [← hO, tB_data]
  have hRe := HR.out
  unfold txN at hRe
  rw [if_neg (by decide), if_neg (by decide), if_pos rfl] at hRe
  rw [a0, a1] at hRe
  have hRl := congrArg List.length hRe
  simp only [List.length_append] at hRl
  try simp only [List.length_cons] at hRl
  try simp only [List.length_nil] at hRl
  have hYb0 : Y0.size ≤ 1000000000 := by omega
  have cT0 : ∀ d' os, Calls Tryz.prog 31 #[.agg #[.int .i64 f.ps, .slice (some ⟨g, o, none⟩) f.ns.length cap], .int .i64 (c0 : Nat), .int .i64 (d)] (grow (redrawn w2 d') os) fun e w'' => e = .returned (.string Y0) ∧ ∃ p : Regrown, w'' = grow (redrawn w2 p.d) p.os := fun d' os => by
    have hT := hX f (some ⟨g, o, none⟩) cap c0 op0 n0' k0 (d) _ (by omega) e03 e04 (hfr.later (below_regrown w2 d' os)) (by omega) (by omega) (by rw [hX0]; omega)
    rw [hX0, hY0] at hT
    exact Calls.regrown_of hT
  have hYb1 : Y1.size ≤ 1000000000 := by omega
  have cT1 : ∀ d' os, Calls Tryz.prog 31 #[.agg #[.int .i64 f.ps, .slice (some ⟨g, o, none⟩) f.ns.length cap], .int .i64 (c1 : Nat), .int .i64 (d + 1)] (grow (redrawn w2 d') os) fun e w'' => e = .returned (.string Y1) ∧ ∃ p : Regrown, w'' = grow (redrawn w2 p.d) p.os := fun d' os => by
    have hT := hX f (some ⟨g, o, none⟩) cap c1 op1 n1' k1 (d + 1) _ (by omega) e13 e14 (hfr.later (below_regrown w2 d' os)) (by omega) (by omega) (by rw [hX1]; omega)
    rw [hX1, hY1] at hT
    exact Calls.regrown_of hT
  have cO : ∀ d' os, Calls Tryz.prog 30 #[.string ⟨#[118]⟩, .int .i64 d] (grow (redrawn w2 d') os) fun e w'' => e = .returned (.string O) ∧ ∃ p : Regrown, w'' = grow (redrawn w2 p.d) p.os := fun d' os => (own_any 118 d hdr _).mono (by
    rintro e w' ⟨rfl, rfl⟩
    exact ⟨by rw [hO], ⟨d', os⟩, rfl⟩)
  obtain ⟨g4, o4, rfl, hg4, z0, -⟩ := hkr 0 _ e01
  rw [Nat.add_zero] at z0
  obtain ⟨g5, o5, e5, -, z1, -⟩ := hkr 1 _ e11
  injection e5 with e5
  injection e5 with e5 e6
  subst e5
  subst e6
  have hl0 : 0 < x.l.length := by have := HKL.out; omega
  have hl1 : 1 < x.l.length := by have := HKL.out; omega
  have g0 := fun d os => cell_regrown f0 d os
  have g1 := fun d os => cell_regrown f1 d os
  have m0 := fun d os => cell_regrown n0 d os
  have m1 := fun d os => cell_regrown n1 d os
  have m2 := fun d os => cell_regrown n2 d os
  have h0 := fun d os => cell_regrown z0 d os
  have h1 := fun d os => cell_regrown z1 d os
  have z3 : (⟨#[108, 101, 116, 32]⟩ : ByteArray).size = 4 := rfl
  have z4 : (⟨#[32, 61, 32]⟩ : ByteArray).size = 3 := rfl
  have z5 : (⟨#[32, 105, 110, 32]⟩ : ByteArray).size = 4 := rfl
  have HT : Hid ((⟨#[108, 101, 116, 32]⟩ : ByteArray) ++ O ++ (⟨#[32, 61, 32]⟩ : ByteArray) ++ Y0 ++ (⟨#[32, 105, 110, 32]⟩ : ByteArray) ++ Y1 = tB R) := tB_of (by simp only [ByteArray.data_append, Array.toList_append, HOD.out, HYD0.out, HYD1.out, ← hRe])
  have q1 : ¬ (9223372036854775807 < 4 + O.size) := by omega
  have q2 : ¬ (9223372036854775807 < 4 + O.size + 3) := by omega
  have q3 : ¬ (9223372036854775807 < 4 + O.size + 3 + Y0.size) := by omega
  have q4 : ¬ (9223372036854775807 < 4 + O.size + 3 + Y0.size + 4) := by omega
  have q5 : ¬ (9223372036854775807 < 4 + O.size + 3 + Y0.size + 4 + Y1.size) := by omega
  clear hc2 a0 a1 hX0 hX1 hY0 hY1 hYz0 hYz1 e02 e12 hO hRe hRl hbf hbf2 hbn e01 e11 e03 e13 e04 e14 e05 e15
  go_upto_region 12 with fail
  refine wp_region_quiet_below (by kernel_rfl) (by kernel_rfl) ?_
  repeat (go_big_quiet_step (with_reducible first | exact cO _ _ | exact cT0 _ _ | exact cT1 _ _))
  refine wpQuiet_nil ?_
  intro _ hw'
  obtain ⟨⟨dq, osq⟩, hw''⟩ := hw'
  subst hw''
  have hb3 := hw2.trans ((below_regrown w2 dq osq).mono hw2.size)
  go_wp2_with fail
  go_ret
  exact ⟨by rw [HT.out]; rfl, hb3⟩
set_option maxRecDepth 100000 in
set_option maxHeartbeats 4000000 in
theorem text_5 (m : Nat) (hX : TxC m) : TxO (m + 1) 5 := by
  intro f na cap c n k d w hm hr ho hf hd0 hd hlen
  obtain ⟨x, l', e0, hx, hxo, hxn, hxk, -⟩ := hr.cons_inv
  obtain ⟨hk1, hn, hok, -⟩ := ho
  obtain ⟨g, o, la, lc, rfl, hg, q0, q1, q2, hlc, hlm, hki, r1, r2⟩ := hf.ns c x hx
  rw [hxo] at q0
  rw [hxn] at q1
  have hcl : c < f.ns.length := (List.getElem?_eq_some_iff.1 hx).1
  have hcl2 := hf.le
  have hcm := hf.cap
  have HKL := Lib.hid (rdF_cnt hxk)
  unfold maxLen at hcm
  have hbf := Blk.new w 46 [.int .i64 f.ps, .slice (some ⟨g, o, none⟩) f.ns.length cap]
  have hw1 := below_new w (.cells #[.int .i64 f.ps, .slice (some ⟨g, o, none⟩) f.ns.length cap] 46)
  have hbn := Blk.new (w.alloc (.cells #[.int .i64 f.ps, .slice (some ⟨g, o, none⟩) f.ns.length cap] 46)) 59 [.int .i64 5, .int .i64 n, .slice la x.l.length lc]
  rw [World.size_alloc] at hbn
  have hbf2 := hbf.alloc (.cells #[.int .i64 5, .int .i64 n, .slice la x.l.length lc] 59)
  have hw2 : Below w.heap.size w ((w.alloc (.cells #[.int .i64 f.ps, .slice (some ⟨g, o, none⟩) f.ns.length cap] 46)).alloc (.cells #[.int .i64 5, .int .i64 n, .slice la x.l.length lc] 59)) := (below_new _ _).alloc (by simp) _
  have f0 := hbf.c 0 rfl
  have f1 := hbf.c 1 rfl
  have y0 := (hw1.cell (p := ⟨g, o + c * 3, none⟩) hg).trans q0
  have y1 := (hw1.cell (p := ⟨g, o + c * 3 + 1, none⟩) hg).trans q1
  have y2 := (hw1.cell (p := ⟨g, o + c * 3 + 2, none⟩) hg).trans q2
  have hg1 : g < (w.alloc (.cells #[.int .i64 f.ps, .slice (some ⟨g, o, none⟩) f.ns.length cap] 46)).heap.size := Nat.lt_of_lt_of_le hg hw1.size
  have hfr := hf.later hw2
  have hkr := (hki.below hw2).more fun g hg => Nat.lt_of_lt_of_le hg hw2.size
  have hzz := hbn.lt
  obtain ⟨R, hR⟩ : ∃ R, txN 5 n (txF k d) (txF k (d + 1)) d = R := ⟨_, rfl⟩
  rw [hR] at hlen ⊢
  have HR := Lib.hid hR
  clear hR hki r1 r2 q0 q1 q2 hxo hxn e0 hr
  unfold fnV
  go_enter Tryz.func31, Tryz.ntmps31
  go_upto_region 2 with fail
  clear y0 y1 y2 f0 f1 hw1 hf
  have f0 := hbf2.c 0 rfl
  have f1 := hbf2.c 1 rfl
  have n0 := hbn.c 0 rfl
  have n1 := hbn.c 1 rfl
  have n2 := hbn.c 2 rfl
  generalize (w.alloc (.cells #[.int .i64 f.ps, .slice (some ⟨g, o, none⟩) f.ns.length cap] 46)).alloc (.cells #[.int .i64 5, .int .i64 n, .slice la x.l.length lc] 59) = w2 at *
  have hc2 : cntF k = 3 := by simpa [kidsOk] using hk1
  obtain ⟨c0, op0, n0', k0, r0, e01, e02, e03, e04, e05, -⟩ := rdF_atT hxk 0 (by have := HKL.out; omega) hok
  have a0 := txF_at e02 (d)
  obtain ⟨X0, hX0⟩ : ∃ X, txN op0 n0' (txF k0 (d)) (txF k0 (d + 1)) (d) = X := ⟨_, rfl⟩
  rw [hX0] at a0
  obtain ⟨Y0, hY0⟩ : ∃ Y, tB X0 = Y := ⟨_, rfl⟩
  have hYz0 : Y0.size = X0.length := by rw [← hY0, tB_size]
  have HYD0 : Hid (Y0.data.toList = X0) := by show _ = _; rw [← hY0, tB_data]
  obtain ⟨c1, op1, n1', k1, r1, e11, e12, e13, e14, e15, -⟩ := rdF_atT hxk 1 (by have := HKL.out; omega) hok
  have a1 := txF_at e12 (d)
  obtain ⟨X1, hX1⟩ : ∃ X, txN op1 n1' (txF k1 (d)) (txF k1 (d + 1)) (d) = X := ⟨_, rfl⟩
  rw [hX1] at a1
  obtain ⟨Y1, hY1⟩ : ∃ Y, tB X1 = Y := ⟨_, rfl⟩
  have hYz1 : Y1.size = X1.length := by rw [← hY1, tB_size]
  have HYD1 : Hid (Y1.data.toList = X1) := by show _ = _; rw [← hY1, tB_data]
  obtain ⟨c2, op2, n2', k2, r2, e21, e22, e23, e24, e25, -⟩ := rdF_atT hxk 2 (by have := HKL.out; omega) hok
  have a2 := txF_at e22 (d)
  obtain ⟨X2, hX2⟩ : ∃ X, txN op2 n2' (txF k2 (d)) (txF k2 (d + 1)) (d) = X := ⟨_, rfl⟩
  rw [hX2] at a2
  obtain ⟨Y2, hY2⟩ : ∃ Y, tB X2 = Y := ⟨_, rfl⟩
  have hYz2 : Y2.size = X2.length := by rw [← hY2, tB_size]
  have HYD2 : Hid (Y2.data.toList = X2) := by show _ = _; rw [← hY2, tB_data]
  have hRe := HR.out
  unfold txN at hRe
  rw [if_neg (by decide), if_neg (by decide), if_neg (by decide), if_pos rfl] at hRe
  rw [a0, a1, a2] at hRe
  have hRl := congrArg List.length hRe
  simp only [List.length_append] at hRl
  try simp only [List.length_cons] at hRl
  try simp only [List.length_nil] at hRl
  have hYb0 : Y0.size ≤ 1000000000 := by omega
  have cT0 : ∀ d' os, Calls Tryz.prog 31 #[.agg #[.int .i64 f.ps, .slice (some ⟨g, o, none⟩) f.ns.length cap], .int .i64 (c0 : Nat), .int .i64 (d)] (grow (redrawn w2 d') os) fun e w'' => e = .returned (.string Y0) ∧ ∃ p : Regrown, w'' = grow (redrawn w2 p.d) p.os := fun d' os => by
    have hT := hX f (some ⟨g, o, none⟩) cap c0 op0 n0' k0 (d) _ (by omega) e03 e04 (hfr.later (below_regrown w2 d' os)) (by omega) (by omega) (by rw [hX0]; omega)
    rw [hX0, hY0] at hT
    exact Calls.regrown_of hT
  have hYb1 : Y1.size ≤ 1000000000 := by omega
  have cT1 : ∀ d' os, Calls Tryz.prog 31 #[.agg #[.int .i64 f.ps, .slice (some ⟨g, o, none⟩) f.ns.length cap], .int .i64 (c1 : Nat), .int .i64 (d)] (grow (redrawn w2 d') os) fun e w'' => e = .returned (.string Y1) ∧ ∃ p : Regrown, w'' = grow (redrawn w2 p.d) p.os := fun d' os => by
    have hT := hX f (some ⟨g, o, none⟩) cap c1 op1 n1' k1 (d) _ (by omega) e13 e14 (hfr.later (below_regrown w2 d' os)) (by omega) (by omega) (by rw [hX1]; omega)
    rw [hX1, hY1] at hT
    exact Calls.regrown_of hT
  have hYb2 : Y2.size ≤ 1000000000 := by omega
  have cT2 : ∀ d' os, Calls Tryz.prog 31 #[.agg #[.int .i64 f.ps, .slice (some ⟨g, o, none⟩) f.ns.length cap], .int .i64 (c2 : Nat), .int .i64 (d)] (grow (redrawn w2 d') os) fun e w'' => e = .returned (.string Y2) ∧ ∃ p : Regrown, w'' = grow (redrawn w2 p.d) p.os := fun d' os => by
    have hT := hX f (some ⟨g, o, none⟩) cap c2 op2 n2' k2 (d) _ (by omega) e23 e24 (hfr.later (below_regrown w2 d' os)) (by omega) (by omega) (by rw [hX2]; omega)
    rw [hX2, hY2] at hT
    exact Calls.regrown_of hT
  obtain ⟨g4, o4, rfl, hg4, z0, -⟩ := hkr 0 _ e01
  rw [Nat.add_zero] at z0
  obtain ⟨g5, o5, e5, -, z1, -⟩ := hkr 1 _ e11
  injection e5 with e5
  injection e5 with e5 e6
  subst e5
  subst e6
  obtain ⟨g6, o6, e7, -, z2, -⟩ := hkr 2 _ e21
  injection e7 with e7
  injection e7 with e7 e8
  subst e7
  subst e8
  have hl2 : 2 < x.l.length := by have := HKL.out; omega
  have hl0 : 0 < x.l.length := by have := HKL.out; omega
  have hl1 : 1 < x.l.length := by have := HKL.out; omega
  have g0 := fun d os => cell_regrown f0 d os
  have g1 := fun d os => cell_regrown f1 d os
  have m0 := fun d os => cell_regrown n0 d os
  have m1 := fun d os => cell_regrown n1 d os
  have m2 := fun d os => cell_regrown n2 d os
  have h0 := fun d os => cell_regrown z0 d os
  have h1 := fun d os => cell_regrown z1 d os
  have h2 := fun d os => cell_regrown z2 d os
  have z3 : (⟨#[105, 102, 32]⟩ : ByteArray).size = 3 := rfl
  have z4 : (⟨#[32, 116, 104, 101, 110, 32]⟩ : ByteArray).size = 6 := rfl
  have z5 : (⟨#[32, 101, 108, 115, 101, 32]⟩ : ByteArray).size = 6 := rfl
  have HT : Hid ((⟨#[105, 102, 32]⟩ : ByteArray) ++ Y0 ++ (⟨#[32, 116, 104, 101, 110, 32]⟩ : ByteArray) ++ Y1 ++ (⟨#[32, 101, 108, 115, 101, 32]⟩ : ByteArray) ++ Y2 = tB R) := tB_of (by simp only [ByteArray.data_append, Array.toList_append, HYD0.out, HYD1.out, HYD2.out, ← hRe])
  have q1 : ¬ (9223372036854775807 < 3 + Y0.size) := by omega
  have q2 : ¬ (9223372036854775807 < 3 + Y0.size + 6) := by omega
  have q3 : ¬ (9223372036854775807 < 3 + Y0.size + 6 + Y1.size) := by omega
  have q4 : ¬ (9223372036854775807 < 3 + Y0.size + 6 + Y1.size + 6) := by omega
  have q5 : ¬ (9223372036854775807 < 3 + Y0.size + 6 + Y1.size + 6 + Y2.size) := by omega
  clear hc2 a0 a1 a2 hX0 hX1 hX2 hY0 hY1 hY2 hYz0 hYz1 hYz2 e02 e12 e22 hRe hRl hbf hbf2 hbn e01 e11 e21 e03 e13 e23 e04 e14 e24 e05 e15 e25
  go_upto_region 14 with fail
  refine wp_region_quiet_below (by kernel_rfl) (by kernel_rfl) ?_
  repeat (go_big_quiet_step (with_reducible first | exact cT0 _ _ | exact cT1 _ _ | exact cT2 _ _))
  refine wpQuiet_nil ?_
  intro _ hw'
  obtain ⟨⟨dq, osq⟩, hw''⟩ := hw'
  subst hw''
  have hb3 := hw2.trans ((below_regrown w2 dq osq).mono hw2.size)
  go_wp2_with fail
  go_ret
  exact ⟨by rw [HT.out]; rfl, hb3⟩
theorem kidsOk_ops {op : Int} {m : Nat} (h : kidsOk op m = true) : op = 1 ∨ op = 2 ∨ op = 3 ∨ op = 4 ∨ op = 5 ∨ op = 6 ∨ op = 7 ∨ op = 8 ∨ op = 9 ∨ op = 10 ∨ op = 11 ∨ op = 12 ∨ op = 13 ∨ op = 14 ∨ op = 15 ∨ op = 16 ∨ op = 17 ∨ op = 18 ∨ op = 19 ∨ op = 20 ∨ op = 21 ∨ op = 22 ∨ op = 23 ∨ op = 24 := by
  unfold kidsOk at h
  repeat' split at h
  all_goals first | omega | cases h
theorem text_all : ∀ m, TxC m
  | 0 => fun f na cap c op n k d w hm => by omega
  | m + 1 => fun f na cap c op n k d w hm hr ho hf hd0 hd hlen => by
    have hX := text_all m
    rcases kidsOk_ops ho.1 with rfl | rfl | rfl | rfl | rfl | rfl | rfl | rfl | rfl | rfl | rfl | rfl | rfl | rfl | rfl | rfl | rfl | rfl | rfl | rfl | rfl | rfl | rfl | rfl
    · exact text_1 m f na cap c n k d w hm hr ho hf hd0 hd hlen
    · exact text_2 m f na cap c n k d w hm hr ho hf hd0 hd hlen
    · exact text_3 m f na cap c n k d w hm hr ho hf hd0 hd hlen
    · exact text_4 m hX f na cap c n k d w hm hr ho hf hd0 hd hlen
    · exact text_5 m hX f na cap c n k d w hm hr ho hf hd0 hd hlen
    · exact text_6 m hX f na cap c n k d w hm hr ho hf hd0 hd hlen
    · exact text_7 m hX f na cap c n k d w hm hr ho hf hd0 hd hlen
    · exact text_8 m hX f na cap c n k d w hm hr ho hf hd0 hd hlen
    · exact text_9 m hX f na cap c n k d w hm hr ho hf hd0 hd hlen
    · exact text_10 m hX f na cap c n k d w hm hr ho hf hd0 hd hlen
    · exact text_11 m hX f na cap c n k d w hm hr ho hf hd0 hd hlen
    · exact text_12 m hX f na cap c n k d w hm hr ho hf hd0 hd hlen
    · exact text_13 m hX f na cap c n k d w hm hr ho hf hd0 hd hlen
    · exact text_14 m hX f na cap c n k d w hm hr ho hf hd0 hd hlen
    · exact text_15 m f na cap c n k d w hm hr ho hf hd0 hd hlen
    · exact text_16 m hX f na cap c n k d w hm hr ho hf hd0 hd hlen
    · exact text_17 m hX f na cap c n k d w hm hr ho hf hd0 hd hlen
    · exact text_18 m hX f na cap c n k d w hm hr ho hf hd0 hd hlen
    · exact text_19 m f na cap c n k d w hm hr ho hf hd0 hd hlen
    · exact text_20 m hX f na cap c n k d w hm hr ho hf hd0 hd hlen
    · exact text_21 m hX f na cap c n k d w hm hr ho hf hd0 hd hlen
    · exact text_22 m hX f na cap c n k d w hm hr ho hf hd0 hd hlen
    · exact text_23 m hX f na cap c n k d w hm hr ho hf hd0 hd hlen
    · exact text_24 m hX f na cap c n k d w hm hr ho hf hd0 hd hlen
end Go.Proofs.YtjendlnicbieoaaGreatDoor
