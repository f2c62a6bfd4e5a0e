/-
  The reference's walk: the nodes' numbers in order.
-/
import Derived.Test.YtjendlnicbieoaaGreatDoorTz
import Derived.Test.YtjendlnicbieoaaGreatDoorNm
namespace Go.Proofs.YtjendlnicbieoaaGreatDoor
open Go.RowKit Go.Sort
attribute [local go_sem] Oper.semAt_some

def labI (t : Fo) : List Int := (labels t).map fun (c : Nat) => (c : Int)
theorem labI_app : ∀ (s t : Fo), labI (s.app t) = labI s ++ labI t
  | .nil, t => rfl
  | .cons c op n k r, t => by
    have h := labI_app r t
    have e1 : labI ((Fo.cons c op n k r).app t) = (c : Int) :: (labI k ++ labI (r.app t)) := by simp [labI, labels, Fo.app]
    have e2 : labI (.cons c op n k r) = (c : Int) :: (labI k ++ labI r) := by simp [labI, labels]
    rw [e1, e2, h, List.cons_append, List.append_assoc]
theorem labI_one (c : Nat) (op n : Int) (k : Fo) : labI (.cons c op n k .nil) = (c : Int) :: labI k := by simp [labI, labels]
theorem labI_len (t : Fo) : (labI t).length = sizeF t := by simp [labI, sizeF_labels]
theorem intsV_app (a b : List Int) : intsV (a ++ b) = intsV a ++ intsV b := by simp [intsV]
theorem intsV_len (a : List Int) : (intsV a).length = a.length := by simp [intsV]
/-- What a call of walk leaves. -/
def WlE (zs : List Int) (w : World) (e : Ending) (w' : World) : Prop :=
  ∃ (la : Option Addr) (lc : Nat), e = .returned (.slice la zs.length lc) ∧ w'.ownsRow w.heap.size 3 1 (.slice la zs.length lc) zs.length (intsV zs) ∧ Below w.heap.size w w'
/-- Where a row's numbers lie. -/
theorem row_at {w : World} {B : Nat} {E : TypeId} {n c : Nat} {a : Option Addr} {xs : List Value} (h : w.ownsRow B E 1 (.slice a n c) n xs) (hn : 0 < n) : ∃ g, a = some ⟨g, 0, none⟩ ∧ B ≤ g ∧ g < w.heap.size ∧ ∀ (j : Nat) (u : Value), xs[j]? = some u → w.cell? ((⟨g, 0, none⟩ : Addr).add j) = some u := by
  have hxl := h.1
  obtain ⟨a', c', e, h1, h2, hc⟩ := row_form h
  injection e with e1 _ _
  subst e1
  obtain ⟨u, hu⟩ : ∃ u, xs[0]? = some u := ⟨xs[0], List.getElem?_eq_getElem (by omega)⟩
  obtain ⟨g, hg, hb, hl, -⟩ := hc 0 u hu
  refine ⟨g, hg, hb, hl, fun j v hv => ?_⟩
  obtain ⟨g2, hg2, -, -, h9⟩ := hc j v hv
  rw [hg] at hg2
  injection hg2 with hg2
  injection hg2 with hg2 _
  subst hg2
  have ha : (⟨g, 0, none⟩ : Addr).add j = ⟨g, j, none⟩ := by
    unfold Addr.add
    by_cases hj : j = 0 <;> simp [hj]
  rw [ha]
  exact h9
/-- walk does what it shall, for trees of at most that size. -/
def WlC (m : Nat) : Prop := ∀ (f : Fn) (na : Option Addr) (cap c : Nat) (op n : Int) (k : Fo) (w : World),
  1 + sizeF k ≤ m → RdF f.ns [(c : Int)] (.cons c op n k .nil) → FnAt (· < w.heap.size) w f na cap → 1 + sizeF k ≤ 1000000 →
  Calls Tryz.prog 33 #[fnV f na cap, .int .i64 (c : Nat)] w (WlE (labI (.cons c op n k .nil)) w)
set_option maxRecDepth 100000 in
set_option maxHeartbeats 4000000 in
theorem walk_step (m : Nat) (hC : WlC m) : WlC (m + 1) := by
  intro f na cap c op n k w hm hr hf hz
  obtain ⟨x, l', e0, hx, hxo, hxn, hxk, -⟩ := hr.cons_inv
  have hcl : c < f.ns.length := (List.getElem?_eq_some_iff.1 hx).1
  have hcl2 := hf.le
  have hcm := hf.cap
  unfold maxLen at hcm
  obtain ⟨g, o, la, lc, rfl, hg, q0, q1, q2, hlc, hlm, hki, r1, r2⟩ := hf.ns c x hx
  have HKL := Lib.hid (rdF_cnt hxk)
  have HR := Lib.hid hxk
  have HC := Lib.hid hC
  unfold maxLen at hlm
  obtain ⟨i0, hi0, hz0, hz1, hz2⟩ := info_partsS int_info
  have hb := Blk.new w 46 [.int .i64 f.ps, .slice (some ⟨g, o, none⟩) f.ns.length cap]
  have hw1 := below_new w (.cells #[.int .i64 f.ps, .slice (some ⟨g, o, none⟩) f.ns.length cap] 46)
  have hb2 := hb.alloc (.cells #[.int .i64 (c : Nat)] 3)
  have hw2 : Below w.heap.size w ((w.alloc (.cells #[.int .i64 f.ps, .slice (some ⟨g, o, none⟩) f.ns.length cap] 46)).alloc (.cells #[.int .i64 (c : Nat)] 3)) := hw1.alloc (by simp) _
  have hrw : ((w.alloc (.cells #[.int .i64 f.ps, .slice (some ⟨g, o, none⟩) f.ns.length cap] 46)).alloc (.cells #[.int .i64 (c : Nat)] 3)).ownsRow (w.heap.size + 1) 3 1 (.slice (some ⟨w.heap.size + 1, 0, none⟩) 1 1) 1 [.int .i64 (c : Nat)] := by
    have := World.ownsRow_lit (base := w.heap.size + 1) (e := 3) (size := 1) (w.alloc (.cells #[.int .i64 f.ps, .slice (some ⟨g, o, none⟩) f.ns.length cap] 46)) #[.int .i64 (c : Nat)] 1 (by simp) (by decide) (by rfl)
    rwa [World.size_alloc] at this
  clear hC hxk hxo hxn e0 hr hx
  unfold fnV
  go_enter Tryz.func33, Tryz.ntmps33
  go_upto_region 2 with fail
  generalize (w.alloc (.cells #[.int .i64 f.ps, .slice (some ⟨g, o, none⟩) f.ns.length cap] 46)).alloc (.cells #[.int .i64 (c : Nat)] 3) = w2 at *
  have hwz : w.heap.size < w2.heap.size := hb2.lt
  go_wp2_with fail
  go_loopw [5, 6] (fun sv jv wr => ∃ (j : Nat) (ys : List Int) (la1 : Option Addr) (lc1 : Nat), jv = .int .i64 (j : Nat) ∧ j ≤ x.l.length ∧ ys = (c : Int) :: labI (takeF j k) ∧ sv = .slice la1 ys.length lc1 ∧ wr.ownsRow (w.heap.size + 1) 3 1 (.slice la1 ys.length lc1) ys.length (intsV ys) ∧ Below (w.heap.size + 1) w2 wr) (fun _ jv _ => x.l.length - (intOf jv).toNat)
  case atStart => exact ⟨0, [(c : Int)], _, 1, rfl, Nat.zero_le _, by simp [takeF, labI, labels], rfl, hrw, Below.refl _ _⟩
  case round =>
    clear hrw
    obtain ⟨j, ys, la1, lc1, rfl, hj, hys, rfl, hrow, hbr⟩ := hrel
    have hbw : Below w.heap.size w wr := hw2.trans (hbr.mono (by omega))
    have hszr := hbr.size
    have y2 := (hbw.cell (p := ⟨g, o + c * 3 + 2, none⟩) hg).trans q2
    have hbx := hb2.below hbr (by omega)
    have f0 := hbx.c 0 rfl
    have f1 := hbx.c 1 rfl
    have hnl : ys.length = 1 + sizeF (takeF j k) := by rw [hys, List.length_cons, labI_len]; omega
    have hts := takeF_size k j
    have hyl : ys.length ≤ 1000000 := by omega
    have HYS := Lib.hid hys
    have HNL := Lib.hid hnl
    clear hys hnl
    by_cases hlt : j < x.l.length
    case' neg =>
      have hjd : decide (j < x.l.length) = false := by simp; omega
      have HTK : Hid (takeF j k = k) := takeF_all k j (by have := HKL.out; omega)
      go_wp2_with fail
      go_ret
      rw [labI_one, ← HTK.out, ← HYS.out]
      exact ⟨la1, lc1, rfl, row_le hrow (by omega), hbw⟩
    case' pos =>
      have hjd : decide (j < x.l.length) = true := by simp; omega
      obtain ⟨c2, op2, n2, k2, e1, e2, e3, e5⟩ := rdF_take HR.out j hlt
      obtain ⟨lg, lo, rfl, hlg, l0, -⟩ := hki j _ e1
      have y3 := (hbw.cell (p := ⟨lg, lo + j, none⟩) hlg).trans l0
      have hfr : FnAt (· < wr.drew.heap.size) wr.drew f (some ⟨g, o, none⟩) cap := hf.later (hbw.drew)
      have hX := HC.out f (some ⟨g, o, none⟩) cap c2 op2 n2 k2 wr.drew (by omega) e3 hfr (by omega)
      unfold fnV at hX
      have HYS2 : Hid (ys ++ labI (.cons c2 op2 n2 k2 .nil) = (c : Int) :: labI (takeF (j + 1) k)) := by
        show _ = _
        rw [e2, labI_app, HYS.out, List.cons_append]
      have hzl := labI_len (.cons c2 op2 n2 k2 .nil)
      simp only [sizeF] at hzl
      obtain ⟨zs, hzs⟩ : ∃ zs, labI (.cons c2 op2 n2 k2 .nil) = zs := ⟨_, rfl⟩
      rw [hzs] at hX HYS2 hzl
      have hz1' : 0 < zs.length := by omega
      have hz2' : zs.length ≤ 1000000 := by omega
      clear hzl hzs e1 e2 l0
      go_upto_region 5 with fail
      have hd0 := hbx
      have hrd : wr.drew.ownsRow (w.heap.size + 1) 3 1 (.slice la1 ys.length lc1) ys.length (intsV ys) := row_keep hrow fun q _ hq => rfl
      go_region_law
        (first
          | (refine step_append_lies _ (by rfl) _ _ _ (by rfl) (w.heap.size + 1) 3 i0 _ 1 8 Tryz.underlying57 hi0 hz0 hz1 hz2 rfl (by omega) (.slice la1 ys.length lc1) ys.length (intsV ys) (by rfl) hr9
              ⟨z9, 0, none⟩ zs.length lc9 (intsV zs) (by rfl) (by rw [intsV_len, Nat.mul_one]) hn9 (by intro u hu; simp only [intsV, List.mem_map] at hu; obtain ⟨a, -, rfl⟩ := hu; rfl)
              hz1' (by unfold maxLen; omega) (by omega) (by simp only [World.drew] at hz9; omega) w9.heap.size rfl ?_; intro gg capg w8 hown8 hgrow hat hlt8)
          | (go_simp; go_at_call 33; refine hX.mono ?_
             rintro e w9 ⟨la9, lc9, rfl, hr8, hb9⟩
             have hr9 : w9.ownsRow (w.heap.size + 1) 3 1 (.slice la1 ys.length lc1) ys.length (intsV ys) := row_keep hrd fun q _ hq => hb9.block q hq
             have hz9 := hb9.size
             obtain ⟨z9, rfl, hzb, hzl, hn9⟩ := row_at hr8 hz1'))
      all_goals
        have hbl : Below (w.heap.size + 1) w9 w8 := belowN hgrow (by simp only [World.drew] at hz9; omega) fun g hg => row_base hr9 g hg
        have hb8 : Below (w.heap.size + 1) w2 w8 := ((hbr.trans (Below.refl _ _).drew).trans (hb9.mono (by simp only [World.drew]; omega))).trans hbl
        rw [← intsV_app, ← List.length_append] at hown8
        clear f0 f1 y2 y3 hX hr8 hr9 hrd hgrow hn9 hbl hb9 hd0 hbx
        go_wp2_with fail
        go_roundw
        case' rel => exact ⟨j + 1, ys ++ zs, _, capg, by go_num, by omega, HYS2.out, by rw [List.length_append], hown8, hb8⟩
        case' measure =>
          show x.l.length - ((j : Int) + 1).toNat < x.l.length - ((j : Nat) : Int).toNat
          omega
theorem walk_all : ∀ m, WlC m
  | 0 => fun f na cap c op n k w hm => by omega
  | m + 1 => walk_step m (walk_all m)
end Go.Proofs.YtjendlnicbieoaaGreatDoor
