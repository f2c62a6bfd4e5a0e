/-
  Package fun: below, Order and its iterator.
-/
import Derived.Test.YtjendlnicbieoaaGreatDoorOr
namespace Go.Proofs.YtjendlnicbieoaaGreatDoor
open Go.RowKit Go.Sort
attribute [local go_sem] Oper.semAt_some

/-- The nodes of trees, each behind those below it, with their Ops. -/
def postF : Fo → List (Nat × Int)
  | .nil => []
  | .cons c op _ k r => postF k ++ (c, op) :: postF r
theorem postF_app : ∀ (s t : Fo), postF (s.app t) = postF s ++ postF t
  | .nil, t => rfl
  | .cons c op n k r, t => by rw [Fo.app, postF, postF, postF_app r t, List.append_assoc, List.cons_append]
theorem postF_len : ∀ t : Fo, (postF t).length = sizeF t
  | .nil => rfl
  | .cons c op n k r => by simp [postF, sizeF, postF_len k, postF_len r]; omega
def numsF (t : Fo) : List Int := (postF t).map fun x => (x.1 : Int)
theorem numsF_app (s t : Fo) : numsF (s.app t) = numsF s ++ numsF t := by simp [numsF, postF_app]
theorem numsF_one (c : Nat) (op n : Int) (k : Fo) : numsF (.cons c op n k .nil) = numsF k ++ [(c : Int)] := by simp [numsF, postF]
theorem numsF_len (t : Fo) : (numsF t).length = sizeF t := by simp [numsF, postF_len]
/-- What a call of below leaves. -/
def BeE (t : Fo) (lo : Nat) (xs : List Int) (v : Value) (w : World) (e : Ending) (w' : World) : Prop :=
  ∃ (ys : List Int) (la : Option Addr) (lc : Nat), ys = xs ++ numsF t ∧ e = .returned (.slice la ys.length lc) ∧ w'.ownsRow lo 3 1 (.slice la ys.length lc) ys.length (intsV ys) ∧ Fr (fun q => v.ownBlock = some q) w w' ∧ Own2 w v (.slice la ys.length lc)
/-- below does what it shall, for trees of at most that size. -/
def BeC (m : Nat) : Prop := ∀ (f : Fn) (na : Option Addr) (cap c : Nat) (op n : Int) (k : Fo) (V lo : Nat) (xs : List Int) (la : Option Addr) (lc : Nat) (B : Nat) (w : World),
  1 + sizeF k ≤ m → RdF f.ns [(c : Int)] (.cons c op n k .nil) → FnAt (· < B) w f na cap → w.cell? ⟨V, 1, none⟩ = some (.slice na f.ns.length cap) → V < B → B ≤ lo → lo ≤ w.heap.size → xs.length + (1 + sizeF k) ≤ 1000000 →
  w.ownsRow lo 3 1 (.slice la xs.length lc) xs.length (intsV xs) →
  Calls Tryz.prog 41 #[.pointer (some ⟨V, 0, none⟩), .slice la xs.length lc, .int .i64 (c : Nat)] w (BeE (.cons c op n k .nil) lo xs (.slice la xs.length lc) w)
set_option maxRecDepth 100000 in
set_option maxHeartbeats 4000000 in
theorem below_step (m : Nat) (hC : BeC m) : BeC (m + 1) := by
  intro f na cap c op n k V lo xs la0 lc0 B w hm hr hf hV hVB hBl hll hz hrow
  obtain ⟨x, l', e0, hx, hxo, hxn, hxk, -⟩ := hr.cons_inv
  obtain ⟨g, o, la, lc, rfl, hg, q0, q1, q2, hlc, hlm, hki, r1, r2⟩ := hf.ns c x hx
  have hcl : c < f.ns.length := (List.getElem?_eq_some_iff.1 hx).1
  have HKL := Lib.hid (rdF_cnt hxk)
  have HC := Lib.hid hC
  have HR := Lib.hid hxk
  have hcl2 := hf.le
  have hcm := hf.cap
  unfold maxLen at hcm hlm
  clear hC hr hxk hxo hxn e0 hx
  go_enter Tryz.func41, Tryz.ntmps41
  go_wp2_with fail
  go_loopw [1, 8, 19] (fun lv _ jv wr => ∃ (j : Nat) (ys : List Int) (la1 : Option Addr) (lc1 : Nat), jv = .int .i64 (j : Nat) ∧ j ≤ x.l.length ∧ ys = xs ++ numsF (takeF j k) ∧ lv = .slice la1 ys.length lc1 ∧ wr.ownsRow lo 3 1 (.slice la1 ys.length lc1) ys.length (intsV ys) ∧
    Fr (fun q => (Value.slice la0 xs.length lc0).ownBlock = some q) w wr ∧ Own2 w (.slice la0 xs.length lc0) (.slice la1 ys.length lc1)) (fun _ _ jv _ => x.l.length - (intOf jv).toNat)
  case atStart => exact ⟨0, xs, la0, lc0, rfl, Nat.zero_le _, by simp [takeF, numsF, postF], rfl, hrow, Fr.refl _ _, Own2.refl _ _⟩
  case round =>
    obtain ⟨j, ys, la1, lc1, rfl, hj, hys, rfl, hrw, hfr, how⟩ := hrel
    have hbb := row_base hrow
    have hlo : Below B w wr := hfr.toBelow B (fun q hq e => by have := hbb q e; omega) (by omega)
    have hszr := hlo.size
    have hnl : ys.length = xs.length + sizeF (takeF j k) := by rw [hys, List.length_append, numsF_len]
    have hts := takeF_size k j
    have hyl : ys.length ≤ 1000000 := by omega
    have HYS := Lib.hid hys
    have HNL := Lib.hid hnl
    clear hys hnl
    by_cases hlt : j < x.l.length
    case' neg =>
      have hjd : decide ((j : Int) < x.l.length) = false := by simp; omega
      have HTK : Hid (takeF j k = k) := takeF_all k j (by have := HKL.out; omega)
      have hnw := heap_alloc_new wr (.cells #[.int .i64 (c : Int)] 3)
      go_wp2_with (at_builtin; refine wpList_row _ rfl (.tmp 28) (.tmp 30) 57 3 _ 1 8 Tryz.underlying57 int_info rfl (by decide) (by decide) rfl lo (.slice la1 ys.length lc1) ys.length (intsV ys) rfl (hrw.alloc _) wr.heap.size [.int .i64 (c : Int)] rfl hnw rfl (by intro u hu; simp at hu; subst hu; rfl) (by omega) (by simp only [World.size_alloc]; omega) ?_; intro g' cap' w5 hr5 hg5 ha5)
      go_ret
      have hfr5 : Fr (fun q => (Value.slice la1 ys.length lc1).ownBlock = some q) wr w5 := (Fr.alloc _).same (Fr.grown hg5 fun g hg => .inl hg)
      refine ⟨ys ++ [(c : Int)], some ⟨g', 0, none⟩, cap', by rw [HYS.out, HTK.out, numsF_one, List.append_assoc], by simp, by simpa [intsV] using hr5, hfr.trans hfr5 fun q hq e => ?_, ?_⟩
      · rcases how q e with h | h
        · exact h
        · omega
      · intro q hq
        simp only [Value.ownBlock, Option.some.injEq] at hq
        subst hq
        rcases ha5 with h | h
        · exact how _ h
        · rw [World.size_alloc] at h
          exact .inr (by omega)
    case' pos =>
      have hjd : decide ((j : Int) < x.l.length) = true := by simp; omega
      obtain ⟨c2, op2, n2, k2, e1, e2, e3, e4⟩ := rdF_take HR.out j hlt
      obtain ⟨g2, o2, rfl, hg2, s0, -⟩ := hki j _ e1
      have y0 := (hlo.cell (p := ⟨g2, o2 + j, none⟩) hg2).trans s0
      have hVr := (hlo.cell (p := ⟨V, 1, none⟩) hVB).trans hV
      have hCal := HC.out f (some ⟨g, o, none⟩) cap c2 op2 n2 k2 V lo ys la1 lc1 B wr (by omega) e3 (hf.below hlo) hVr hVB hBl (by omega) (by have := HNL.out; omega) hrw
      have HQ : Hid (ys ++ numsF (.cons c2 op2 n2 k2 .nil) = xs ++ numsF (takeF (j + 1) k)) := by
        show _ = _
        rw [e2, numsF_app, ← List.append_assoc, ← HYS.out]
      unfold BeE at hCal
      clear s0 e1 e2 e3 hV
      go_wp2_with (go_at_call 41; refine hCal.mono ?_; rintro e w3 ⟨zs, la3, lc3, hzs, rfl, hrw3, hf3, ho3⟩; have HZS := Lib.hid hzs; clear hzs)
      go_roundw
      case' rel =>
        refine ⟨j + 1, zs, la3, lc3, by go_num, by omega, HZS.out.trans HQ.out, rfl, hrw3, hfr.trans hf3 fun q hq e => ?_, how.trans ho3 hszr⟩
        rcases how q e with h | h
        · exact h
        · omega
      case' measure =>
        show x.l.length - ((j : Int) + 1).toNat < x.l.length - ((j : Nat) : Int).toNat
        omega
/-- below, for trees of whatever size. -/
theorem below_all : ∀ m, BeC m
  | 0 => fun f na cap c op n k V lo xs la lc B w hm => by omega
  | m + 1 => below_step m (below_all m)
theorem postF_at {ns : List Nd} {l : List Int} {t : Fo} (h : RdF ns l t) : ∀ x ∈ postF t, ∃ y, ns[x.1]? = some y ∧ y.op = x.2 := by
  induction h with
  | nil => intro x hx; cases hx
  | @cons c y l k r hx hk hl ih1 ih2 =>
    intro x hm
    rw [postF, List.mem_append, List.mem_cons] at hm
    rcases hm with hm | rfl | hm
    · exact ih1 x hm
    · exact ⟨y, hx, rfl⟩
    · exact ih2 x hm
theorem row_ne_blk {w : World} {B : Nat} {E T : TypeId} {sz n g : Nat} {v : Value} {xs cs : List Value} (h : w.ownsRow B E sz v n xs) (hb : Blk w g T cs) (hT : E ≠ T) : v.ownBlock ≠ some g := by
  intro e
  rcases h.2 with ⟨rfl, -⟩ | ⟨g', c, cu, rfl, -, hg, -⟩
  · cases e
  · have e2 : g' = g := by injection e
    subst e2
    unfold Blk at hb
    rw [hb] at hg
    injection hg with hg
    injection hg with _ h2 _
    exact hT h2.symm
/-- What Order keeps: the nodes' numbers and their Ops. -/
structure IsO (w : World) (lb ob : Nat) (l : List (Nat × Int)) (v u : Value) : Prop where
  lc : Blk w lb 57 [v]
  oc : Blk w ob 47 [u]
  lr : ∃ B, w.ownsRow B 3 1 v l.length (intsV (l.map fun x => (x.1 : Int)))
  or_ : ∃ B, w.ownsRow B 48 1 u l.length (intsV (l.map fun x => x.2))
theorem IsO.belowAll {w w' : World} {lb ob : Nat} {l : List (Nat × Int)} {v u : Value} (h : IsO w lb ob l v u) (hb : Below w.heap.size w w') : IsO w' lb ob l v u := by
  obtain ⟨B1, h1⟩ := h.lr
  obtain ⟨B2, h2⟩ := h.or_
  exact ⟨h.lc.belowAll hb, h.oc.belowAll hb, ⟨B1, row_keep h1 fun g _ hg => hb.block g hg⟩, ⟨B2, row_keep h2 fun g _ hg => hb.block g hg⟩⟩
theorem op_info : (Tryz.prog.info? 48).map (fun i => (i.zero, i.size, i.bytes)) = some (some (.int .i64 0), 1, 8) := by kernel_rfl
set_option maxRecDepth 100000 in
set_option maxHeartbeats 4000000 in
theorem Order_any (f : Fn) (hok : okF f = true) (t : Fo) (ht : RdF f.ns [0] t) (htl : sizeF t ≤ 1000) (na : Option Addr) (cap : Nat) (w : World) (hf : FnAt (· < w.heap.size) w f na cap) :
    Calls Tryz.prog 18 #[fnV f na cap] w fun e w' => ∃ lb ob v u, e = .returned (.func (.func 42) #[] #[.pointer (some ⟨lb, 0, none⟩), .pointer (some ⟨ob, 0, none⟩)]) ∧ w.heap.size ≤ lb ∧ w.heap.size ≤ ob ∧ Below w.heap.size w w' ∧ IsO w' lb ob (postF t) v u := by
  have hw1 : Below w.heap.size w (w.alloc (.cells #[.int .i64 f.ps, .slice na f.ns.length cap] 46)) := below_new _ _
  have hb := Blk.new w 46 [.int .i64 f.ps, .slice na f.ns.length cap]
  have hf1 := hf.later hw1
  have c0 := hb.c 0 rfl
  have c1 := hb.c 1 rfl
  have hL := look_any f na cap _ hf1
  have h200 : f.ns.length ≤ 200 := by
    have hk := hok
    unfold okF at hk
    simp only [Bool.and_eq_true, decide_eq_true_eq] at hk
    exact hk.1.2.2.2
  rw [okF_look] at hok
  obtain ⟨q, hq⟩ : ∃ q, lookP f = .ok q := by
    cases e : lookP f with
    | ok q => exact ⟨q, rfl⟩
    | error i => rw [e] at hok; cases hok
  rw [hq] at hL
  obtain ⟨op, n, k, rfl⟩ : ∃ op n k, t = .cons 0 op n k .nil := by
    cases ht with
    | cons h1 h2 h3 =>
      cases h3 with
      | nil => exact ⟨_, _, _, rfl⟩
  have HT := Lib.hid ht
  obtain ⟨L, hLe⟩ : ∃ L, postF (.cons 0 op n k .nil) = L := ⟨_, rfl⟩
  have hpa := postF_at ht
  rw [hLe] at hpa ⊢
  have HP := Lib.hid hpa
  have HLE := Lib.hid hLe
  clear hpa hLe
  unfold LookE at hL
  dsimp only at hL
  unfold fnV at hL ⊢
  clear hok hq ht
  go_enter Tryz.func18, Tryz.ntmps18
  go_upto_region 4 with (go_at_call 39; refine hL.mono ?_; rintro e w2 ⟨hb2, V, P, D, rfl, hV, hPp, hD, hVw⟩)
  have hw2 := hw1.trans (hb2.mono hw1.size)
  have hbx := hb.belowAll hb2
  have hz2 : w.heap.size < w2.heap.size := hbx.lt
  have hf2 := hf.later hw2
  have hVl := hVw.v.lt
  have hBl : Calls Tryz.prog 41 #[.pointer (some ⟨V, 0, none⟩), .slice none 0 0, .int .i64 0] w2 (BeE (.cons 0 op n k .nil) w2.heap.size [] (.slice none 0 0) w2) :=
    below_all (1 + sizeF k) f na cap 0 op n k V w2.heap.size [] none 0 w2.heap.size w2 (Nat.le_refl _) HT.out hf2 (hVw.v.c 1 rfl) hVl (Nat.le_refl _) (Nat.le_refl _) (by simp only [sizeF] at htl; simp only [List.length_nil]; omega) (row_none _ _ _ _)
  unfold BeE at hBl
  clear hL hf1 c0 c1 hb hw1 hb2
  go_upto_region 5 with (go_at_call 41; refine hBl.mono ?_; rintro e w3 ⟨ys, la, lc, hys, rfl, hrow3, hf3, -⟩; have HYS := Lib.hid hys; clear hys)
  have hb3 : Below w2.heap.size w2 w3 := hf3.toBelow _ (fun q _ e => by cases e) (Nat.le_refl _)
  have hyl : ys.length ≤ 1000 := by
    rw [HYS.out, List.nil_append, numsF_len]
    exact htl
  have hlow : ∀ q, (Value.slice la ys.length lc).ownBlock = some q → q < w3.heap.size := fun q hq => (hrow3.lt q hq).2
  have hl4 := Blk.new w3 57 [.slice la ys.length lc]
  have hb4 := below_new w3 (.cells #[.slice la ys.length lc] 57)
  have hrow4 := hrow3.alloc (.cells #[.slice la ys.length lc] 57)
  have hw4 := hw2.trans ((hb3.trans (hb4.mono hb3.size)).mono hw2.size)
  have hbx4 := (hbx.belowAll hb3).belowAll hb4
  have hlt4 : w3.heap.size < (w3.alloc (.cells #[.slice la ys.length lc] 57)).heap.size := by simp
  have hz3 := hb3.size
  obtain ⟨i0, hi0, hz0, hz1, hz9⟩ := info_partsS op_info
  obtain ⟨w5, hmk, hown5, hg5⟩ := run_make_own (P := Tryz.prog) (w3.alloc (.cells #[.slice la ys.length lc] 57)) (w3.heap.size + 1) 47 48 i0 (.int .i64 0) 1 Tryz.underlying47 hi0 hz0 hz1 .i64 .i64 ys.length (by rw [hz9]; omega) (by unfold maxLen; omega) (by simp)
  rw [World.size_alloc] at hmk hown5
  have hb5 : Below (w3.heap.size + 1) (w3.alloc (.cells #[.slice la ys.length lc] 57)) w5 := belowN hg5 (by simp) (fun g hg => by cases hg)
  have hz5 := hb5.size
  have hlt5 : w3.heap.size + 1 < w5.heap.size := (hown5.lt _ rfl).2
  have hb6 := below_new w5 (.cells #[.slice (some ⟨w3.heap.size + 1, 0, none⟩) 0 ys.length] 47)
  have hob := Blk.new w5 47 [.slice (some ⟨w3.heap.size + 1, 0, none⟩) 0 ys.length]
  have hrow6 := hown5.alloc (.cells #[.slice (some ⟨w3.heap.size + 1, 0, none⟩) 0 ys.length] 47)
  have hb46 := hb5.trans (hb6.mono (show w3.heap.size + 1 ≤ w5.heap.size by omega))
  have l0 := hl4.c 0 rfl
  clear hBl hVw hV hPp hD hf3 hb4 hb3 hrow3 hbx
  go_upto_region 6 with fail
  clear hmk l0 hown5 hg5
  have hz6 : w5.heap.size < (w5.alloc (.cells #[.slice (some ⟨w3.heap.size + 1, 0, none⟩) 0 ys.length] 47)).heap.size := by simp
  generalize w5.alloc (.cells #[.slice (some ⟨w3.heap.size + 1, 0, none⟩) 0 ys.length] 47) = w6 at *
  have hl6 := hl4.below hb46 (by omega)
  have hbx6 := hbx4.below hb46 (by omega)
  have hrow46 := row_keep hrow4 fun q hq hq2 => hb46.block q (by simpa using hq2)
  have hw6 := hw4.trans (hb46.mono (by omega))
  have hysL : ys = L.map fun x => (x.1 : Int) := by
    rw [HYS.out, List.nil_append, ← HLE.out]
    rfl
  have hLl : L.length = ys.length := by rw [hysL, List.length_map]
  have HYL := Lib.hid hysL
  have HLL := Lib.hid hLl
  obtain ⟨a9, c9, e9, -, -, hcell⟩ := row_form hrow46
  injection e9 with e91 _ e93
  subst e91
  subst e93
  have l6 := hl6.c 0 rfl
  clear hysL hLl HYS hrow4 hl4 hbx4 hb46 hw4 hb5 hb6
  go_wp2_with fail
  clear l6
  go_loopw [9, 25] (fun _ jv wr => ∃ (j : Nat) (v : Value), jv = .int .i64 (j : Nat) ∧ j ≤ ys.length ∧ Blk wr w5.heap.size 47 [v] ∧ wr.ownsRow (w3.heap.size + 1) 48 1 v j (intsV ((L.take j).map fun x => x.2)) ∧ Below (w3.heap.size + 1) w6 wr) (fun _ jv _ => ys.length - (intOf jv).toNat)
  case atStart => exact ⟨0, _, rfl, Nat.zero_le _, hob, hrow6, Below.refl _ _⟩
  case round =>
    clear hob hrow6
    obtain ⟨j, v, rfl, hj, hov, hrv, hbr⟩ := hrel
    have hzr := hbr.size
    by_cases hlt : j < ys.length
    case' neg =>
      have hd : decide (j < ys.length) = false := decide_eq_false hlt
      obtain rfl : j = ys.length := by omega
      have hmf : ∀ (fn : Go.Fn) (first cap : Array Value) (w : World), (Instr.makeFunc fn first cap).run Tryz.prog w = .ok (.func fn first cap) w := fun _ _ _ _ => rfl
      have hl9 := hl6.below hbr (by omega)
      have hrow9 := row_keep hrow46 fun q hq _ => hbr.block q (by have := hlow q hq; omega)
      have hO : IsO wr w3.heap.size w5.heap.size L (.slice la ys.length lc) v := ⟨hl9, hov, ⟨_, by rw [HLL.out, ← HYL.out]; exact hrow9⟩, ⟨_, by rw [HLL.out]; rw [List.take_of_length_le (by rw [HLL.out]; exact Nat.le_refl _)] at hrv; exact hrv⟩⟩
      go_wp2_with fail
      go_ret
      exact ⟨_, _, _, _, rfl, by omega, by omega, hw6.trans (hbr.mono (by omega)), hO⟩
    case' pos =>
      have hd : decide (j < ys.length) = true := decide_eq_true hlt
      obtain ⟨x, hx⟩ : ∃ x, L[j]? = some x := ⟨L[j]'(by rw [HLL.out]; exact hlt), List.getElem?_eq_getElem _⟩
      have hyj : (intsV ys)[j]? = some (.int .i64 (x.1 : Nat)) := by
        rw [HYL.out]
        unfold intsV
        simp [hx]
      obtain ⟨g, rfl, hg1, hg2, s0⟩ := hcell j _ hyj
      have hg3 := hlow g rfl
      have e0 := (hbr.cell (p := ⟨g, j, none⟩) (by dsimp only; omega)).trans s0
      obtain ⟨y, hy, hyo⟩ := HP.out x (List.mem_of_getElem? hx)
      have hwr := hw6.trans (hbr.mono (by omega))
      obtain ⟨g1, o1, la1, lc1, rfl, hgn, p0, p1, p2, hl1, hm1, hI1, -, -⟩ := hf.ns.cells hwr hy
      rw [hyo] at p0
      have hxl : x.1 < f.ns.length := (List.getElem?_eq_some_iff.1 hy).1
      have hbxr := hbx6.below hbr (by omega)
      have f1 := hbxr.c 1 rfl
      have o0 := hov.c 0 rfl
      have HX := Lib.hid hx
      clear s0 hyj hy hyo p1 p2 hI1 hx
      go_upto_region 9 with fail
      have hlen : (intsV ((L.take j).map fun x => x.2)).length = j := by
        unfold intsV
        rw [List.length_map, List.length_map, List.length_take, HLL.out]
        omega
      obtain ⟨va, vc, rfl, -⟩ := row_form hrv
      have hvb : ∀ q, (Value.slice va j vc).ownBlock = some q → w3.heap.size + 1 ≤ q ∧ q < wr.heap.size := fun q hq => hrv.lt q hq
      have hne : (Value.slice va j vc).ownBlock ≠ some w5.heap.size := row_ne_blk hrv hov (by decide)
      have holt := hov.lt
      obtain ⟨i0, hi0, hz0, hz1, hz9⟩ := info_partsS op_info
      have hcA : ((wr.alloc (.cells #[.int .i64 x.2] 48)).drew).cell? ⟨w5.heap.size, 0, none⟩ = some (.slice va j vc) := (hov.belowAll (below_new wr (.cells #[.int .i64 x.2] 48)).drew).c 0 rfl
      have hzA : ((wr.alloc (.cells #[.int .i64 x.2] 48)).drew).frozen? ⟨w5.heap.size, 0, none⟩ = false := (hov.belowAll (below_new wr (.cells #[.int .i64 x.2] 48)).drew).fz 0
      go_region_law
        ((refine step_append_lies _ (by rfl) _ _ _ (by rfl) (w3.heap.size + 1) 48 i0 _ 1 8 Tryz.underlying47 hi0 hz0 hz1 hz9 rfl (by omega) (.slice va j vc) j (intsV ((L.take j).map fun x => x.2)) (by rfl) ((hrv.alloc _).drew)
            ⟨wr.heap.size, 0, none⟩ 1 1 [.int .i64 x.2] (by rfl) (by rfl) (World.news_of_block (cs := #[.int .i64 x.2]) (t := 48) (fr := (0, 0)) (heap_alloc_new wr _)) (by simp [Value.oneCell'])
            (by omega) (by unfold maxLen; omega) (by omega) (by simp; omega) (wr.heap.size + 1) (by simp) ?_; intro gg capg w8 hown8 hgrow hat hlt8; have hz8 : w8.frozen? ⟨w5.heap.size, 0, none⟩ = false := (hgrow.frozen_far ⟨w5.heap.size, 0, none⟩ (by simp; omega) (Ne.symm hne)).trans hzA; have hc8 : w8.cell? ⟨w5.heap.size, 0, none⟩ = some (.slice va j vc) := (hgrow.cell_far ⟨w5.heap.size, 0, none⟩ (by simp; omega) (Ne.symm hne)).trans hcA))
      all_goals
        have hf8 : Fr (fun q => (Value.slice va j vc).ownBlock = some q) wr w8 := ((Fr.alloc _).same Fr.drew).same (Fr.grown hgrow fun g hg => .inl hg)
        have ho8 := hov.fr hf8 hne
        have hb8 : Below (w3.heap.size + 1) wr w8 := hf8.toBelow _ (fun q hq e => by have := (hvb q e).1; omega) (by omega)
        have h9 := row_keep hown8 fun q hq _ => Below.heap_setCell w8 ⟨w5.heap.size, 0, none⟩ (.slice (some ⟨gg, 0, none⟩) (j + 1) capg) q (by
          intro e
          subst e
          rcases hat with h | h
          · injection hq with hq
            exact hne (h.trans (congrArg some hq))
          · injection hq with hq
            dsimp only at hq
            omega)
        have hrv' : (w8.setCell ⟨w5.heap.size, 0, none⟩ (.slice (some ⟨gg, 0, none⟩) (j + 1) capg)).ownsRow (w3.heap.size + 1) 48 1 (.slice (some ⟨gg, 0, none⟩) (j + 1) capg) (j + 1) (intsV ((L.take (j + 1)).map fun x => x.2)) := by
          rw [List.take_add_one, HX.out]
          simpa [intsV] using h9
        have hov' := ho8.set 0 (.slice (some ⟨gg, 0, none⟩) (j + 1) capg)
        have hb' := hbr.trans (hb8.setCell (p := ⟨w5.heap.size, 0, none⟩) (by dsimp only; omega) (.slice (some ⟨gg, 0, none⟩) (j + 1) capg))
        clear h9 ho8 hb8 hf8
        go_wp2_with fail
        go_roundw
        case' rel => exact ⟨j + 1, _, by go_num, hlt, hov', hrv', hb'⟩
        case' measure =>
          show ys.length - ((j : Int) + 1).toNat < ys.length - ((j : Nat) : Int).toNat
          omega
/-- What Order's iterator hands over. -/
def encO (x : Nat × Int) : Array Value := #[.int .i64 (x.1 : Nat), .int .i64 x.2]
set_option maxRecDepth 100000 in
set_option maxHeartbeats 4000000 in
theorem order_iter (m : Nat) (l : List (Nat × Int)) (hll : l.length ≤ 1000) (lb ob : Nat) (v u : Value) (w : World) (hC : IsO w lb ob l v u) :
    IterG Tryz.prog m 42 #[.pointer (some ⟨lb, 0, none⟩), .pointer (some ⟨ob, 0, none⟩)] encO (GL l) (SL l) (SpL l) (fun W => Below w.heap.size w W) w := by
  intro y J Jx W hW hJ hJx hJE hY h0
  obtain ⟨B1, hr1⟩ := hC.lr
  obtain ⟨B2, hr2⟩ := hC.or_
  obtain ⟨a1, c1, rfl, -, -, hc1⟩ := row_form hr1
  obtain ⟨a2, c2, rfl, -, -, hc2⟩ := row_form hr2
  have hlc := hC.lc
  have hoc := hC.oc
  have l0 := (hlc.belowAll hW).c 0 rfl
  have hlz := hlc.lt
  have hoz := hoc.lt
  have H1 : Hid (∀ (j : Nat) (x : Nat × Int), l[j]? = some x → ∃ g, a1 = some ⟨g, 0, none⟩ ∧ g < w.heap.size ∧ w.cell? ⟨g, j, none⟩ = some (.int .i64 (x.1 : Nat))) := by
    intro j x hx
    obtain ⟨g, e1, e2, e3, e4⟩ := hc1 j (.int .i64 (x.1 : Nat)) (by simp [intsV, hx])
    exact ⟨g, e1, e3, e4⟩
  have H2 : Hid (∀ (j : Nat) (x : Nat × Int), l[j]? = some x → ∃ g, a2 = some ⟨g, 0, none⟩ ∧ g < w.heap.size ∧ w.cell? ⟨g, j, none⟩ = some (.int .i64 x.2)) := by
    intro j x hx
    obtain ⟨g, e1, e2, e3, e4⟩ := hc2 j (.int .i64 x.2) (by simp [intsV, hx])
    exact ⟨g, e1, e3, e4⟩
  have HJ := Lib.hid hJ
  have HJX := Lib.hid hJx
  have HJE := Lib.hid hJE
  have HY := Lib.hid hY
  clear hJ hJx hJE hY hr1 hr2 hc1 hc2 hC
  refine callsIn_of_wp Tryz.func42 rfl trivial ?_ rfl
  simp only [Tryz.ntmps42, List.size_toArray, List.length_cons, List.length_nil, Nat.reduceAdd, Nat.reduceSub, Array.replicate_succ, Array.replicate_zero, List.push_toArray, List.append_toArray, List.nil_append, List.cons_append]
  gi_wp2
  clear l0
  gi_loopw [4, 5, 8] (fun _ _ i wr => ∃ (k : Nat) (pre : List (Nat × Int)), i = .int .i64 (k : Nat) ∧ k ≤ l.length ∧ pre = l.take k ∧ J pre wr) (fun _ _ i _ => l.length - (intOf i).toNat)
  case atStart => exact ⟨0, [], rfl, Nat.zero_le _, rfl, h0⟩
  case round =>
    clear h0 hW
    obtain ⟨k, pre, rfl, hk, hpre, hj⟩ := hrel
    have HPRE := Lib.hid hpre
    clear hpre
    by_cases hlt : k < l.length
    · obtain ⟨x, hx⟩ : ∃ x, l[k]? = some x := ⟨l[k], List.getElem?_eq_getElem hlt⟩
      obtain ⟨g, rfl, hg, q0⟩ := H1.out k x hx
      obtain ⟨g', rfl, hg', q1⟩ := H2.out k x hx
      have hbw := HJE.out pre wr hj
      have e0 : wr.cell? ⟨g, k, none⟩ = some (.int .i64 (x.1 : Nat)) := (hbw.cell (p := ⟨g, k, none⟩) hg).trans q0
      have e1 : wr.cell? ⟨g', k, none⟩ = some (.int .i64 x.2) := (hbw.cell (p := ⟨g', k, none⟩) hg').trans q1
      have o0 := (hoc.belowAll hbw).c 0 rfl
      have hd1 : decide (k < l.length) = true := by simpa using hlt
      have hms := sub_lt hlt
      obtain ⟨fn, tmps, assign, body, hy, hR⟩ := HY.out pre x _ hj ⟨_, gl_of HPRE.out hx⟩
      have HS := Lib.hid (take_snoc HPRE.out hx)
      have HX := Lib.hid hx
      dsimp only [encO] at hy
      clear q0 q1 hx hj hbw
      gi_wp2
      refine ⟨wide_d _, hR.mono ?_⟩
      rintro e w5 (⟨rfl, hj5⟩ | ⟨rfl, hj5⟩)
      · gi_wp2
        go_roundw
        case rel => exact ⟨k + 1, pre ++ [x], by go_num, hlt, HS.out, hj5⟩
        case measure => exact meas_lt hms
      · gi_wp2
        refine bodyPost_ret (results_none rfl _ _ _) rfl ?_
        exact ⟨⟨_, rfl⟩, .inr ⟨_, ⟨l.drop (k + 1), by rw [HS.out, List.take_append_drop]⟩, hj5⟩⟩
    · have hd1 : decide (k < l.length) = false := by simpa using hlt
      obtain rfl : k = l.length := by omega
      have HP2 := Lib.hid (HPRE.out.trans (List.take_length ..))
      gi_wp2
      go_end0
      exact ⟨⟨_, rfl⟩, .inl ⟨pre, HP2.out, hj⟩⟩
end Go.Proofs.YtjendlnicbieoaaGreatDoor
