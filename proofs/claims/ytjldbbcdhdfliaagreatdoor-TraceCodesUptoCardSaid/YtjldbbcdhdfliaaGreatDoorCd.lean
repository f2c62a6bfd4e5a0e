/-
 Walks over the reference of layer 23: event. Printed by gen_cd.py.
-/
import Derived.Test.YtjldbbcdhdfliaaGreatDoorCaCc
import Derived.Test.YtjldbbcdhdfliaaGreatDoorUiUj
import Derived.Test.YtjldbbcdhdfliaaGreatDoorUkCb
import Derived.Test.YtjldbbcdhdfliaaGreatDoorRrC
import Derived.Test.YtjldbbcdhdfliaaGreatDoorVg
namespace Go.Proofs.YtjldbbcdhdfliaaGreatDoor
open Go.RowKit Go.Sort

theorem rtakeE_any (xa : Option Addr) (cap n : Nat) (l : List UInt8) (hn : l.length = n) (hl : n ≤ 1000000) (hlc : n ≤ cap) (w : World) (hL : Lies w xa l) (p' : Int) (p : Nat) (hp' : p' = (p : Nat)) (hp : p ≤ n) (m' : Int) (most : Nat) (hm' : m' = (most : Nat)) (hm : most < 18446744073709551616) :
  Calls Tryz.prog 95 #[.slice xa n cap, .int .i64 p', .int .u64 m'] w (TkEnds w l n p most) := by
 subst hn hp' hm'
 exact rtake_any xa cap l hl hlc w hL p hp most hm
theorem atD_ok {ls v : Nat} {l r : List UInt8} (h : numO 0 0 l = some (v, r)) (hv : v ≤ 9223372036854775807 + ls) : atD ls l = some ((v : Int) - ls, r) := by
 unfold atD atG
 rw [h]
 simp only
 rw [if_pos hv]
theorem atD_no {ls : Nat} {l : List UInt8} (h : ∀ v' r, numO 0 0 l = some (v', r) → 9223372036854775807 + ls < v') : atD ls l = none := by
 unfold atD atG
 cases hn : numO 0 0 l with
 | none => rfl
 | some q =>
  obtain ⟨v, r⟩ := q
  simp only
  rw [if_neg (by have := h v r hn; omega)]
theorem ev_nok {c : UInt8} {L : List UInt8} {step : Int} (h : hasE (c.toNat : Nat) = false) : evD step (c :: L) = none := by
 rw [evD, if_neg (by rw [h]; simp)]
theorem ev_no1 {c : UInt8} {L : List UInt8} {step : Int} {m : Nat} (hm : (m : Int) = 9223372036854775807 - step) (h : ∀ v' r, numO 0 0 L = some (v', r) → m < v') : evD step (c :: L) = none := by
 rw [evD]
 split
 ·cases hn : numO 0 0 L with
  | none =>
   have : atD 0 L = none := by
    unfold atD atG
    rw [hn]
   rw [this]
   rfl
  | some q =>
   obtain ⟨v, r⟩ := q
   have h1 := h v r hn
   unfold atD atG
   rw [hn]
   simp only
   split
   ·unfold evT
    simp only
    rw [if_pos (by omega)]
   ·rfl
 ·rfl
theorem ev_yes1 {c : UInt8} {L L2 : List UInt8} {step : Int} {d : Nat} (hk : hasE (c.toNat : Nat) = true) (h : numO 0 0 L = some (d, L2)) (hd : (d : Int) ≤ 9223372036854775807 - step) (h0 : 0 ≤ step) : evD step (c :: L) = evR (step + d) (c.toNat : Nat) (atD 0 L2) := by
 rw [evD, if_pos hk, atD_ok (ls := 0) h (by omega)]
 unfold evT
 simp only [Int.natCast_zero, Int.sub_zero]
 rw [if_neg (by omega)]
theorem row_step5 (k : Int) (i : Nat) (hi : i < 5) {b : Bool} (hb : decide (i ∈ rowE k) = b) : (rowE k).filter (i ≤ ·) = if b then i :: (rowE k).filter (i + 1 ≤ ·) else (rowE k).filter (i + 1 ≤ ·) := by
 rw [rowI_step k i hi, hb]
theorem rng_wrap (n : Int) : Rng (wrap64 n) := by
 unfold Rng wrap64
 omega
theorem wrap64_id {n : Int} (h1 : -9223372036854775808 ≤ n) (h2 : n ≤ 9223372036854775807) : wrap64 n = n := by
 unfold wrap64
 omega
theorem wrapB {v : Nat} (h : v ≤ 9223372036854775808) : wrap64 (IntKind.u64.wrap ((v : Int) - 1)) = (v : Int) - 1 := by
 rw [IntKind.wrap_u64]
 unfold wrap64
 omega
theorem rng0 : Rng 0 := by
 unfold Rng
 omega
theorem fld_ok {y : Ev} {j v ls : Nat} {F : List Nat} {l l' : List UInt8} {ST : Int} {R : Option (Ev × Int × List UInt8)} (hR : R = evW ST (rowD y (j :: F) l)) (hj : j ≠ 4) (hls : ls = if j = 2 then 1 else 0) (hn : numO 0 0 l = some (v, l')) (hv : v ≤ 9223372036854775807 + ls) : R = evW ST (rowD (setF y j ((v : Int) - ls)) F l') := by
 rw [hR, rowD_cons, fldD_num _ _ _ hj, ← hls, atD_ok hn hv]
 rfl
theorem fld_no {y : Ev} {j ls : Nat} {F : List Nat} {l : List UInt8} {ST : Int} {R : Option (Ev × Int × List UInt8)} (hR : R = evW ST (rowD y (j :: F) l)) (hj : j ≠ 4) (hls : ls = if j = 2 then 1 else 0) (h : ∀ v' r, numO 0 0 l = some (v', r) → 9223372036854775807 + ls < v') : R = none := by
 rw [hR, rowD_cons, fldD_num _ _ _ hj, ← hls, atD_no h]
 rfl
/-- What stands while the fields are read. -/
structure LE (w : World) (xb mb ab : Nat) (k : Nat) (st th : Int) (y : Ev) (W : World) : Prop where
 bb : Below w.heap.size w W
 rs : BE W w.heap.size zeroC
 x : BE W xb #[.int .i64 (k : Nat), .int .i64 st, .int .i64 th, .int .i64 0, .int .i64 0, .int .i64 0, .int .i64 0, .int .i64 0, .int .i64 0, .slice none 0 0]
 m : W.heap[mb]? = some (.cells (nmC (k : Nat)) 85 (0, 0))
 a : W.heap[ab]? = some (.cells #[.int .i64 y.sy, .int .i64 y.br, .int .i64 y.pa, .int .i64 y.n] 87 (0, 0))
 rg : Rng y.sy ∧ Rng y.br ∧ Rng y.pa ∧ Rng y.n
 ey : y.k = (k : Nat) ∧ y.st = st ∧ y.th = th ∧ y.v = zeroT
 o1 : w.heap.size < xb
 o2 : xb < mb
 o3 : mb < ab
section
variable {w W W' : World} {xb mb ab k : Nat} {st th : Int} {y : Ev}
theorem LE.below (h : LE w xb mb ab k st th y W) (hb : Below W.heap.size W W') : LE w xb mb ab k st th y W' := by
 have h1 := h.o1
 have h2 := h.o2
 have h3 := h.o3
 have h4 := lt_of_heap h.a
 exact ⟨h.bb.trans (hb.mono h.bb.size), BE.belowAll h.rs hb, BE.belowAll h.x hb, (hb.block _ (by omega)).trans h.m, (hb.block _ (by omega)).trans h.a, h.rg, h.ey, h1, h2, h3⟩
theorem LE.nm (h : LE w xb mb ab k st th y W) {i : Nat} (hi : i < 5) : W.cell? ⟨mb, i, none⟩ = some (.bool (decide (i ∈ rowE (k : Nat)))) := nm_at h.m hi
theorem LE.set (h : LE w xb mb ab k st th y W) {i : Nat} (hi : i < 4) {n : Int} (hn : Rng n) : LE w xb mb ab k st th (setF y i n) (W.setCell ⟨ab, i, none⟩ (.int .i64 n)) := by
 have h1 := h.o1
 have h2 := h.o2
 have h3 := h.o3
 have hb : Below ab W (W.setCell ⟨ab, i, none⟩ (.int .i64 n)) := (Below.refl ab W).setCell (p := ⟨ab, i, none⟩) (Nat.le_refl _) _
 obtain ⟨r1, r2, r3, r4⟩ := h.rg
 have hbs := h.bb.size
 refine ⟨h.bb.setCell (p := ⟨ab, i, none⟩) (by show w.heap.size ≤ ab; omega) _, (hb.block _ (by omega)).trans h.rs, (hb.block _ (by omega)).trans h.x, (hb.block _ (by omega)).trans h.m, ?_, ?_, ?_, h1, h2, h3⟩
 ·have ha := h.a
  match i, hi with
  | 0, _ | 1, _ | 2, _ | 3, _ => simp [World.setCell, Array.getElem?_modify, ha, setF]
 ·match i, hi with
  | 0, _ => exact ⟨hn, r2, r3, r4⟩
  | 1, _ => exact ⟨r1, hn, r3, r4⟩
  | 2, _ => exact ⟨r1, r2, hn, r4⟩
  | 3, _ => exact ⟨r1, r2, r3, hn⟩
 ·match i, hi with
  | 0, _ | 1, _ | 2, _ | 3, _ => exact h.ey
theorem LE.cell (h : LE w xb mb ab k st th y W) {i : Nat} (hi : i < 4) : ∃ v, W.cell? ⟨ab, i, none⟩ = some v := by
 have ha := h.a
 match i, hi with
 | 0, _ | 1, _ | 2, _ | 3, _ => simp [World.cell?, ha]
theorem LE.fz (h : LE w xb mb ab k st th y W) (i : Nat) : W.frozen? ⟨ab, i, none⟩ = false := by
 have ha := h.a
 simp [World.frozen?, ha]
end
/-- How event ends. -/
def REnds (w : World) (l : List UInt8) (N p : Nat) (step : Int) (e : Ending) (w' : World) : Prop := ∃ (y : Ev) (kk nn : Int) (a : Option Addr) (len cp q : Nat) (ok : Bool), e = .returned (.tuple #[.agg #[.int .i64 y.k, .int .i64 y.st, .int .i64 y.th, .int .i64 y.sy, .int .i64 y.br, .int .i64 y.pa, .int .i64 y.n, .int .i64 kk, .int .i64 nn, .slice a len cp], .int .i64 (q : Nat), .bool ok]) ∧ q ≤ N ∧
 (ok = true → p < q ∧ evD step (l.drop p) = some (y, y.st, l.drop q) ∧ IsE (fun g => w.heap.size ≤ g ∧ g < w'.heap.size) w' y (.agg #[.int .i64 y.k, .int .i64 y.st, .int .i64 y.th, .int .i64 y.sy, .int .i64 y.br, .int .i64 y.pa, .int .i64 y.n, .int .i64 kk, .int .i64 nn, .slice a len cp])) ∧
 (ok = false → evD step (l.drop p) = none) ∧ Below w.heap.size w w'
/-- It ends with one. -/
theorem REnds.yes {w w' : World} {l : List UInt8} {N p q : Nat} {step k st th kk nn : Int} {a : Option Addr} {len cp : Nat} {y : Ev} (hk : y.k = k) (hs : y.st = st) (ht : y.th = th) (hq : q ≤ N) (hp : p < q) (h : evD step (l.drop p) = some (y, st, l.drop q)) (hv : IsV (fun g => w.heap.size ≤ g ∧ g < w'.heap.size) w' y.v (.agg #[.int .i64 kk, .int .i64 nn, .slice a len cp])) (hr : RngE y) (hb : Below w.heap.size w w') :
  REnds w l N p step (.returned (.tuple #[.agg #[.int .i64 k, .int .i64 st, .int .i64 th, .int .i64 y.sy, .int .i64 y.br, .int .i64 y.pa, .int .i64 y.n, .int .i64 kk, .int .i64 nn, .slice a len cp], .int .i64 (q : Nat), .bool true])) w' := by
 subst hk hs ht
 exact ⟨y, kk, nn, a, len, cp, q, true, rfl, hq, fun _ => ⟨hp, h, kk, nn, a, len, cp, rfl, hv, hr⟩, fun h => (by cases h), hb⟩
theorem fld4 {y : Ev} {l : List UInt8} {ST : Int} {R : Option (Ev × Int × List UInt8)} (hR : R = evW ST (rowD y [4] l)) : R = evW ST (fldD y 4 l) := by
 rw [hR, rowD_cons]
 cases h : fldD y 4 l with
 | none => rfl
 | some q =>
  obtain ⟨z, l'⟩ := q
  rfl
theorem fld4_no {y : Ev} {l : List UInt8} {N : Nat} {ST : Int} {R : Option (Ev × Int × List UInt8)} (hR : R = evW ST (rowD y [4] l)) (hN : l.length ≤ N) (h : ∀ v' r, numO 0 0 l = some (v', r) → N < v') : R = none := by
 rw [fld4 hR]
 unfold fldD
 rw [if_pos rfl]
 cases hn : numO 0 0 l with
 | none => rfl
 | some q =>
  obtain ⟨v, r⟩ := q
  have h1 := h v r hn
  have h2 := congrArg List.length (num_iff.1 hn).1
  simp only [List.length_append] at h2
  simp only
  rw [if_neg (by omega)]
  rfl
theorem fld4_yes {y : Ev} {l r : List UInt8} {n : Nat} {ST : Int} {R : Option (Ev × Int × List UInt8)} (hR : R = evW ST (rowD y [4] l)) (hn : numO 0 0 l = some (n, r)) : R = if n ≤ r.length then (match parse ⟨(r.take n).toArray⟩ with
  | .ok t => some ({ y with v := t }, ST, r.drop n)
  | .error _ => none) else none := by
 rw [fld4 hR]
 unfold fldD
 rw [if_pos rfl, hn]
 simp only
 split
 ·cases parse ⟨(r.take n).toArray⟩ <;> rfl
 ·rfl
/-- It ends without an event. -/
theorem REnds.no {w w' : World} {l : List UInt8} {N p q : Nat} {step k st th sy br pa n kk nn : Int} {a : Option Addr} {len cp : Nat} (hq : q ≤ N) (h : evD step (l.drop p) = none) (hb : Below w.heap.size w w') : REnds w l N p step (.returned (.tuple #[.agg #[.int .i64 k, .int .i64 st, .int .i64 th, .int .i64 sy, .int .i64 br, .int .i64 pa, .int .i64 n, .int .i64 kk, .int .i64 nn, .slice a len cp], .int .i64 (q : Nat), .bool false])) w' :=
 ⟨{ k := k, st := st, th := th, sy := sy, br := br, pa := pa, n := n, v := zeroT }, kk, nn, a, len, cp, q, false, rfl, hq, fun h => (by cases h), fun _ => h, hb⟩
theorem REnds.both {w w' : World} {l : List UInt8} {N p q : Nat} {step k st th kk nn : Int} {a : Option Addr} {len cp : Nat} {y : Ev} {ok : Bool} (hk : y.k = k) (hs : y.st = st) (ht : y.th = th) (hq : q ≤ N) (hyes : ok = true → p < q ∧ evD step (l.drop p) = some (y, st, l.drop q) ∧ IsV (fun g => w.heap.size ≤ g ∧ g < w'.heap.size) w' y.v (.agg #[.int .i64 kk, .int .i64 nn, .slice a len cp])) (hno : ok = false → evD step (l.drop p) = none) (hr : RngE y) (hb : Below w.heap.size w w') :
  REnds w l N p step (.returned (.tuple #[.agg #[.int .i64 k, .int .i64 st, .int .i64 th, .int .i64 y.sy, .int .i64 y.br, .int .i64 y.pa, .int .i64 y.n, .int .i64 kk, .int .i64 nn, .slice a len cp], .int .i64 (q : Nat), .bool ok])) w' := by
 cases ok with
 | false => exact REnds.no hq (hno rfl) hb
 | true =>
  obtain ⟨h1, h2, h3⟩ := hyes rfl
  exact REnds.yes hk hs ht hq h1 h2 h3 hr hb
/-- How the reference's Parse of a value ends, in one form. -/
theorem parse_form {w w' : World} {r : Except Nat VT} {e : Ending} (h : ParseEnds w r e w') : ∃ (tv : VT) (kv nw : Int) (av : Option Addr) (lv cv jj : Nat) (er : Int), e = .returned (.tuple #[.agg #[.int .i64 kv, .int .i64 nw, .slice av lv cv], .int .i64 (jj : Nat), .int .i64 er]) ∧ Below w.heap.size w w' ∧
  ((er == 0) = true → r = .ok tv ∧ IsV (fun g => w.heap.size ≤ g ∧ g < w'.heap.size) w' tv (.agg #[.int .i64 kv, .int .i64 nw, .slice av lv cv])) ∧ ((er == 0) = false → ∃ j, r = .error j) := by
 cases r with
 | error j =>
  obtain ⟨rfl, hb⟩ := h
  exact ⟨zeroT, 0, 0, none, 0, 0, j, 50, rfl, hb, fun h => (by cases h), fun _ => ⟨j, rfl⟩⟩
 | ok t =>
  obtain ⟨v, rfl, hv, hb⟩ := h
  obtain ⟨kv, nw, av, lv, cv, rfl⟩ := hv.form
  exact ⟨t, kv, nw, av, lv, cv, 0, 0, rfl, hb, fun _ => ⟨rfl, hv⟩, fun h => (by cases h)⟩
/-- Which way to go. -/
def Way (s : Value) (P Q : Prop) : Prop := ∃ b : Bool, s = .bool b ∧ (b = true → P) ∧ (b = false → Q)
theorem Way.y {P Q : Prop} (h : P) : Way (.bool true) P Q := ⟨true, rfl, fun _ => h, fun h => (by cases h)⟩
theorem Way.n {P Q : Prop} (h : Q) : Way (.bool false) P Q := ⟨false, rfl, fun h => (by cases h), fun _ => h⟩
set_option maxRecDepth 100000 in
set_option maxHeartbeats 16000000 in
theorem rEvD_any (xa : Option Addr) (cap : Nat) (l : List UInt8) (hl : l.length ≤ 1000000) (hlt' : l.length < cap) (w : World) (hL : Lies w xa l) (p : Nat) (hp : p < l.length) (step : Int) (hs0 : 0 ≤ step) (hs1 : step ≤ 9223372036854775807) : Calls Tryz.prog 64 #[.slice xa l.length cap, .int .i64 (p : Nat), .int .i64 step] w (REnds w l l.length p step) := by
 obtain ⟨N, hN⟩ : ∃ N, l.length = N := ⟨_, rfl⟩
 have HN := Lib.hid hN
 have HL : Hid (∀ W, Below w.heap.size w W → Lies W xa l) := fun W hb => hL.below hb
 obtain ⟨g, o, rfl, hg, hC⟩ := hL (fun e => by rw [e] at hp; simp at hp)
 obtain ⟨b, hb⟩ : ∃ b, l[p] = b := ⟨_, rfl⟩
 have hdp : l.drop p = b :: l.drop (p + 1) := by rw [List.drop_eq_getElem_cons hp, hb]
 have HDP := Lib.hid hdp
 have hcb := hC p l[p] (List.getElem?_eq_getElem hp)
 rw [hb] at hcb
 obtain ⟨c, hc⟩ : ∃ c, b.toNat = c := ⟨_, rfl⟩
 have hc8 := u8_lt b
 have HCB := Lib.hid hc
 rw [hc] at hcb hc8
 have b1 := below_alloc w (.cells #[.int .i64 0, .int .i64 0, .int .i64 0, .int .i64 0, .int .i64 0, .int .i64 0, .int .i64 0, .int .i64 0, .int .i64 0, .slice none 0 0] 29)
 have hrs1 : BE (w.alloc (.cells #[.int .i64 0, .int .i64 0, .int .i64 0, .int .i64 0, .int .i64 0, .int .i64 0, .int .i64 0, .int .i64 0, .int .i64 0, .slice none 0 0] 29)) w.heap.size #[.int .i64 0, .int .i64 0, .int .i64 0, .int .i64 0, .int .i64 0, .int .i64 0, .int .i64 0, .int .i64 0, .int .i64 0, .slice none 0 0] := heap_alloc_new _ _
 have hc1 := (b1.cell (p := ⟨g, o + p, none⟩) hg).trans hcb
 rw [hN] at hp hl hlt' ⊢
 have hlc := Nat.le_of_lt hlt'
 clear hL hC hb hdp hc hcb hN
 go_enter Tryz.func64, Tryz.ntmps64
 go_upto_region 1 with fail
 generalize w.alloc (.cells #[.int .i64 0, .int .i64 0, .int .i64 0, .int .i64 0, .int .i64 0, .int .i64 0, .int .i64 0, .int .i64 0, .int .i64 0, .slice none 0 0] 29) = w1 at *
 have b2 := below_alloc w1 (.cells #[.int .i64 (c : Nat), .int .i64 0, .int .i64 0, .int .i64 0, .int .i64 0, .int .i64 0, .int .i64 0, .int .i64 0, .int .i64 0, .slice none 0 0] 29)
 have hx2 : BE (w1.alloc (.cells #[.int .i64 (c : Nat), .int .i64 0, .int .i64 0, .int .i64 0, .int .i64 0, .int .i64 0, .int .i64 0, .int .i64 0, .int .i64 0, .slice none 0 0] 29)) w1.heap.size #[.int .i64 (c : Nat), .int .i64 0, .int .i64 0, .int .i64 0, .int .i64 0, .int .i64 0, .int .i64 0, .int .i64 0, .int .i64 0, .slice none 0 0] := heap_alloc_new _ _
 have hrs2 := BE.belowAll hrs1 b2
 have hb2 := b1.trans (b2.mono b1.size)
 have hwx : w.heap.size < w1.heap.size := BE.lt hrs1
 go_upto_region 4 with fail
 generalize w1.alloc (.cells #[.int .i64 (c : Nat), .int .i64 0, .int .i64 0, .int .i64 0, .int .i64 0, .int .i64 0, .int .i64 0, .int .i64 0, .int .i64 0, .slice none 0 0] 29) = w2 at *
 generalize w1.heap.size = xb at *
 clear b1 b2 hrs1 hc1
 obtain ⟨m1, hm1⟩ : ∃ m1 : Nat, 9223372036854775807 - step = (m1 : Nat) := ⟨(9223372036854775807 - step).toNat, by omega⟩
 go_wp2_with fail
 refine (rtakeE_any (some ⟨g, o, none⟩) cap N l HN.out hl hlc _ (HL.out _ hb2) _ (p + 1) (by first | rfl | omega) (by omega) _ m1 (by first | exact hm1 | rfl) (by omega)).mono ?_
 rintro e w3 ⟨d, q1, ok1, rfl, hd64, hpq1, hq1, hok1, hno1, hb3⟩
 have hrs3 := BE.belowAll hrs2 hb3
 have hx3 := BE.belowAll hx2 hb3
 have hbw3 := hb2.trans (hb3.mono hb2.size)
 have HOK1 := Lib.hid hok1
 have HNO1 := Lib.hid hno1
 clear hok1 hno1 hrs2 hx2 hb2 hb3
 go_upto_region 5 with fail
 go_cut [57] from 48 to 58 (fun s57 wx => Way s57 (evD step (l.drop p) = none) (ok1 = true ∧ 1 ≤ c ∧ c ≤ 9) ∧ w3 = wx)
 case first =>
  cases ok1 with
  | false =>
   have HNO : Hid (evD step (l.drop p) = none) := by
    show _ = _
    rw [HDP.out]
    exact ev_no1 hm1.symm (HNO1.out rfl)
   go_wp2_with fail
   go_meet
   exact ⟨Way.y HNO.out, rfl⟩
  | true =>
   by_cases hlo : c < 1
   ·have HNO : Hid (evD step (l.drop p) = none) := by
     show _ = _
     rw [HDP.out]
     refine ev_nok ?_
     rw [HCB.out]
     unfold hasE
     simp
     omega
    have hd5 : decide ((c : Int) < 1) = true := by simp; omega
    have hd5b : decide (c < 1) = true := by simpa using hlo
    go_wp2_with fail
    go_meet
    exact ⟨Way.y HNO.out, rfl⟩
   ·have hd5 : decide ((c : Int) < 1) = false := by simp; omega
    have hd5b : decide (c < 1) = false := by simpa using hlo
    by_cases hhi : 9 < c
    ·have HNO : Hid (evD step (l.drop p) = none) := by
      show _ = _
      rw [HDP.out]
      refine ev_nok ?_
      rw [HCB.out]
      unfold hasE
      simp
      omega
     have hd6 : decide (9 < (c : Int)) = true := by simp; omega
     have hd6b : decide (9 < c) = true := by simpa using hhi
     go_wp2_with fail
     go_meet
     exact ⟨Way.y HNO.out, rfl⟩
    ·have hd6 : decide (9 < (c : Int)) = false := by simp; omega
     have hd6b : decide (9 < c) = false := by simpa using hhi
     go_wp2_with fail
     go_meet
     exact ⟨Way.n (by first | exact ⟨rfl, by omega, by omega⟩ | exact ⟨trivial, by omega, by omega⟩), rfl⟩
 case rest =>
  obtain ⟨⟨bad, hs57, hbad, hgood⟩, rfl⟩ := hcut
  subst hs57
  cases bad with
  | true =>
   have HNO := Lib.hid (hbad rfl)
   clear hbad hgood
   obtain ⟨x0, x1, x2, x3, x4, x5, x6, x7, x8, x9⟩ := BE.c hx3
   obtain ⟨y0, y1, y2, y3, y4, y5, y6, y7, y8, y9⟩ := BE.c hrs3
   have z0 := BE.fz hrs3 0
   have z1 := BE.fz hrs3 1
   have z2 := BE.fz hrs3 2
   have z3 := BE.fz hrs3 3
   have z4 := BE.fz hrs3 4
   have z5 := BE.fz hrs3 5
   have z6 := BE.fz hrs3 6
   have z7 := BE.fz hrs3 7
   have z8 := BE.fz hrs3 8
   have z9 := BE.fz hrs3 9
   have hout := BE.put hrs3 (.int .i64 (c : Nat)) (.int .i64 0) (.int .i64 0) (.int .i64 0) (.int .i64 0) (.int .i64 0) (.int .i64 0) (.int .i64 0) (.int .i64 0) (.slice none 0 0)
   have hbo := Below.trans hbw3 (put10_below (g := w.heap.size) (Nat.le_refl _) (.int .i64 (c : Nat)) (.int .i64 0) (.int .i64 0) (.int .i64 0) (.int .i64 0) (.int .i64 0) (.int .i64 0) (.int .i64 0) (.int .i64 0) (.slice none 0 0))
   obtain ⟨v0, v1, v2, v3, v4, v5, v6, v7, v8, v9⟩ := BE.c hout
   unfold put10 at v0 v1 v2 v3 v4 v5 v6 v7 v8 v9
   clear  hout
   go_wp2_with fail
   exact bodyPost_ret (v := .tuple #[.agg #[.int .i64 (c : Nat), .int .i64 0, .int .i64 0, .int .i64 0, .int .i64 0, .int .i64 0, .int .i64 0, .int .i64 0, .int .i64 0, .slice none 0 0], .int .i64 (q1 : Nat), .bool false]) (by simp [results, Tryz.results64, go_sem, v0, v1, v2, v3, v4, v5, v6, v7, v8, v9]) rfl (REnds.no hq1 HNO.out hbo)
  | false =>
  obtain ⟨rfl, hlo, hhi⟩ := hgood rfl
  obtain ⟨hn1, hdm, hpq⟩ := HOK1.out rfl
  clear hbad hgood
  have HEV1 : Hid (evD step (l.drop p) = evR (step + d) (c : Nat) (atD 0 (l.drop q1))) := by
   show _ = _
   rw [HDP.out, ← HCB.out]
   refine ev_yes1 ?_ hn1 (by omega) hs0
   rw [HCB.out]
   unfold hasE
   simp
   omega
  clear HOK1 HNO1 hn1
  go_wp2_with fail
  refine (rtakeE_any (some ⟨g, o, none⟩) cap N l HN.out hl hlc _ (HL.out _ hbw3) _ q1 rfl hq1 _ 9223372036854775807 rfl (by omega)).mono ?_
  rintro e w4 ⟨t, q2, ok2, rfl, ht64, hpq2, hq2, hok2, hno2, hb4⟩
  have hrs4 := BE.belowAll hrs3 hb4
  have hx4 := BE.belowAll hx3 hb4
  have hbw4 := hbw3.trans (hb4.mono hbw3.size)
  have HOK2 := Lib.hid hok2
  have HNO2 := Lib.hid hno2
  clear hok2 hno2 hrs3 hx3 hbw3 hb4
  obtain ⟨x0, x1, x2, x3, x4, x5, x6, x7, x8, x9⟩ := BE.c hx4
  have z1 := BE.fz hx4 1
  have z2 := BE.fz hx4 2
  have hsd : step + (d : Int) ≤ 9223372036854775807 := by omega
  go_upto_region 9 with fail
  obtain ⟨TH, hTH⟩ : ∃ TH, wrap64 (t : Int) = TH := ⟨_, rfl⟩
  have hTR : Rng TH := by rw [← hTH]; exact rng_wrap _
  obtain ⟨ST, hST⟩ : ∃ ST, step + (d : Int) = ST := ⟨_, rfl⟩
  have hSR : Rng ST := by rw [← hST]; unfold Rng; omega
  rw [hST] at hsd
  have HEV2 : Hid (ok2 = true → p < q2 ∧ evD step (l.drop p) = evW ST (rowD { k := (c : Nat), st := ST, th := TH, sy := 0, br := 0, pa := 0, n := 0, v := zeroT } ((rowE (c : Nat)).filter (0 ≤ ·)) (l.drop q2))) := by
   intro h
   obtain ⟨h1, h2, h3⟩ := HOK2.out h
   refine ⟨by omega, ?_⟩
   have hTt : (t : Int) - ((0 : Nat) : Int) = TH := by
    rw [← hTH, wrap64_id (by omega) (by omega)]
    simp
   rw [HEV1.out, atD_ok (ls := 0) h1 (by omega), hST, rowI_all, hTt]
   rfl
  have HEN2 : Hid (ok2 = false → evD step (l.drop p) = none) := by
   intro h
   rw [HEV1.out, atD_no (ls := 0) (HNO2.out h)]
   rfl
  rw [hTH, hST]
  have hx5 : BE ((w4.setCell ⟨xb, 1, none⟩ (.int .i64 ST)).setCell ⟨xb, 2, none⟩ (.int .i64 TH)) xb #[.int .i64 (c : Nat), .int .i64 ST, .int .i64 TH, .int .i64 0, .int .i64 0, .int .i64 0, .int .i64 0, .int .i64 0, .int .i64 0, .slice none 0 0] := by
   have h := hx4
   unfold BE at h ⊢
   simp [World.setCell, Array.getElem?_modify, h]
  have hbx : Below xb w4 ((w4.setCell ⟨xb, 1, none⟩ (.int .i64 ST)).setCell ⟨xb, 2, none⟩ (.int .i64 TH)) := ((Below.refl xb w4).setCell (p := ⟨xb, 1, none⟩) (Nat.le_refl _) (.int .i64 ST)).setCell (p := ⟨xb, 2, none⟩) (Nat.le_refl _) (.int .i64 TH)
  have hrs5 := (hbx.block _ hwx).trans hrs4
  have hbw5 := hbw4.trans (hbx.mono (Nat.le_of_lt hwx))
  clear x0 x1 x2 x3 x4 x5 x6 x7 x8 x9 z1 z2 hx4 hrs4 hbw4 hbx hTH HEV1 HOK2 HNO2 hdm hm1 hST
  generalize (w4.setCell ⟨xb, 1, none⟩ (.int .i64 ST)).setCell ⟨xb, 2, none⟩ (.int .i64 TH) = w5 at *
  go_wp2_with fail
  refine (rnames_any (c : Nat) _).mono ?_
  rintro e w8 ⟨rfl, hb8⟩
  have hls0 : LE w xb w8.heap.size (w8.heap.size + 1) c ST TH { k := (c : Nat), st := ST, th := TH, sy := 0, br := 0, pa := 0, n := 0, v := zeroT } ((w8.alloc (.cells (nmC (c : Nat)) 85)).alloc (.cells #[.int .i64 0, .int .i64 0, .int .i64 0, .int .i64 0] 87)) := by
   have e1 := below_alloc w8 (.cells (nmC (c : Nat)) 85)
   have e2 := below_alloc (w8.alloc (.cells (nmC (c : Nat)) 85)) (.cells #[.int .i64 0, .int .i64 0, .int .i64 0, .int .i64 0] 87)
   have e3 := heap_alloc_new w8 (.cells (nmC (c : Nat)) 85)
   have e4 := heap_alloc_new (w8.alloc (.cells (nmC (c : Nat)) 85)) (.cells #[.int .i64 0, .int .i64 0, .int .i64 0, .int .i64 0] 87)
   have e5 : (w8.alloc (.cells (nmC (c : Nat)) 85)).heap.size = w8.heap.size + 1 := by simp
   rw [e5] at e4
   have hx8 := BE.belowAll hx5 hb8
   have hrs8 := BE.belowAll hrs5 hb8
   have hbw8 := hbw5.trans (hb8.mono hbw5.size)
   have hxl := BE.lt hx8
   refine ⟨hbw8.trans ((e1.mono hbw8.size).trans (e2.mono (by have := hbw8.size; simp; omega))), BE.belowAll (BE.belowAll hrs8 e1) e2, BE.belowAll (BE.belowAll hx8 e1) e2, (e2.block _ (lt_of_heap e3)).trans e3, e4, ⟨?_, ?_, ?_, ?_⟩, ⟨rfl, rfl, rfl, rfl⟩, hwx, hxl, by omega⟩ <;> exact rng0
  unfold nmC at hls0
  clear hx5 hrs5 hbw5 hb8
  unfold nmC
  go_wp2_with fail
  have HLS0 := Lib.hid hls0
  clear hls0
  generalize (w8.alloc (.cells #[.bool (decide (0 ∈ rowE (c : Nat))), .bool (decide (1 ∈ rowE (c : Nat))), .bool (decide (2 ∈ rowE (c : Nat))), .bool (decide (3 ∈ rowE (c : Nat))), .bool (decide (4 ∈ rowE (c : Nat)))] 85)).alloc (.cells #[.int .i64 0, .int .i64 0, .int .i64 0, .int .i64 0] 87) = w9 at *
  generalize w8.heap.size + 1 = ab at *
  generalize w8.heap.size = mb at *
  go_loopw [1, 15, 18, 19, 20, 21, 22] (fun at_ gd i _ _ _ _ wr => ∃ (j q : Nat) (bg : Bool) (y : Ev), at_ = .int .i64 (q : Nat) ∧ gd = .bool bg ∧ i = .int .i64 (j : Nat) ∧ j ≤ 4 ∧ q ≤ N ∧ LE w xb mb ab c ST TH y wr ∧ (bg = true → p < q ∧ evD step (l.drop p) = evW ST (rowD y ((rowE (c : Nat)).filter (j ≤ ·)) (l.drop q))) ∧ (bg = false → evD step (l.drop p) = none)) (fun _ _ i _ _ _ _ _ => 4 - (intOf i).toNat)
  case atStart => exact ⟨0, q2, ok2, _, rfl, rfl, rfl, by omega, hq2, HLS0.out, HEV2.out, HEN2.out⟩
  case round =>
   clear HLS0 HEV2 HEN2 hq2 hpq2 ht64
   obtain ⟨j, q, bg, y, rfl, rfl, rfl, hj, hqN, hls, hyes, hnot⟩ := hrel
   have HYES := Lib.hid hyes
   have HNOT := Lib.hid hnot
   clear hyes hnot
   by_cases hlt : j < 4
   ·have hd4 : decide ((j : Int) < 4) = true := by simp; omega
    have hj5 : j < 5 := by omega
    have hj5' : (j : Int) < 5 := by omega
    have hj4 : (j : Int) < 4 := by omega
    have hj4n : j ≠ 4 := by omega
    have hcm := hls.nm hj5
    obtain ⟨bj, hbj⟩ : ∃ b, decide (j ∈ rowE (c : Nat)) = b := ⟨_, rfl⟩
    have HSTEP := Lib.hid (row_step5 (c : Nat) j hj5 hbj)
    rw [hbj] at hcm
    clear hbj
    cases bj with
    | false =>
     have HY2 : Hid (bg = true → p < q ∧ evD step (l.drop p) = evW ST (rowD y ((rowE (c : Nat)).filter (j + 1 ≤ ·)) (l.drop q))) := fun h => by
      obtain ⟨h1, h2⟩ := HYES.out h
      rw [HSTEP.out] at h2
      exact ⟨h1, h2⟩
     clear HYES HSTEP
     go_wp2_with fail
     go_roundw
     case rel => first | exact ⟨j + 1, q, bg, y, rfl, rfl, by go_num, by omega, hqN, hls, HY2.out, HNOT.out⟩ | ((repeat apply Exists.intro); exact ⟨⟨j + 1, q, bg, y, rfl, rfl, by go_num, by omega, hqN, hls, HY2.out, HNOT.out⟩, rfl⟩)
     case measure => simp [intOf]; omega
    | true =>
     cases bg with
     | false =>
      have HN2 := HNOT.out rfl
      clear HYES HSTEP
      go_wp2_with fail
      go_roundw
      case rel => first | exact ⟨j + 1, q, false, y, rfl, rfl, by go_num, by omega, hqN, hls, fun h => (by cases h), fun _ => HN2⟩ | ((repeat apply Exists.intro); exact ⟨⟨j + 1, q, false, y, rfl, rfl, by go_num, by omega, hqN, hls, fun h => (by cases h), fun _ => HN2⟩, rfl⟩)
      case measure => simp [intOf]; omega
     | true =>
      obtain ⟨hpq, hY⟩ := HYES.out rfl
      rw [HSTEP.out, if_pos rfl] at hY
      have HY := Lib.hid hY
      clear HYES HNOT HSTEP hY
      by_cases hj2 : j = 2
      ·subst hj2
       go_wp2_with fail
       refine (rtakeE_any (some ⟨g, o, none⟩) cap N l HN.out hl hlc _ (HL.out _ hls.bb) _ q rfl hqN _ 9223372036854775808 rfl (by omega)).mono ?_
       rintro e w10 ⟨v, q3, ok, rfl, hv64, hqq, hq3, hok, hno, hb10⟩
       have hlsN := hls.below hb10
       obtain ⟨va, hva⟩ := hlsN.cell (i := 2) (by omega)
       have hfz := hlsN.fz 2
       have hlsM := hlsN.set (i := 2) (by omega) (rng_wrap (IntKind.u64.wrap ((v : Int) - 1)))
       have HY3 : Hid (ok = true → p < q3 ∧ evD step (l.drop p) = evW ST (rowD (setF y 2 (wrap64 (IntKind.u64.wrap ((v : Int) - 1)))) ((rowE (c : Nat)).filter (2 + 1 ≤ ·)) (l.drop q3))) := fun h => by
        obtain ⟨f1, f2, f3⟩ := hok h
        refine ⟨by omega, ?_⟩
        have := fld_ok (ls := 1) HY.out (by decide) rfl f1 (by omega)
        rw [wrapB f2]
        exact this
       have HN3 : Hid (ok = false → evD step (l.drop p) = none) := fun h => fld_no (ls := 1) HY.out (by decide) rfl fun v' r hv => by have := hno h v' r hv; omega
       clear hls hb10 hcm hok hno HY
       go_wp2_with fail
       go_roundw
       case rel => first | exact ⟨3, q3, ok, _, rfl, rfl, rfl, by omega, hq3, hlsM, HY3.out, HN3.out⟩ | ((repeat apply Exists.intro); exact ⟨⟨3, q3, ok, _, rfl, rfl, rfl, by omega, hq3, hlsM, HY3.out, HN3.out⟩, rfl⟩)
       case measure => simp [intOf]
      ·have hd2 : ((j : Int) == 2) = false := by rw [beq_eq_false_iff_ne]; omega
       go_wp2_with fail
       refine (rtakeE_any (some ⟨g, o, none⟩) cap N l HN.out hl hlc _ (HL.out _ hls.bb) _ q rfl hqN _ 9223372036854775807 rfl (by omega)).mono ?_
       rintro e w10 ⟨v, q3, ok, rfl, hv64, hqq, hq3, hok, hno, hb10⟩
       have hlsN := hls.below hb10
       obtain ⟨va, hva⟩ := hlsN.cell (i := j) (by omega)
       have hfz := hlsN.fz j
       have hlsM := hlsN.set (i := j) hlt (rng_wrap (v : Int))
       have hl0 : (0 : Nat) = if j = 2 then 1 else 0 := by rw [if_neg hj2]
       have HY3 : Hid (ok = true → p < q3 ∧ evD step (l.drop p) = evW ST (rowD (setF y j (wrap64 (v : Int))) ((rowE (c : Nat)).filter (j + 1 ≤ ·)) (l.drop q3))) := fun h => by
        obtain ⟨f1, f2, f3⟩ := hok h
        refine ⟨by omega, ?_⟩
        have := fld_ok (ls := 0) HY.out hj4n hl0 f1 (by omega)
        rw [wrap64_id (by omega) (by omega)]
        simpa using this
       have HN3 : Hid (ok = false → evD step (l.drop p) = none) := fun h => fld_no (ls := 0) HY.out hj4n hl0 fun v' r hv => by have := hno h v' r hv; omega
       clear hls hb10 hcm hok hno HY hl0
       go_wp2_with fail
       go_roundw
       case rel => first | exact ⟨j + 1, q3, ok, _, rfl, rfl, by go_num, by omega, hq3, hlsM, HY3.out, HN3.out⟩ | ((repeat apply Exists.intro); exact ⟨⟨j + 1, q3, ok, _, rfl, rfl, by go_num, by omega, hq3, hlsM, HY3.out, HN3.out⟩, rfl⟩)
       case measure => simp [intOf]; omega
   ·obtain rfl : j = 4 := by omega
    have hd4 : decide (((4 : Nat) : Int) < 4) = false := by decide
    obtain ⟨l0, l1, l2, l3⟩ : (wr.cell? ⟨ab, 0, none⟩ = some (.int .i64 y.sy) ∧ wr.cell? ⟨ab, 1, none⟩ = some (.int .i64 y.br) ∧ wr.cell? ⟨ab, 2, none⟩ = some (.int .i64 y.pa) ∧ wr.cell? ⟨ab, 3, none⟩ = some (.int .i64 y.n)) := by
     have ha := hls.a
     simp [World.cell?, ha]
    obtain ⟨b4, hb4⟩ : ∃ b, decide (4 ∈ rowE (c : Nat)) = b := ⟨_, rfl⟩
    have HSTEP := Lib.hid (row_step5 (c : Nat) 4 (by omega) hb4)
    obtain ⟨a0, a1, a2, a3, a4, a5, a6, a7, a8, a9⟩ := BE.c hls.x
    have f3 := BE.fz hls.x 3
    have f4 := BE.fz hls.x 4
    have f5 := BE.fz hls.x 5
    have f6 := BE.fz hls.x 6
    have hne : xb ≠ ab := by have := hls.o2; have := hls.o3; omega
    have hne' : ab ≠ xb := fun h => hne h.symm
    have hzr := BE.lt hls.x
    go_upto_region 21 with fail
    go_region
    have hxN : BE (((((wr.setCell ⟨xb, 3, none⟩ (.int .i64 y.sy)).setCell ⟨xb, 4, none⟩ (.int .i64 y.br)).setCell ⟨xb, 5, none⟩ (.int .i64 y.pa)).setCell ⟨xb, 6, none⟩ (.int .i64 y.n)).drew) xb #[.int .i64 (c : Nat), .int .i64 ST, .int .i64 TH, .int .i64 y.sy, .int .i64 y.br, .int .i64 y.pa, .int .i64 y.n, .int .i64 0, .int .i64 0, .slice none 0 0] := by
     have h := hls.x
     unfold BE at h ⊢
     simp [World.setCell, World.drew, Array.getElem?_modify, h]
    have hbx : Below xb wr (((((wr.setCell ⟨xb, 3, none⟩ (.int .i64 y.sy)).setCell ⟨xb, 4, none⟩ (.int .i64 y.br)).setCell ⟨xb, 5, none⟩ (.int .i64 y.pa)).setCell ⟨xb, 6, none⟩ (.int .i64 y.n)).drew) := (((((Below.refl xb wr).setCell (p := ⟨xb, 3, none⟩) (Nat.le_refl _) (.int .i64 y.sy)).setCell (p := ⟨xb, 4, none⟩) (Nat.le_refl _) (.int .i64 y.br)).setCell (p := ⟨xb, 5, none⟩) (Nat.le_refl _) (.int .i64 y.pa)).setCell (p := ⟨xb, 6, none⟩) (Nat.le_refl _) (.int .i64 y.n)).trans ⟨rfl, rfl, rfl, Nat.le_refl _, fun _ _ => rfl⟩
    have hrsN := (hbx.block _ hwx).trans hls.rs
    have hbwN := hls.bb.trans (hbx.mono (Nat.le_of_lt hwx))
    have hcm : (((((wr.setCell ⟨xb, 3, none⟩ (.int .i64 y.sy)).setCell ⟨xb, 4, none⟩ (.int .i64 y.br)).setCell ⟨xb, 5, none⟩ (.int .i64 y.pa)).setCell ⟨xb, 6, none⟩ (.int .i64 y.n)).drew).cell? ⟨mb, 4, none⟩ = some (.bool (decide (4 ∈ rowE (c : Nat)))) := by
     rw [← hls.nm (i := 4) (by omega)]
     have hm := hls.o2
     have hmx : ¬ xb = mb := by omega
     simp [World.cell?, World.setCell, World.drew, Array.getElem?_modify, hmx]
    rw [hb4] at hcm
    obtain ⟨ek, es, et, ev⟩ := hls.ey
    have HRG : Hid (RngE y) := by
     obtain ⟨r1, r2, r3, r4⟩ := hls.rg
     exact ⟨by rw [ek]; unfold Rng; omega, by rw [es]; exact hSR, by rw [et]; exact hTR, r1, r2, r3, r4⟩
    clear hls hbx a0 a1 a2 a3 a4 a5 a6 a7 a8 a9 f3 f4 f5 f6 l0 l1 l2 l3 hne hne' hd4 hlt hj hb4 hzr
    generalize ((((wr.setCell ⟨xb, 3, none⟩ (.int .i64 y.sy)).setCell ⟨xb, 4, none⟩ (.int .i64 y.br)).setCell ⟨xb, 5, none⟩ (.int .i64 y.pa)).setCell ⟨xb, 6, none⟩ (.int .i64 y.n)).drew = wA at *
    have hxbA : xb < wA.heap.size := BE.lt hxN
    go_upto_region 22 with fail
    go_cut [126] from 122 to 127 (fun s126 wx => s126 = .bool (b4 && bg) ∧ wA = wx)
    case first =>
     cases b4 <;> cases bg
     all_goals
      go_wp2_with fail
      go_meet
      exact ⟨rfl, rfl⟩
    case rest =>
    obtain ⟨hs126, rfl⟩ := hcut
    subst hs126
    clear hcm
    obtain ⟨bb, hbb⟩ : ∃ bb, (b4 && bg) = bb := ⟨_, rfl⟩
    rw [hbb]
    cases bb with
    | false =>
     have HY : Hid (bg = true → p < q ∧ evD step (l.drop p) = some ({ y with v := zeroT }, ST, l.drop q)) := by
      intro h
      subst h
      rw [Bool.and_true] at hbb
      subst hbb
      obtain ⟨hpq, hY⟩ := HYES.out rfl
      refine ⟨hpq, ?_⟩
      rw [hY, HSTEP.out, if_neg (by simp), rowI_end, ← ev]
      rfl
     clear HYES HSTEP hbb
     obtain ⟨x0, x1, x2, x3, x4, x5, x6, x7, x8, x9⟩ := BE.c hxN
     obtain ⟨y0, y1, y2, y3, y4, y5, y6, y7, y8, y9⟩ := BE.c hrsN
     have z0 := BE.fz hrsN 0
     have z1 := BE.fz hrsN 1
     have z2 := BE.fz hrsN 2
     have z3 := BE.fz hrsN 3
     have z4 := BE.fz hrsN 4
     have z5 := BE.fz hrsN 5
     have z6 := BE.fz hrsN 6
     have z7 := BE.fz hrsN 7
     have z8 := BE.fz hrsN 8
     have z9 := BE.fz hrsN 9
     have hout := BE.put hrsN (.int .i64 (c : Nat)) (.int .i64 ST) (.int .i64 TH) (.int .i64 y.sy) (.int .i64 y.br) (.int .i64 y.pa) (.int .i64 y.n) (.int .i64 0) (.int .i64 0) (.slice none 0 0)
     have hbo := Below.trans hbwN (put10_below (g := w.heap.size) (Nat.le_refl _) (.int .i64 (c : Nat)) (.int .i64 ST) (.int .i64 TH) (.int .i64 y.sy) (.int .i64 y.br) (.int .i64 y.pa) (.int .i64 y.n) (.int .i64 0) (.int .i64 0) (.slice none 0 0))
     obtain ⟨v0, v1, v2, v3, v4, v5, v6, v7, v8, v9⟩ := BE.c hout
     unfold put10 at v0 v1 v2 v3 v4 v5 v6 v7 v8 v9
     clear  hout
     go_wp2_with fail
     exact bodyPost_ret (v := .tuple #[.agg #[.int .i64 (c : Nat), .int .i64 ST, .int .i64 TH, .int .i64 y.sy, .int .i64 y.br, .int .i64 y.pa, .int .i64 y.n, .int .i64 0, .int .i64 0, .slice none 0 0], .int .i64 (q : Nat), .bool bg]) (by simp [results, Tryz.results64, go_sem, v0, v1, v2, v3, v4, v5, v6, v7, v8, v9]) rfl (REnds.both (y := { y with v := zeroT }) ek es et hqN (fun h => ⟨(HY.out h).1, (HY.out h).2, IsV_zero _ _⟩) HNOT.out ⟨HRG.out.k, HRG.out.st, HRG.out.th, HRG.out.sy, HRG.out.br, HRG.out.pa, HRG.out.n⟩ hbo)
    | true =>
      obtain ⟨rfl, rfl⟩ : b4 = true ∧ bg = true := by simpa using hbb
      obtain ⟨hpq, hY⟩ := HYES.out rfl
      rw [HSTEP.out, if_pos rfl, rowI_end] at hY
      have HY := Lib.hid hY
      clear HYES HNOT hY HSTEP hbb
      go_wp2_with fail
      refine (rtakeE_any (some ⟨g, o, none⟩) cap N l HN.out hl hlc _ (HL.out _ hbwN) _ q rfl hqN _ N rfl (by omega)).mono ?_
      rintro e w10 ⟨nv, q3, ok, rfl, hv64, hqq, hq3, hok, hno, hb10⟩
      have hrs10 := BE.belowAll hrsN hb10
      have hx10 := BE.belowAll hxN hb10
      have hbw10 := hbwN.trans (hb10.mono hbwN.size)
      clear hb10 hrsN hxN hbwN
      go_upto_region 24 with fail
      go_cut [147] from 137 to 148 (fun s147 wx => Way s147 (evD step (l.drop p) = none) (ok = true ∧ nv ≤ N - q3) ∧ w10 = wx)
      case first =>
       cases ok with
       | false =>
        have HN2 : Hid (evD step (l.drop p) = none) := fld4_no HY.out (by rw [List.length_drop, HN.out]; exact Nat.sub_le _ _) (hno rfl)
        clear hok hno
        go_wp2_with fail
        go_meet
        exact ⟨Way.y HN2.out, rfl⟩
       | true =>
        obtain ⟨hn3, hnN, hq33⟩ := hok rfl
        have hR := fld4_yes HY.out hn3
        rw [List.length_drop, HN.out] at hR
        clear hok hno hn3
        by_cases hbig : N - q3 < nv
        ·have HN2 : Hid (evD step (l.drop p) = none) := by
          show _ = _
          rw [hR, if_neg (by omega)]
         have hd7 : decide ((N : Int) - (q3 : Int) < (nv : Int)) = true := by simp; omega
         clear hR
         go_wp2_with fail
         go_meet
         exact ⟨Way.y HN2.out, rfl⟩
        ·have hd7 : decide ((N : Int) - (q3 : Int) < (nv : Int)) = false := by simp; omega
         clear hR
         go_wp2_with fail
         go_meet
         exact ⟨Way.n (by first | exact ⟨rfl, by omega⟩ | exact ⟨trivial, by omega⟩), rfl⟩
      case rest =>
      obtain ⟨⟨bad, hs147, hbad, hgood⟩, rfl⟩ := hcut
      subst hs147
      cases bad with
      | true =>
       have HN2 := Lib.hid (hbad rfl)
       clear hbad hgood hok hno
       obtain ⟨x0, x1, x2, x3, x4, x5, x6, x7, x8, x9⟩ := BE.c hx10
       obtain ⟨y0, y1, y2, y3, y4, y5, y6, y7, y8, y9⟩ := BE.c hrs10
       have z0 := BE.fz hrs10 0
       have z1 := BE.fz hrs10 1
       have z2 := BE.fz hrs10 2
       have z3 := BE.fz hrs10 3
       have z4 := BE.fz hrs10 4
       have z5 := BE.fz hrs10 5
       have z6 := BE.fz hrs10 6
       have z7 := BE.fz hrs10 7
       have z8 := BE.fz hrs10 8
       have z9 := BE.fz hrs10 9
       have hout := BE.put hrs10 (.int .i64 (c : Nat)) (.int .i64 ST) (.int .i64 TH) (.int .i64 y.sy) (.int .i64 y.br) (.int .i64 y.pa) (.int .i64 y.n) (.int .i64 0) (.int .i64 0) (.slice none 0 0)
       have hbo := Below.trans hbw10 (put10_below (g := w.heap.size) (Nat.le_refl _) (.int .i64 (c : Nat)) (.int .i64 ST) (.int .i64 TH) (.int .i64 y.sy) (.int .i64 y.br) (.int .i64 y.pa) (.int .i64 y.n) (.int .i64 0) (.int .i64 0) (.slice none 0 0))
       obtain ⟨v0, v1, v2, v3, v4, v5, v6, v7, v8, v9⟩ := BE.c hout
       unfold put10 at v0 v1 v2 v3 v4 v5 v6 v7 v8 v9
       clear  hout
       go_wp2_with fail
       exact bodyPost_ret (v := .tuple #[.agg #[.int .i64 (c : Nat), .int .i64 ST, .int .i64 TH, .int .i64 y.sy, .int .i64 y.br, .int .i64 y.pa, .int .i64 y.n, .int .i64 0, .int .i64 0, .slice none 0 0], .int .i64 (q : Nat), .bool false]) (by simp [results, Tryz.results64, go_sem, v0, v1, v2, v3, v4, v5, v6, v7, v8, v9]) rfl (REnds.no hqN HN2.out hbo)
      | false =>
       obtain ⟨rfl, hnq⟩ := hgood rfl
       obtain ⟨hn3, hnN, hq33⟩ := hok rfl
       have hR := fld4_yes HY.out hn3
       rw [List.length_drop, HN.out] at hR
       clear hok hno hn3 hbad hgood
       rw [if_pos (by omega)] at hR
       obtain ⟨S, hS⟩ : ∃ S : ByteArray, (⟨((l.drop q3).take nv).toArray⟩ : ByteArray) = S := ⟨_, rfl⟩
       rw [hS] at hR
       have hSl : ((l.drop q3).take nv).length = nv := by
        rw [List.length_take, List.length_drop, HN.out]
        omega
       have hSz : S.size ≤ maxLen := by
        rw [← hS]
        show ((l.drop q3).take nv).length ≤ maxLen
        unfold maxLen
        omega
       have hcv : (convert 55 9 (.slice (some ⟨g, o + q3, none⟩) nv (cap - q3))).run Tryz.prog w10 = .ok (.string S) w10 := by
        obtain ⟨g', o', e1, e2, e3⟩ := HL.out _ hbw10 (fun e => by rw [e] at hSl; simp at hSl; have := HN.out; rw [e] at this; simp at this; omega)
        injection e1 with e1
        injection e1 with e1 e4
        subst e1 e4
        have hC : Cel w10 g (o + q3) ((l.drop q3).take nv) := fun i d hd => by
         have hi := (List.getElem?_eq_some_iff.1 hd).1
         rw [List.getElem?_take, if_pos (by omega), List.getElem?_drop] at hd
         rw [Nat.add_assoc]
         exact e3 _ _ hd
        have := cel_convT (cap := cap - q3) hC
        rw [hSl, hS] at this
        exact this
       have HR := Lib.hid hR
       have hqc : q3 + nv ≤ cap := by omega
       have hqN2 : q3 + nv ≤ N := by omega
       have hpq4 : p < q3 + nv := by omega
       clear hR hS hSl
       have hce : ¬ cap = q3 := by omega
       have hce2 : q3 < cap := by omega
       go_wp2_with fail
       refine (rParse_any S hSz _).mono ?_
       intro e w11 hpe
       obtain ⟨tv, kv, nw, av, lv, cv, jj, er, rfl, hb11, hyv, hnv⟩ := parse_form hpe
       obtain ⟨gd, hgd⟩ : ∃ gd, (er == 0) = gd := ⟨_, rfl⟩
       have HYV : Hid (gd = true → evD step (l.drop p) = some ({ y with v := tv }, ST, l.drop (q3 + nv))) := fun h => by
        have := (hyv (by rw [hgd]; exact h)).1
        rw [HR.out, this]
        simp only
        rw [List.drop_drop]
       have HNV : Hid (gd = false → evD step (l.drop p) = none) := fun h => by
        obtain ⟨j, hj⟩ := hnv (by rw [hgd]; exact h)
        rw [HR.out, hj]
       have hv11 : gd = true → IsV (fun g => w10.heap.size ≤ g ∧ g < w11.heap.size) w11 tv (.agg #[.int .i64 kv, .int .i64 nw, .slice av lv cv]) := fun h => (hyv (by rw [hgd]; exact h)).2
       clear HR hcv hpe hyv hnv HY
       have hb12 := below_alloc w11 (.cells #[.int .i64 kv, .int .i64 nw, .slice av lv cv] 27)
       have hrs12 := BE.belowAll (BE.belowAll hrs10 hb11) hb12
       have hx12 := BE.belowAll (BE.belowAll hx10 hb11) hb12
       have hb11w := hbw10.trans (hb11.mono hbw10.size)
       have hbw12 := hb11w.trans (hb12.mono hb11w.size)
       have hbv := Bx.new w11 27 (.int .i64 kv) (.int .i64 nw) (.slice av lv cv)
       have hv12 : gd = true → IsV (fun g => xb < g ∧ g < (w11.alloc (.cells #[.int .i64 kv, .int .i64 nw, .slice av lv cv] 27)).heap.size) (w11.alloc (.cells #[.int .i64 kv, .int .i64 nw, .slice av lv cv] 27)) tv (.agg #[.int .i64 kv, .int .i64 nw, .slice av lv cv]) := fun h => by
        have hxA := BE.lt hx10
        exact ((hv11 h).keep fun g hg o => World.cell?_of_block (w := w11) (hb12.block g hg.2)).more fun g hg => ⟨by omega, by have := hb12.size; omega⟩
       clear hb11 hb12 hb11w hrs10 hx10 hbw10 hv11
       have c0 := hbv.c0
       have c1 := hbv.c1
       have c2 := hbv.c2
       go_upto_region 27 with fail
       generalize w11.alloc (.cells #[.int .i64 kv, .int .i64 nw, .slice av lv cv] 27) = w12 at *
       generalize w11.heap.size = vb at *
       obtain ⟨a0, a1, a2, a3, a4, a5, a6, a7, a8, a9⟩ := BE.c hx12
       have f7 := BE.fz hx12 7
       have f8 := BE.fz hx12 8
       have f9 := BE.fz hx12 9
       have hx13 : BE (((w12.setCell ⟨xb, 7, none⟩ (.int .i64 kv)).setCell ⟨xb, 8, none⟩ (.int .i64 nw)).setCell ⟨xb, 9, none⟩ (.slice av lv cv)) xb #[.int .i64 (c : Nat), .int .i64 ST, .int .i64 TH, .int .i64 y.sy, .int .i64 y.br, .int .i64 y.pa, .int .i64 y.n, .int .i64 kv, .int .i64 nw, .slice av lv cv] := by
        have h := hx12
        unfold BE at h ⊢
        simp [World.setCell, Array.getElem?_modify, h]
       have hbx : Below xb w12 (((w12.setCell ⟨xb, 7, none⟩ (.int .i64 kv)).setCell ⟨xb, 8, none⟩ (.int .i64 nw)).setCell ⟨xb, 9, none⟩ (.slice av lv cv)) := (((Below.refl xb w12).setCell (p := ⟨xb, 7, none⟩) (Nat.le_refl _) (.int .i64 kv)).setCell (p := ⟨xb, 8, none⟩) (Nat.le_refl _) (.int .i64 nw)).setCell (p := ⟨xb, 9, none⟩) (Nat.le_refl _) (.slice av lv cv)
       have hrs13 := (hbx.block _ hwx).trans hrs12
       have hbw13 := hbw12.trans (hbx.mono (Nat.le_of_lt hwx))
       have hv13 : gd = true → IsV (fun g => xb < g ∧ g < (((w12.setCell ⟨xb, 7, none⟩ (.int .i64 kv)).setCell ⟨xb, 8, none⟩ (.int .i64 nw)).setCell ⟨xb, 9, none⟩ (.slice av lv cv)).heap.size) (((w12.setCell ⟨xb, 7, none⟩ (.int .i64 kv)).setCell ⟨xb, 8, none⟩ (.int .i64 nw)).setCell ⟨xb, 9, none⟩ (.slice av lv cv)) tv (.agg #[.int .i64 kv, .int .i64 nw, .slice av lv cv]) := fun h => by
        refine ((hv12 h).keep fun g hg o => ?_).more fun g hg => ⟨hg.1, by have := hbx.size; omega⟩
        have hgx' : ¬ xb = g := by omega
        simp [World.cell?, World.setCell, Array.getElem?_modify, hgx']
       go_upto_region 28 with fail
       clear a0 a1 a2 a3 a4 a5 a6 a7 a8 a9 f7 f8 f9 c0 c1 c2 hbv hx12 hrs12 hbw12 hbx hv12
       try rw [hgd]
       generalize ((w12.setCell ⟨xb, 7, none⟩ (.int .i64 kv)).setCell ⟨xb, 8, none⟩ (.int .i64 nw)).setCell ⟨xb, 9, none⟩ (.slice av lv cv) = w13 at *
       obtain ⟨x0, x1, x2, x3, x4, x5, x6, x7, x8, x9⟩ := BE.c hx13
       obtain ⟨y0, y1, y2, y3, y4, y5, y6, y7, y8, y9⟩ := BE.c hrs13
       have z0 := BE.fz hrs13 0
       have z1 := BE.fz hrs13 1
       have z2 := BE.fz hrs13 2
       have z3 := BE.fz hrs13 3
       have z4 := BE.fz hrs13 4
       have z5 := BE.fz hrs13 5
       have z6 := BE.fz hrs13 6
       have z7 := BE.fz hrs13 7
       have z8 := BE.fz hrs13 8
       have z9 := BE.fz hrs13 9
       have hout := BE.put hrs13 (.int .i64 (c : Nat)) (.int .i64 ST) (.int .i64 TH) (.int .i64 y.sy) (.int .i64 y.br) (.int .i64 y.pa) (.int .i64 y.n) (.int .i64 kv) (.int .i64 nw) (.slice av lv cv)
       have hbo := Below.trans hbw13 (put10_below (g := w.heap.size) (Nat.le_refl _) (.int .i64 (c : Nat)) (.int .i64 ST) (.int .i64 TH) (.int .i64 y.sy) (.int .i64 y.br) (.int .i64 y.pa) (.int .i64 y.n) (.int .i64 kv) (.int .i64 nw) (.slice av lv cv))
       obtain ⟨v0, v1, v2, v3, v4, v5, v6, v7, v8, v9⟩ := BE.c hout
       unfold put10 at v0 v1 v2 v3 v4 v5 v6 v7 v8 v9
       clear  hout
       go_wp2_with fail
       exact bodyPost_ret (v := .tuple #[.agg #[.int .i64 (c : Nat), .int .i64 ST, .int .i64 TH, .int .i64 y.sy, .int .i64 y.br, .int .i64 y.pa, .int .i64 y.n, .int .i64 kv, .int .i64 nw, .slice av lv cv], .int .i64 ((q3 + nv) : Nat), .bool gd]) (by simp [results, Tryz.results64, go_sem, v0, v1, v2, v3, v4, v5, v6, v7, v8, v9]) rfl (by
        refine REnds.both (y := { y with v := tv }) ek es et hqN2 (fun h => ⟨hpq4, HYV.out h, ?_⟩) HNV.out ⟨HRG.out.k, HRG.out.st, HRG.out.th, HRG.out.sy, HRG.out.br, HRG.out.pa, HRG.out.n⟩ hbo
        refine ((hv13 h).keep fun g hg o => ?_).more fun g hg => ⟨by omega, ?_⟩
        ·have hgx' : ¬ w.heap.size = g := by omega
         simp [World.cell?, World.setCell, Array.getElem?_modify, hgx']
        ·have := hg.2
         simp [World.setCell]
         omega)
end Go.Proofs.YtjldbbcdhdfliaaGreatDoor
