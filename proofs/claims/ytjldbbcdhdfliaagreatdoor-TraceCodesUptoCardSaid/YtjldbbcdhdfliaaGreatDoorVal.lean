
/-
 Values of the client language as trees, and what it means that a Go value reads as one. Plain definitions, no walk.
-/
import Derived.Test.YtjldbbcdhdfliaaGreatDoorRows
import Derived.WalkKit
import Derived.WalkSpells
import Derived.WalkLawsBesides
import Derived.BigQuiet
import Derived.Lib.Hide
import Derived.BigGuardPart
import Derived.StillTailTactics
namespace Go.Proofs.YtjldbbcdhdfliaaGreatDoor
open Go.RowKit

inductive VT where
 | mk (k n : Int) (l : List VT)

def Rng (n : Int) : Prop := -9223372036854775808 ≤ n ∧ n ≤ 9223372036854775807

mutual
def IsV (ok : Nat → Prop) (w : World) : VT → Value → Prop
 | .mk k n l, v => ∃ (a : Option Addr) (cap : Nat), v = .agg #[.int .i64 k, .int .i64 n, .slice a l.length cap] ∧ Rng k ∧ Rng n ∧ l.length ≤ cap ∧ cap ≤ maxLen ∧ IsR ok w l a 0
def IsR (ok : Nat → Prop) (w : World) : List VT → Option Addr → Nat → Prop
 | [], _, _ => True
 | t :: r, a, i => (∃ (g o : Nat) (v0 v1 v2 : Value), a = some ⟨g, o, none⟩ ∧ ok g ∧ w.cell? ⟨g, o + i * 3, none⟩ = some v0 ∧ w.cell? ⟨g, o + i * 3 + 1, none⟩ = some v1 ∧ w.cell? ⟨g, o + i * 3 + 2, none⟩ = some v2 ∧ IsV ok w t (.agg #[v0, v1, v2])) ∧ IsR ok w r a (i + 1)
end

mutual
theorem IsV.keep {ok : Nat → Prop} {w w' : World} (h : ∀ g, ok g → ∀ o, w'.cell? ⟨g, o, none⟩ = w.cell? ⟨g, o, none⟩) : ∀ {t : VT} {v : Value}, IsV ok w t v → IsV ok w' t v
 | .mk k n l, v, hv => by
  rw [IsV] at hv ⊢
  obtain ⟨a, cap, hv, h1, h2, h3, h4, h5⟩ := hv
  exact ⟨a, cap, hv, h1, h2, h3, h4, IsR.keep h h5⟩
theorem IsR.keep {ok : Nat → Prop} {w w' : World} (h : ∀ g, ok g → ∀ o, w'.cell? ⟨g, o, none⟩ = w.cell? ⟨g, o, none⟩) : ∀ {l : List VT} {a : Option Addr} {i : Nat}, IsR ok w l a i → IsR ok w' l a i
 | [], _, _, _ => by rw [IsR]; trivial
 | t :: r, a, i, hv => by
  rw [IsR] at hv ⊢
  obtain ⟨⟨g, o, v0, v1, v2, h1, h2, h3, h4, h5, h6⟩, h7⟩ := hv
  exact ⟨⟨g, o, v0, v1, v2, h1, h2, (h g h2 _).trans h3, (h g h2 _).trans h4, (h g h2 _).trans h5, IsV.keep h h6⟩, IsR.keep h h7⟩
end
mutual
theorem IsV.more {ok ok' : Nat → Prop} {w : World} (h : ∀ g, ok g → ok' g) : ∀ {t : VT} {v : Value}, IsV ok w t v → IsV ok' w t v
 | .mk k n l, v, hv => by
  rw [IsV] at hv ⊢
  obtain ⟨a, cap, hv, h1, h2, h3, h4, h5⟩ := hv
  exact ⟨a, cap, hv, h1, h2, h3, h4, IsR.more h h5⟩
theorem IsR.more {ok ok' : Nat → Prop} {w : World} (h : ∀ g, ok g → ok' g) : ∀ {l : List VT} {a : Option Addr} {i : Nat}, IsR ok w l a i → IsR ok' w l a i
 | [], _, _, _ => by rw [IsR]; trivial
 | t :: r, a, i, hv => by
  rw [IsR] at hv ⊢
  obtain ⟨⟨g, o, v0, v1, v2, h1, h2, h3, h4, h5, h6⟩, h7⟩ := hv
  exact ⟨⟨g, o, v0, v1, v2, h1, h _ h2, h3, h4, h5, IsV.more h h6⟩, IsR.more h h7⟩
end

theorem IsR.drop {ok : Nat → Prop} {w : World} : ∀ {l : List VT} {a : Option Addr} {i : Nat} (j : Nat), IsR ok w l a i → IsR ok w (l.drop j) a (i + j)
 | [], _, _, j, _ => by simp [IsR]
 | _ :: _, _, _, 0, h => h
 | t :: r, a, i, j + 1, h => by
  rw [IsR] at h
  have := IsR.drop j h.2
  rw [List.drop_succ_cons]
  rwa [show i + (j + 1) = i + 1 + j from by omega]
/-- The element number j of a row. -/
theorem IsR.at_ {ok : Nat → Prop} {w : World} {l : List VT} {a : Option Addr} (h : IsR ok w l a 0) {j : Nat} (hj : j < l.length) :
  ∃ (kk nn : Int) (ll : List VT) (g o : Nat) (a' : Option Addr) (cap' : Nat), l[j] = .mk kk nn ll ∧ a = some ⟨g, o, none⟩ ∧ ok g ∧ w.cell? ⟨g, o + j * 3, none⟩ = some (.int .i64 kk) ∧ w.cell? ⟨g, o + j * 3 + 1, none⟩ = some (.int .i64 nn) ∧ w.cell? ⟨g, o + j * 3 + 2, none⟩ = some (.slice a' ll.length cap') ∧
   IsV ok w (.mk kk nn ll) (.agg #[.int .i64 kk, .int .i64 nn, .slice a' ll.length cap']) := by
 have h2 := IsR.drop j h
 rw [List.drop_eq_getElem_cons hj, IsR, Nat.zero_add] at h2
 obtain ⟨⟨g, o, v0, v1, v2, h1, h2, h3, h4, h5, h6⟩, _⟩ := h2
 generalize hlj : l[j] = t at h6
 obtain ⟨kk, nn, ll⟩ := t
 have h7 := h6
 rw [IsV] at h7
 obtain ⟨a', cap', hv, _⟩ := h7
 simp only [Value.agg.injEq, Array.mk.injEq, List.cons.injEq, and_true] at hv
 obtain ⟨rfl, rfl, rfl⟩ := hv
 exact ⟨kk, nn, ll, g, o, a', cap', rfl, h1, h2, h3, h4, h5, h6⟩
/-- Values whose blocks lie below a mark stay, where nothing below it turns. -/
theorem IsV.below {B : Nat} {w w' : World} {t : VT} {v : Value} (h : IsV (· < B) w t v) (hb : Below B w w') : IsV (· < B) w' t v :=
 h.keep fun g hg o => hb.cell (p := ⟨g, o, none⟩) hg
theorem IsR.below {B : Nat} {w w' : World} {l : List VT} {a : Option Addr} {i : Nat} (h : IsR (· < B) w l a i) (hb : Below B w w') : IsR (· < B) w' l a i :=
 h.keep fun g hg o => hb.cell (p := ⟨g, o, none⟩) hg
theorem IsV.lift {B B' : Nat} {w : World} {t : VT} {v : Value} (h : IsV (· < B) w t v) (hB : B ≤ B') : IsV (· < B') w t v := h.more fun _ hg => Nat.lt_of_lt_of_le hg hB
theorem sz_lt {l : List VT} {t : VT} {k n : Int} {m : Nat} (h : t ∈ l) (hk : SizeOf.sizeOf (VT.mk k n l) ≤ m + 1) : SizeOf.sizeOf t ≤ m := by
 have := List.sizeOf_lt_of_mem h
 simp at hk
 omega
end Go.Proofs.YtjldbbcdhdfliaaGreatDoor
/-
 Walks over package val: count.
-/
namespace Go.Proofs.YtjldbbcdhdfliaaGreatDoor
open Go.RowKit

mutual
def cnt : VT → Nat → Nat
 | .mk _ _ l, n => cntL l (n + 1)
def cntL : List VT → Nat → Nat
 | [], n => n
 | t :: r, n => if 256 < n then n else cntL r (cnt t n)
end

mutual
theorem cnt_le : ∀ (t : VT) (n : Nat), n ≤ 256 → cnt t n ≤ 257
 | .mk _ _ l, n, h => by rw [cnt]; exact cntL_le l (n + 1) (by omega)
theorem cntL_le : ∀ (l : List VT) (n : Nat), n ≤ 257 → cntL l n ≤ 257
 | [], n, h => by rw [cntL]; exact h
 | t :: r, n, h => by
  rw [cntL]
  split
  ·exact h
  ·exact cntL_le r _ (cnt_le t n (by omega))
end

theorem ret_int {k : IntKind} {a b : Int} (h : a = b) : Ending.returned (.int k a) = .returned (.int k b) := by rw [h]
theorem ret_bool {a b : Bool} (h : a = b) : Ending.returned (.bool a) = .returned (.bool b) := by rw [h]
theorem bcell {W w1 : World} (hb : Below W.heap.size W w1) : (∀ b o, b < W.heap.size → w1.cell? ⟨b, o, none⟩ = W.cell? ⟨b, o, none⟩) ∧ (∀ b o, b < W.heap.size → w1.frozen? ⟨b, o, none⟩ = W.frozen? ⟨b, o, none⟩) :=
 ⟨fun b o h => hb.cell (p := ⟨b, o, none⟩) h, fun b o h => hb.frozen (p := ⟨b, o, none⟩) h⟩

set_option maxHeartbeats 1000000 in
theorem count_any (k : Nat) : ∀ (t : VT) (v : Value) (n : Nat) (w : World), SizeOf.sizeOf t ≤ k → n ≤ 256 → IsV (· < w.heap.size) w t v →
  Calls Tryz.prog 121 #[v, .int .i64 n] w fun e w' => e = .returned (.int .i64 (cnt t n : Nat)) ∧ Below w.heap.size w w' := by
 induction k with
 | zero => intro t; cases t; simp
 | succ k ih =>
  intro t v n w hk hn hv
  obtain ⟨kd, nn, l⟩ := t
  rw [IsV] at hv
  obtain ⟨a, cap, rfl, hkr, hnr, hl, hcap, hrow⟩ := hv
  unfold maxLen at hcap
  go_enter Tryz.func121, Tryz.ntmps121
  go_wp2
  go_loopw [1, 12] (fun m i wr => ∃ (j m' : Nat), j ≤ l.length ∧ i = .int .i64 j ∧ m = .int .i64 m' ∧ m' ≤ 257 ∧ cntL l (n + 1) = cntL (l.drop j) m' ∧ Below w.heap.size w wr ∧ w.heap.size + 1 ≤ wr.heap.size) (fun _ i _ => l.length - (intOf i).toNat)
  case atStart => exact ⟨0, n + 1, by omega, rfl, by go_num, by omega, rfl, (Below.refl _ _).alloc (Nat.le_refl _) _, by simp⟩
  case round =>
   obtain ⟨j, m', hj, rfl, rfl, hm, hc, hb⟩ := hrel
   have HC := Lib.hid hc
   clear hc
   have hsz : w.heap.size + 1 ≤ wr.heap.size := hb.2
   have hb := hb.1
   by_cases hlt : j < l.length
   ·obtain ⟨kk, n2, ll, g, o, a', cap', hlj, rfl, hg, c0, c1, c2, ht⟩ := hrow.at_ hlt
    have d0 := (hb.cell (p := ⟨g, o + j * 3, none⟩) hg).trans c0
    have d1 := (hb.cell (p := ⟨g, o + j * 3 + 1, none⟩) hg).trans c1
    have d2 := (hb.cell (p := ⟨g, o + j * 3 + 2, none⟩) hg).trans c2
    clear c0 c1 c2
    have HL := Lib.hid hlj
    clear hlj
    by_cases hm2 : 256 < m'
    ·go_wp2_with fail
     go_ret
     refine ⟨ret_int ?_, (hb.alloc (by omega) _)⟩
     rw [cnt, HC.out, List.drop_eq_getElem_cons hlt, cntL, if_pos hm2]
    ·go_wp2_with fail
     refine (ih (.mk kk n2 ll) _ m' _ (sz_lt (HL.out ▸ List.getElem_mem hlt) hk) (by omega) ?_).mono ?_
     ·exact (ht.below (hb.alloc (by omega) _)).lift (by simp; omega)
     rintro e w1 ⟨rfl, hb1⟩
     go_wp2_with fail
     go_roundw
     case rel =>
      refine ⟨j + 1, _, by omega, by go_num, rfl, cnt_le _ _ (by omega), ?_, ?_, ?_⟩
      ·rw [HC.out, List.drop_eq_getElem_cons hlt, cntL, if_neg hm2, HL.out]
      ·exact (hb.alloc (by omega) _).trans (hb1.mono (by simp; omega))
      ·have := hb1.size; simp at this; omega
     case measure => simp [intOf]; omega
   ·go_wp2_with fail
    go_ret
    obtain rfl : j = l.length := by omega
    refine ⟨ret_int ?_, hb⟩
    rw [cnt, HC.out, List.drop_length, cntL]
end Go.Proofs.YtjldbbcdhdfliaaGreatDoor
/-
 Walks over package val: small, Size, event, shaped, shapes, valid, Check, equal, Same, Int.
-/
namespace Go.Proofs.YtjldbbcdhdfliaaGreatDoor
open Go.RowKit

def small (t : VT) : Bool := decide (cnt t 0 ≤ 256)
def isEv (k : Int) : Bool := decide (5 ≤ k) && decide (k ≤ 13)
def VT.kd : VT → Int | .mk k _ _ => k
def fstKd (l : List VT) : Int := match l with | t :: _ => t.kd | [] => 0
/-- One part's shape, by its numbers: len: how many values; fk: the first one's Kind; ev: are all events? -/
def shpN (k n : Int) (len : Nat) (fk : Int) (ev : Bool) : Bool :=
 if k = 1 ∨ k = 8 then decide (n = 0) && decide (len = 0)
 else if k = 2 then decide (len = 0)
 else if k = 3 then decide (n = 0) && decide (len = 2)
 else if k = 4 ∨ k = 13 then decide (0 ≤ n) && decide (len = 0)
 else if k = 5 then decide (n = 0) && decide (len = 2) && decide (fk = 4)
 else if k = 6 then decide (n = 0) && decide (len = 1) && decide (fk = 4)
 else if k = 7 then decide (n = 0) && decide (len = 1)
 else if k = 9 then ev && decide (n = 0) && decide (len ≤ 16)
 else if k = 10 then decide (0 ≤ n) && decide (n ≤ 63) && decide (1 ≤ len) && decide (len ≤ 9) && isEv fk
 else if k = 11 ∨ k = 12 then decide (0 ≤ n) && decide (n ≤ 63) && decide (len ≤ 8)
 else false
def shp (k n : Int) (l : List VT) : Bool := shpN k n l.length (fstKd l) (l.all fun t => isEv t.kd)
mutual
def shps : VT → Bool
 | .mk k n l => shp k n l && shpsL l
def shpsL : List VT → Bool
 | [] => true
 | t :: r => shps t && shpsL r
end
def right (t : VT) : Bool := small t && shps t

mutual
def eqT : VT → VT → Bool
 | .mk k n l, .mk k' n' l' => decide (k = k') && decide (n = n') && decide (l.length = l'.length) && eqL l l'
def eqL : List VT → List VT → Bool
 | t :: r, t' :: r' => eqT t t' && eqL r r'
 | [], _ => true
 | _ :: _, [] => true
end

set_option maxHeartbeats 400000 in
theorem small_any (t : VT) (v : Value) (w : World) (hv : IsV (· < w.heap.size) w t v) :
  Calls Tryz.prog 96 #[v] w fun e w' => e = .returned (.bool (small t)) ∧ Below w.heap.size w w' := by
 obtain ⟨kd, nn, l⟩ := t
 have hv' := hv
 rw [IsV] at hv
 obtain ⟨a, cap, rfl, -⟩ := hv
 go_enter Tryz.func96, Tryz.ntmps96
 go_wp2_with fail
 refine (count_any _ _ _ 0 _ (Nat.le_refl _) (by omega) ((hv'.below ((Below.refl _ _).alloc (Nat.le_refl _) _)).lift (by simp))).mono ?_
 rintro e w1 ⟨rfl, hb1⟩
 go_wp2_with fail
 go_ret
 refine ⟨ret_bool ?_, ((Below.refl _ _).alloc (Nat.le_refl _) _).trans (hb1.mono (by simp))⟩
 unfold small
 rw [decide_eq_decide]
 omega

set_option maxHeartbeats 400000 in
theorem vevent_any (k : Int) (w : World) (f : Nat) (hf : f = 186 ∨ f = 158) :
  Calls Tryz.prog f #[.int .i64 k] w fun e w' => e = .returned (.bool (isEv k)) ∧ w = w' := by
 rcases hf with rfl | rfl
 ·by_cases h5 : 5 ≤ k
  ·go_enter Tryz.func186, Tryz.ntmps186
   go_wp2_with fail
   go_ret
   exact ⟨ret_bool (by simp [isEv, h5]), rfl⟩
  ·go_enter Tryz.func186, Tryz.ntmps186
   go_wp2_with fail
   go_ret
   exact ⟨ret_bool (by simp [isEv]; omega), rfl⟩
 ·by_cases h5 : 5 ≤ k
  ·go_enter Tryz.func158, Tryz.ntmps158
   go_wp2_with fail
   go_ret
   exact ⟨ret_bool (by simp [isEv, h5]), rfl⟩
  ·go_enter Tryz.func158, Tryz.ntmps158
   go_wp2_with fail
   go_ret
   exact ⟨ret_bool (by simp [isEv]; omega), rfl⟩

set_option maxHeartbeats 400000 in
theorem vInt_any (n : Int) (w : World) :
  Calls Tryz.prog 155 #[.int .i64 n] w fun e w' => e = .returned (.agg #[.int .i64 2, .int .i64 n, .slice none 0 0]) ∧ Below w.heap.size w w' := by
 go_enter Tryz.func155, Tryz.ntmps155
 go_wp2_with fail
 exact bodyPost_ret (v := .agg #[.int .i64 2, .int .i64 n, .slice none 0 0]) (by simp [results, Tryz.results155, go_sem]) rfl ⟨rfl, (Below.refl _ _).alloc (Nat.le_refl _) _⟩
end Go.Proofs.YtjldbbcdhdfliaaGreatDoor
/-
 Walks over package val: shaped.
-/
namespace Go.Proofs.YtjldbbcdhdfliaaGreatDoor
open Go.RowKit

theorem all_drop {l : List VT} {f : VT → Bool} {j : Nat} (h : j < l.length) : (l.drop j).all f = (f l[j] && (l.drop (j + 1)).all f) := by
 rw [List.drop_eq_getElem_cons h, List.all_cons]

set_option maxHeartbeats 1000000 in
theorem shaped_no (k n : Int) (l : List VT) (a : Option Addr) (cap : Nat) (w : World) (_hl : l.length ≤ cap) (_hcap : cap ≤ maxLen)
  (hk : ∀ i : Int, 1 ≤ i → i ≤ 13 → k ≠ i) :
  Calls Tryz.prog 181 #[.agg #[.int .i64 k, .int .i64 n, .slice a l.length cap]] w fun e w' => e = .returned (.bool (shp k n l)) ∧ Below w.heap.size w w' := by
 unfold maxLen at _hcap
 have e1 : (k == 1) = false := beq_eq_false_iff_ne.2 (hk 1 (by omega) (by omega))
 have e2 : (k == 2) = false := beq_eq_false_iff_ne.2 (hk 2 (by omega) (by omega))
 have e3 : (k == 3) = false := beq_eq_false_iff_ne.2 (hk 3 (by omega) (by omega))
 have e4 : (k == 4) = false := beq_eq_false_iff_ne.2 (hk 4 (by omega) (by omega))
 have e5 : (k == 5) = false := beq_eq_false_iff_ne.2 (hk 5 (by omega) (by omega))
 have e6 : (k == 6) = false := beq_eq_false_iff_ne.2 (hk 6 (by omega) (by omega))
 have e7 : (k == 7) = false := beq_eq_false_iff_ne.2 (hk 7 (by omega) (by omega))
 have e8 : (k == 8) = false := beq_eq_false_iff_ne.2 (hk 8 (by omega) (by omega))
 have e9 : (k == 9) = false := beq_eq_false_iff_ne.2 (hk 9 (by omega) (by omega))
 have e10 : (k == 10) = false := beq_eq_false_iff_ne.2 (hk 10 (by omega) (by omega))
 have e11 : (k == 11) = false := beq_eq_false_iff_ne.2 (hk 11 (by omega) (by omega))
 have e12 : (k == 12) = false := beq_eq_false_iff_ne.2 (hk 12 (by omega) (by omega))
 have e13 : (k == 13) = false := beq_eq_false_iff_ne.2 (hk 13 (by omega) (by omega))
 have HE : Hid (false = shp k n l) := by
  unfold shp shpN
  rw [if_neg, if_neg, if_neg, if_neg, if_neg, if_neg, if_neg, if_neg, if_neg, if_neg]
  ·exact rfl
  all_goals (have := hk 1 (by omega) (by omega); have := hk 2 (by omega) (by omega); have := hk 3 (by omega) (by omega); have := hk 4 (by omega) (by omega); have := hk 5 (by omega) (by omega); have := hk 6 (by omega) (by omega); have := hk 7 (by omega) (by omega); have := hk 8 (by omega) (by omega); have := hk 9 (by omega) (by omega); have := hk 10 (by omega) (by omega); have := hk 11 (by omega) (by omega); have := hk 12 (by omega) (by omega); have := hk 13 (by omega) (by omega); omega)
 clear hk
 go_enter Tryz.func181, Tryz.ntmps181
 go_wp2_with fail
 go_ret
 exact ⟨ret_bool HE.out, (Below.refl _ _).alloc (Nat.le_refl _) _⟩

set_option maxHeartbeats 1000000 in
theorem shaped_plain (k n : Int) (l : List VT) (a : Option Addr) (cap : Nat) (w : World) (_hl : l.length ≤ cap) (_hcap : cap ≤ maxLen)
  (hk : k = 1 ∨ k = 8 ∨ k = 2 ∨ k = 3 ∨ k = 4 ∨ k = 13 ∨ k = 7 ∨ k = 11 ∨ k = 12) :
  Calls Tryz.prog 181 #[.agg #[.int .i64 k, .int .i64 n, .slice a l.length cap]] w fun e w' => e = .returned (.bool (shp k n l)) ∧ Below w.heap.size w w' := by
 unfold maxLen at _hcap
 unfold shp
 generalize fstKd l = fk
 generalize (l.all fun t => isEv t.kd) = ev
 generalize l.length = len at *
 rcases hk with rfl | rfl | rfl | rfl | rfl | rfl | rfl | rfl | rfl
 all_goals
  go_enter Tryz.func181, Tryz.ntmps181
  go_wp2_with fail
  all_goals go_ret
  all_goals refine ⟨ret_bool ?_, (Below.refl _ _).alloc (Nat.le_refl _) _⟩
  all_goals (rw [Bool.eq_iff_iff]; simp [shpN]; try omega)

theorem fstKd_zero {l : List VT} {t : VT} {k n : Int} {ll : List VT} (h : 0 < l.length) (hl : l[0] = t) (ht : t = .mk k n ll) : fstKd l = k := by
 cases l with
 | nil => simp at h
 | cons x r => simp at hl; subst hl; subst ht; rfl

set_option maxHeartbeats 1000000 in
theorem shaped_first (k n : Int) (l : List VT) (a : Option Addr) (cap : Nat) (w : World) (_hl : l.length ≤ cap) (_hcap : cap ≤ maxLen)
  (hrow : IsR (· < w.heap.size) w l a 0) (hk : k = 5 ∨ k = 6 ∨ k = 10) :
  Calls Tryz.prog 181 #[.agg #[.int .i64 k, .int .i64 n, .slice a l.length cap]] w fun e w' => e = .returned (.bool (shp k n l)) ∧ Below w.heap.size w w' := by
 unfold maxLen at _hcap
 unfold shp
 generalize (l.all fun t => isEv t.kd) = ev
 by_cases h0 : 0 < l.length
 ·obtain ⟨kk, n2, ll, g, o, a', cap', hlj, rfl, hg, c0, c1, c2, ht⟩ := hrow.at_ h0
  have hf := fstKd_zero h0 rfl hlj
  rw [hf]
  clear hf hlj c1 c2 ht
  rw [Nat.zero_mul, Nat.add_zero] at c0
  have hc0 : ∀ o', (w.alloc o').cell? ⟨g, o, none⟩ = some (.int .i64 kk) := fun o' => (World.cell?_alloc_lt w o' ⟨g, o, none⟩ hg).trans c0
  generalize l.length = len at *
  rcases hk with rfl | rfl | rfl
  all_goals
   go_enter Tryz.func181, Tryz.ntmps181
   go_wp2_with (go_at_call 186; refine (vevent_any _ _ _ (.inl rfl)).mono ?_; rintro e w' ⟨rfl, rfl⟩)
   all_goals go_ret
   all_goals refine ⟨ret_bool ?_, (Below.refl _ _).alloc (Nat.le_refl _) _⟩
   all_goals (rw [Bool.eq_iff_iff]; simp [shpN]; try omega)
 ·have h1 : l.length = 0 := by omega
  rw [h1] at *
  rcases hk with rfl | rfl | rfl
  all_goals
   go_enter Tryz.func181, Tryz.ntmps181
   go_wp2_with fail
   all_goals go_ret
   all_goals refine ⟨ret_bool ?_, (Below.refl _ _).alloc (Nat.le_refl _) _⟩
   all_goals (rw [Bool.eq_iff_iff]; simp [shpN])
end Go.Proofs.YtjldbbcdhdfliaaGreatDoor
/-
 Walks over package val: shaped (choices), shapes, valid, Check, equal, Same.
-/
namespace Go.Proofs.YtjldbbcdhdfliaaGreatDoor
open Go.RowKit

set_option maxHeartbeats 1000000 in
theorem shaped_choose (n : Int) (l : List VT) (a : Option Addr) (cap : Nat) (w : World) (hl : l.length ≤ cap) (hcap : cap ≤ maxLen)
  (hrow : IsR (· < w.heap.size) w l a 0) :
  Calls Tryz.prog 181 #[.agg #[.int .i64 9, .int .i64 n, .slice a l.length cap]] w fun e w' => e = .returned (.bool (shp 9 n l)) ∧ Below w.heap.size w w' := by
 unfold maxLen at hcap
 go_enter Tryz.func181, Tryz.ntmps181
 go_wp2_with fail
 go_loopw [92] (fun i wr => ∃ (j : Nat), j ≤ l.length ∧ i = .int .i64 j ∧ (l.all fun t => isEv t.kd) = ((l.drop j).all fun t => isEv t.kd) ∧ Below w.heap.size w wr ∧ w.heap.size + 1 ≤ wr.heap.size ∧ wr.cell? ⟨w.heap.size, 1, none⟩ = some (.int .i64 n)) (fun i _ => l.length - (intOf i).toNat)
 case atStart => exact ⟨0, by omega, rfl, rfl, (Below.refl _ _).alloc (Nat.le_refl _) _, by simp, by simp [go_sem]⟩
 case round =>
  obtain ⟨j, hj, rfl, hc, hb, hsz, hcell⟩ := hrel
  have HC := Lib.hid hc
  clear hc
  by_cases hlt : j < l.length
  ·obtain ⟨kk, n2, ll, g, o, a', cap', hlj, rfl, hg, c0, c1, c2, ht⟩ := hrow.at_ hlt
   have d0 := (hb.cell (p := ⟨g, o + j * 3, none⟩) hg).trans c0
   have d1 := (hb.cell (p := ⟨g, o + j * 3 + 1, none⟩) hg).trans c1
   have d2 := (hb.cell (p := ⟨g, o + j * 3 + 2, none⟩) hg).trans c2
   have HL := Lib.hid hlj
   clear hlj c0 c1 c2 ht
   cases hev : isEv kk
   ·go_wp2_with (go_at_call 186; refine (vevent_any _ _ _ (.inl rfl)).mono ?_; rintro e w' ⟨rfl, rfl⟩)
    go_ret
    refine ⟨ret_bool ?_, hb.alloc (by omega) _⟩
    have : (l.all fun t => isEv t.kd) = false := by rw [HC.out, all_drop hlt, HL.out, VT.kd, hev, Bool.false_and]
    simp [shp, shpN, this]
   ·go_wp2_with (go_at_call 186; refine (vevent_any _ _ _ (.inl rfl)).mono ?_; rintro e w' ⟨rfl, rfl⟩)
    go_roundw
    case rel =>
     refine ⟨j + 1, by omega, by go_num, ?_, hb.alloc (by omega) _, by simp; omega, ?_⟩
     ·rw [HC.out, all_drop hlt, HL.out, VT.kd, hev, Bool.true_and]
     ·rw [World.cell?_alloc_lt _ _ _ (by simp; omega)]; exact hcell
    case measure => simp [intOf]; omega
  ·have hev : (l.all fun t => isEv t.kd) = true := by rw [HC.out, List.drop_of_length_le (by omega)]; rfl
   have HV := Lib.hid hev
   clear hev
   go_wp2_with fail
   all_goals go_ret
   all_goals refine ⟨ret_bool ?_, hb⟩
   all_goals (rw [Bool.eq_iff_iff]; simp only [shp, HV.out]; simp [shpN]; try omega)

theorem shaped_any (k n : Int) (l : List VT) (a : Option Addr) (cap : Nat) (w : World) (hl : l.length ≤ cap) (hcap : cap ≤ maxLen)
  (hrow : IsR (· < w.heap.size) w l a 0) :
  Calls Tryz.prog 181 #[.agg #[.int .i64 k, .int .i64 n, .slice a l.length cap]] w fun e w' => e = .returned (.bool (shp k n l)) ∧ Below w.heap.size w w' := by
 by_cases h1 : 1 ≤ k ∧ k ≤ 13
 ·have : (k = 1 ∨ k = 8 ∨ k = 2 ∨ k = 3 ∨ k = 4 ∨ k = 13 ∨ k = 7 ∨ k = 11 ∨ k = 12) ∨ (k = 5 ∨ k = 6 ∨ k = 10) ∨ k = 9 := by omega
  rcases this with h | h | rfl
  ·exact shaped_plain k n l a cap w hl hcap h
  ·exact shaped_first k n l a cap w hl hcap hrow h
  ·exact shaped_choose n l a cap w hl hcap hrow
 ·exact shaped_no k n l a cap w hl hcap (fun i h2 h3 h4 => h1 (by omega))

set_option maxHeartbeats 1000000 in
theorem shapes_any (m : Nat) : ∀ (t : VT) (v : Value) (w : World), SizeOf.sizeOf t ≤ m → IsV (· < w.heap.size) w t v →
  Calls Tryz.prog 165 #[v] w fun e w' => e = .returned (.bool (shps t)) ∧ Below w.heap.size w w' := by
 induction m with
 | zero => intro t; cases t; simp
 | succ m ih =>
  intro t v w hk hv
  obtain ⟨kd, nn, l⟩ := t
  rw [IsV] at hv
  obtain ⟨a, cap, rfl, hkr, hnr, hl, hcap, hrow⟩ := hv
  have hcap' := hcap
  unfold maxLen at hcap
  have hsh := fun (W : World) (hb : Below w.heap.size w W) => shaped_any kd nn l a cap W hl hcap' ((hrow.below hb).more fun _ hg => Nat.lt_of_lt_of_le hg hb.size)
  have HS := Lib.hid hsh
  clear hsh
  have HI := Lib.hid ih
  clear ih
  cases hs : shp kd nn l
  ·have HX := Lib.hid hs
   clear hs
   go_enter Tryz.func165, Tryz.ntmps165
   go_wp2_with fail
   refine (HS.out _ ((Below.refl _ _).alloc (Nat.le_refl _) _)).mono ?_
   rintro e w1 ⟨rfl, hb1⟩
   rw [HX.out]
   go_wp2_with fail
   go_ret
   refine ⟨ret_bool (by rw [shps, HX.out]; rfl), ((Below.refl _ _).alloc (Nat.le_refl _) _).trans (hb1.mono (by simp))⟩
  ·have HX := Lib.hid hs
   clear hs
   go_enter Tryz.func165, Tryz.ntmps165
   go_wp2_with fail
   refine (HS.out _ ((Below.refl _ _).alloc (Nat.le_refl _) _)).mono ?_
   rintro e w1 ⟨rfl, hb1⟩
   rw [HX.out]
   obtain ⟨hc, hf⟩ := bcell hb1
   have hc2 := (hc w.heap.size 2 (by simp)).trans (by simp [go_sem] : _ = some (Value.slice a l.length cap))
   have hbw : Below w.heap.size w w1 := ((Below.refl _ _).alloc (Nat.le_refl _) _).trans (hb1.mono (by simp))
   have hsz1 : w.heap.size + 1 ≤ w1.heap.size := by have := hb1.size; simpa using this
   clear hc hf hb1
   go_wp2_with fail
   go_loopw [11] (fun i wr => ∃ (j : Nat), j ≤ l.length ∧ i = .int .i64 j ∧ shpsL l = shpsL (l.drop j) ∧ Below w.heap.size w wr ∧ w.heap.size + 1 ≤ wr.heap.size) (fun i _ => l.length - (intOf i).toNat)
   case atStart => exact ⟨0, by omega, rfl, rfl, hbw, hsz1⟩
   case round =>
    obtain ⟨j, hj, rfl, hc, hb, hsz⟩ := hrel
    have HC := Lib.hid hc
    clear hc
    by_cases hlt : j < l.length
    ·obtain ⟨kk, n2, ll, g, o, a', cap', hlj, rfl, hg, c0, c1, c2, ht⟩ := hrow.at_ hlt
     have d0 := (hb.cell (p := ⟨g, o + j * 3, none⟩) hg).trans c0
     have d1 := (hb.cell (p := ⟨g, o + j * 3 + 1, none⟩) hg).trans c1
     have d2 := (hb.cell (p := ⟨g, o + j * 3 + 2, none⟩) hg).trans c2
     have HL := Lib.hid hlj
     clear hlj c0 c1 c2
     cases hev : shps (.mk kk n2 ll)
     ·have HV := Lib.hid hev
      clear hev
      go_wp2_with fail
      refine (HI.out (.mk kk n2 ll) _ _ (sz_lt (HL.out ▸ List.getElem_mem hlt) hk) ?_).mono ?_
      ·exact (ht.below (hb.alloc (by omega) _)).lift (by simp; omega)
      rintro e w2 ⟨rfl, hb2⟩
      rw [HV.out]
      go_wp2_with fail
      go_ret
      refine ⟨ret_bool ?_, (hb.alloc (by omega) _).trans (hb2.mono (by simp; omega))⟩
      rw [shps, HX.out, HC.out, List.drop_eq_getElem_cons hlt, shpsL, HL.out, HV.out]; rfl
     ·have HV := Lib.hid hev
      clear hev
      go_wp2_with fail
      refine (HI.out (.mk kk n2 ll) _ _ (sz_lt (HL.out ▸ List.getElem_mem hlt) hk) ?_).mono ?_
      ·exact (ht.below (hb.alloc (by omega) _)).lift (by simp; omega)
      rintro e w2 ⟨rfl, hb2⟩
      rw [HV.out]
      go_wp2_with fail
      go_roundw
      case rel =>
       refine ⟨j + 1, by omega, by go_num, ?_, (hb.alloc (by omega) _).trans (hb2.mono (by simp; omega)), ?_⟩
       ·rw [HC.out, List.drop_eq_getElem_cons hlt, shpsL, HL.out, HV.out]; rfl
       ·have := hb2.size; simp at this; omega
      case measure => simp [intOf]; omega
    ·go_wp2_with fail
     go_ret
     refine ⟨ret_bool ?_, hb⟩
     rw [shps, HX.out, HC.out, List.drop_of_length_le (by omega)]; rfl
end Go.Proofs.YtjldbbcdhdfliaaGreatDoor
/-
 Walks over package val: valid, Check, equal, Same.
-/
namespace Go.Proofs.YtjldbbcdhdfliaaGreatDoor
open Go.RowKit

theorem IsV.form {ok : Nat → Prop} {w : World} {t : VT} {v : Value} (h : IsV ok w t v) : ∃ (k n : Int) (a : Option Addr) (len cap : Nat), v = .agg #[.int .i64 k, .int .i64 n, .slice a len cap] := by
 obtain ⟨kd, nn, l⟩ := t
 rw [IsV] at h
 obtain ⟨a, cap, rfl, -⟩ := h
 exact ⟨kd, nn, a, l.length, cap, rfl⟩
theorem IsV.later {w w' : World} {t : VT} {v : Value} (h : IsV (· < w.heap.size) w t v) (hb : Below w.heap.size w w') : IsV (· < w'.heap.size) w' t v :=
 (h.below hb).lift hb.size
theorem below_alloc (w : World) (o : Obj) : Below w.heap.size w (w.alloc o) := (Below.refl _ _).alloc (Nat.le_refl _) _

set_option maxHeartbeats 1000000 in
theorem valid_any (t : VT) (v : Value) (w : World) (hv : IsV (· < w.heap.size) w t v) :
  Calls Tryz.prog 138 #[v] w fun e w' => e = .returned (.bool (right t)) ∧ Below w.heap.size w w' := by
 obtain ⟨k, n, a, len, cap, rfl⟩ := hv.form
 cases hs : small t
 ·have HX := Lib.hid hs
  clear hs
  go_enter Tryz.func138, Tryz.ntmps138
  go_wp2_with fail
  refine (small_any t _ _ (hv.later (below_alloc _ _))).mono ?_
  rintro e w1 ⟨rfl, hb1⟩
  rw [HX.out]
  go_wp2_with fail
  go_ret
  exact ⟨ret_bool (by rw [right, HX.out]; rfl), (below_alloc _ _).trans (hb1.mono (by simp))⟩
 ·have HX := Lib.hid hs
  clear hs
  go_enter Tryz.func138, Tryz.ntmps138
  go_wp2_with fail
  refine (small_any t _ _ (hv.later (below_alloc _ _))).mono ?_
  rintro e w1 ⟨rfl, hb1⟩
  rw [HX.out]
  obtain ⟨hc, hf⟩ := bcell hb1
  have c0 := (hc w.heap.size 0 (by simp)).trans (by simp [go_sem] : _ = some (Value.int .i64 k))
  have c1 := (hc w.heap.size 1 (by simp)).trans (by simp [go_sem] : _ = some (Value.int .i64 n))
  have c2 := (hc w.heap.size 2 (by simp)).trans (by simp [go_sem] : _ = some (Value.slice a len cap))
  have hbw : Below w.heap.size w w1 := (below_alloc _ _).trans (hb1.mono (by simp))
  clear hc hf hb1
  go_wp2_with fail
  refine (shapes_any _ t _ _ (Nat.le_refl _) (hv.later hbw)).mono ?_
  rintro e w2 ⟨rfl, hb2⟩
  go_wp2_with fail
  go_ret
  exact ⟨ret_bool (by rw [right, HX.out]; rfl), hbw.trans (hb2.mono hbw.size)⟩

set_option maxHeartbeats 1000000 in
theorem Check_any (t : VT) (v : Value) (w : World) (hv : IsV (· < w.heap.size) w t v) :
  Calls Tryz.prog 115 #[v] w fun e w' => e = .returned (.int .i64 (if right t then 0 else 40)) ∧ Below w.heap.size w w' := by
 obtain ⟨k, n, a, len, cap, rfl⟩ := hv.form
 cases hs : right t
 all_goals
  have HX := Lib.hid hs
  clear hs
  go_enter Tryz.func115, Tryz.ntmps115
  go_wp2_with fail
  refine (valid_any t _ _ (hv.later (below_alloc _ _))).mono ?_
  rintro e w1 ⟨rfl, hb1⟩
  rw [HX.out]
  go_wp2_with fail
  go_ret
  exact ⟨rfl, (below_alloc _ _).trans (hb1.mono (by simp))⟩

end Go.Proofs.YtjldbbcdhdfliaaGreatDoor
