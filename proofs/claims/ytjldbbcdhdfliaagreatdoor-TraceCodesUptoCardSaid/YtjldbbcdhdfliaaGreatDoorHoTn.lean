/-
 A reading is decided by the bytes up to its place: two texts that begin alike are read alike as far as that. Plain.
-/
import Derived.Test.YtjldbbcdhdfliaaGreatDoorRrA
import Derived.Test.YtjldbbcdhdfliaaGreatDoorWNd
import Derived.Lib.ParseIntB
namespace Go.Proofs.YtjldbbcdhdfliaaGreatDoor
open Go.RowKit

/-- The first k bytes are the same (both texts may end ahead of that). -/
def Alike (s s' : ByteArray) (k : Nat) : Prop := s.data.toList.take k = s'.data.toList.take k
theorem Alike.symm {s s' : ByteArray} {k : Nat} (h : Alike s s' k) : Alike s' s k := Eq.symm h
theorem bt_get (s : ByteArray) (i : Nat) : bt s i = match s.data.toList[i]? with
  | some c => (c.toNat : Int)
  | none => -1 := by
 unfold bt
 split
 ·rename_i h
  have : s.data.toList[i]? = some s[i] := by rw [List.getElem?_eq_getElem (by simpa using h)]; rfl
  rw [this]
 ·rename_i h
  have : s.data.toList[i]? = none := List.getElem?_eq_none (by simp; omega)
  rw [this]
theorem Alike.bt {s s' : ByteArray} {k x : Nat} (h : Alike s s' k) (hx : x < k) : bt s x = bt s' x := by
 have h1 := congrArg (fun l => l[x]?) h
 simp only [List.getElem?_take, if_pos hx] at h1
 rw [bt_get, bt_get, h1]
theorem Alike.isB {s s' : ByteArray} {k x : Nat} {c : Int} (h : Alike s s' k) (hx : x < k) : isB s x c = isB s' x c := by
 unfold Go.Proofs.YtjldbbcdhdfliaaGreatDoor.isB
 rw [h.bt hx]
theorem Alike.dig {s s' : ByteArray} {k x : Nat} (h : Alike s s' k) (hx : x < k) : dig s x = dig s' x := by
 unfold Go.Proofs.YtjldbbcdhdfliaaGreatDoor.dig
 rw [h.bt hx]
theorem Alike.sub {s s' : ByteArray} {k st n : Nat} (h : Alike s s' k) (hx : st + n ≤ k) : (s.extract st (st + n)).toList = (s'.extract st (st + n)).toList := by
 rw [toList_extract, toList_extract]
 have h1 : ∀ l : List UInt8, (l.drop st).take (st + n - st) = ((l.take k).drop st).take (st + n - st) := by
  intro l
  rw [List.drop_take, List.take_take, Nat.min_eq_left (by omega)]
 rw [h1, h1 s'.data.toList, h]
end Go.Proofs.YtjldbbcdhdfliaaGreatDoor
/-
 A value's reading is decided by the bytes up to its place. Plain.
-/
namespace Go.Proofs.YtjldbbcdhdfliaaGreatDoor
open Go.RowKit

def pl3 {α : Type} (r : Except Nat (α × Nat × Nat)) : Nat := match r with
 | .error j => j
 | .ok (_, j, _) => j
/-- Reading goes on; and two readers do alike where the place lies ahead of k. -/
structure Two (k : Nat) (rec rec' : Rec) : Prop where
 ge : ∀ m i p, i ≤ pl3 (rec m i p)
 loc : ∀ m i p, pl3 (rec m i p) < k → rec' m i p = rec m i p
section
variable {s s' : ByteArray} {k : Nat} {rec rec' : Rec} (ha : Alike s s' k) (h : Two k rec rec')
include h
include ha in
include ha in
end
section
variable {s s' : ByteArray} {k : Nat} {rec rec' : Rec} (ha : Alike s s' k) (h : Two k rec rec')
include h
include ha in
include ha in
include ha in
end
end Go.Proofs.YtjldbbcdhdfliaaGreatDoor
/-
 What was read is the text of the value. Plain.
-/
namespace Go.Proofs.YtjldbbcdhdfliaaGreatDoor
open Go.RowKit

/-- The bytes from i up to j. -/
def seg (s : ByteArray) (i j : Nat) : List UInt8 := (s.data.toList.drop i).take (j - i)
theorem dec_snoc {m d : Nat} (hm : 0 < m) (hd : d < 10) : Lib.decDigits (m * 10 + d) = Lib.decDigits m ++ [UInt8.ofNat (48 + d)] := by
 rw [Lib.decDigits, dif_neg (by omega), show (m * 10 + d) / 10 = m by omega, show (m * 10 + d) % 10 = d by omega]
end Go.Proofs.YtjldbbcdhdfliaaGreatDoor
/-
 What was read is the text of the value: values. Plain.
-/
namespace Go.Proofs.YtjldbbcdhdfliaaGreatDoor
open Go.RowKit

def SndR (s : ByteArray) (rec : Rec) : Prop := ∀ m i p t i' p', i ≤ s.size → p ≤ 256 → rec m i p = .ok (t, i', p') → seg s i i' = txt t ∧ shps t = true ∧ m t.kd = true
section
variable {s : ByteArray} {rec : Rec} (hr : Goes s rec) (hS : SndR s rec)
include hr hS
end
theorem itoa_neg {n : Nat} (h : 0 < n) : Lib.itoa (-(n : Int)) = 45 :: Lib.decDigits n := by
 unfold Lib.itoa
 rw [if_pos (by omega)]
 simp
end Go.Proofs.YtjldbbcdhdfliaaGreatDoor
/-
 The text of a number, or a word, is read as it. Plain.
-/
namespace Go.Proofs.YtjldbbcdhdfliaaGreatDoor
open Go.RowKit

def valD (l : List UInt8) : Nat := l.foldl (fun a c => a * 10 + (c.toNat - 48)) 0
theorem valD_snoc (l : List UInt8) (c : UInt8) : valD (l ++ [c]) = valD l * 10 + (c.toNat - 48) := by unfold valD; rw [List.foldl_append]; rfl
theorem dec_head (n : Nat) (hn : 0 < n) : ∃ d ds, 1 ≤ d ∧ d ≤ 9 ∧ Lib.decDigits n = UInt8.ofNat (48 + d) :: ds := by
 induction n using Nat.strongRecOn with
 | _ n ih =>
  by_cases h : n < 10
  ·exact ⟨n, [], hn, by omega, Lib.decDigits_one h⟩
  ·have e : n = (n / 10) * 10 + n % 10 := by omega
   have hs := dec_snoc (m := n / 10) (d := n % 10) (by omega) (by omega)
   rw [← e] at hs
   obtain ⟨d, ds, h1, h2, h3⟩ := ih (n / 10) (by omega) (by omega)
   exact ⟨d, ds ++ [UInt8.ofNat (48 + n % 10)], h1, h2, by rw [hs, h3]; rfl⟩
end Go.Proofs.YtjldbbcdhdfliaaGreatDoor
/-
 The text of a value that may be is read as it. Plain.
-/
namespace Go.Proofs.YtjldbbcdhdfliaaGreatDoor
open Go.RowKit

/-- A reader that reads what it should. -/
def CmpR (s : ByteArray) (rec : Rec) (p0 : Nat) : Prop := ∀ m i p t, p0 ≤ p → shps t = true → AllR t → m t.kd = true → seg s i (i + (txt t).length) = txt t → dig s (i + (txt t).length) = false → p + nd t ≤ 256 → rec m i p = .ok (t, i + (txt t).length, p + nd t)
section
variable {s : ByteArray} {rec : Rec} {p0 : Nat} (hC : CmpR s rec p0)
include hC
end
end Go.Proofs.YtjldbbcdhdfliaaGreatDoor
/-
 The text of a value that may be is read as it: the lists. Plain.
-/
namespace Go.Proofs.YtjldbbcdhdfliaaGreatDoor
open Go.RowKit

theorem itoa_pos {n : Int} (h : 0 ≤ n) : Lib.itoa n = Lib.decDigits n.toNat := by
 unfold Lib.itoa
 rw [if_neg (by omega)]
section
variable {s : ByteArray} {rec : Rec} {p0 : Nat} (hC : CmpR s rec p0)
include hC
omit hC in
omit hC in
end
end Go.Proofs.YtjldbbcdhdfliaaGreatDoor
/-
 The text of a value that may be is read as it: the whole. Plain.
-/
namespace Go.Proofs.YtjldbbcdhdfliaaGreatDoor
open Go.RowKit

end Go.Proofs.YtjldbbcdhdfliaaGreatDoor
/-
 An error's place lies within the text; the texts ahead of it; two right values are the same just where their texts are. Plain.
-/
namespace Go.Proofs.YtjldbbcdhdfliaaGreatDoor
open Go.RowKit

def Errs (s : ByteArray) (rec : Rec) : Prop := ∀ m i p j, i ≤ s.size → p ≤ 256 → rec m i p = .error j → j ≤ s.size
section
variable {s : ByteArray} {rec : Rec} (hg : Goes s rec) (hr : Errs s rec)
include hr
include hg
omit hr hg in
omit hr hg in
end
end Go.Proofs.YtjldbbcdhdfliaaGreatDoor
/-
 Numbers in texts (layer 23): digits without a leading zero, up to 2^63 - 1. Plain.
-/
namespace Go.Proofs.YtjldbbcdhdfliaaGreatDoor
open Go.RowKit

def isDg (c : UInt8) : Bool := decide (48 ≤ c.toNat) && decide (c.toNat ≤ 57)
/-- The number of digits. -/
def numL (l : List UInt8) : Option Nat := if l ≠ [] ∧ (1 < l.length → l.head? ≠ some 48) ∧ l.all isDg = true ∧ valD l ≤ 9223372036854775807 then some (valD l) else none
theorem dg_of {c : UInt8} (h : isDg c = true) : 48 ≤ c.toNat ∧ c.toNat ≤ 57 ∧ UInt8.ofNat (48 + (c.toNat - 48)) = c := by
 unfold isDg at h
 simp at h
 refine ⟨h.1, h.2, ?_⟩
 rw [show 48 + (c.toNat - 48) = c.toNat from by omega]
 simp
theorem valD_cons0 (l : List UInt8) : ∀ a, 0 < a → 0 < l.foldl (fun a c => a * 10 + (c.toNat - 48)) a := by
 induction l with
 | nil => intro a h; exact h
 | cons c r ih => intro a h; exact ih (a * 10 + (c.toNat - 48)) (by omega)
theorem dec_valD {l : List UInt8} (h0 : l ≠ []) (h1 : 1 < l.length → l.head? ≠ some 48) (h2 : l.all isDg = true) : Lib.decDigits (valD l) = l := by
 have key : ∀ (n : Nat) (l : List UInt8), l.length = n → l ≠ [] → (1 < l.length → l.head? ≠ some 48) → l.all isDg = true → Lib.decDigits (valD l) = l := by
  intro n
  induction n with
  | zero => intro l hl h0; exact absurd (List.eq_nil_of_length_eq_zero hl) h0
  | succ n ih =>
   intro l hl h0 h1 h2
   obtain ⟨r, c, rfl⟩ : ∃ r c, l = r ++ [c] := ⟨l.dropLast, l.getLast h0, (List.dropLast_concat_getLast h0).symm⟩
   simp only [List.all_append, List.all_cons, List.all_nil, Bool.and_true, Bool.and_eq_true] at h2
   obtain ⟨d1, d2, d3⟩ := dg_of h2.2
   rw [valD_snoc]
   by_cases hr : r = []
   ·subst hr
    show Lib.decDigits (0 * 10 + _) = _
    rw [Nat.zero_mul, Nat.zero_add, Lib.decDigits_one (by omega), d3]
    rfl
   ·have hr1 : 1 < (r ++ [c]).length := by
     have := List.length_pos_iff.2 hr
     simp
     omega
    obtain ⟨x, q, rfl⟩ := List.exists_cons_of_ne_nil hr
    have hhd : x ≠ 48 := by
     have := h1 hr1
     simpa using this
    have hv : 0 < valD (x :: q) := by
     have hx : isDg x = true := by
      have := h2.1
      simp at this
      exact this.1
     obtain ⟨x1, x2, x3⟩ := dg_of hx
     have h48 : x.toNat ≠ 48 := fun e => hhd (UInt8.toNat_inj.1 e)
     exact valD_cons0 q (0 * 10 + (x.toNat - 48)) (by omega)
    rw [dec_snoc hv (by omega), d3, ih (x :: q) (by simp at hl ⊢; omega) hr (fun _ => by simpa using hhd) h2.1]
 exact key _ l rfl h0 h1 h2
theorem dec_ne (n : Nat) : Lib.decDigits n ≠ [] := by
 intro h
 by_cases h0 : 0 < n
 ·obtain ⟨d, ds, _, _, e⟩ := dec_head n h0
  rw [e] at h
  cases h
 ·have : n = 0 := by omega
  subst this
  rw [Lib.decDigits_one (by omega)] at h
  cases h
theorem numL_some {l : List UInt8} {n : Nat} (h : numL l = some n) : l = Lib.decDigits n ∧ n ≤ 9223372036854775807 := by
 unfold numL at h
 split at h
 ·rename_i hc
  injection h with h
  subst h
  exact ⟨(dec_valD hc.1 hc.2.1 hc.2.2.1).symm, hc.2.2.2⟩
 ·cases h
theorem valD_ge : ∀ (r : List UInt8) (a : Nat), a ≤ r.foldl (fun a c => a * 10 + (c.toNat - 48)) a
 | [], _ => Nat.le_refl _
 | c :: r, a => by
  have := valD_ge r (a * 10 + (c.toNat - 48))
  simp only [List.foldl_cons]
  omega
theorem uint_digits (M : Nat) (hM : M ≤ 18446744073709551615) : ∀ (l : List UInt8) (acc : Nat), l.all isDg = true → acc ≤ M →
  Lib.parseUintM M acc l = if l.foldl (fun a c => a * 10 + (c.toNat - 48)) acc ≤ M then .ok (l.foldl (fun a c => a * 10 + (c.toNat - 48)) acc) else .range
 | [], acc, _, ha => by rw [Lib.parseUintM, List.foldl_nil, if_pos ha]
 | c :: r, acc, h, ha => by
  simp only [List.all_cons, Bool.and_eq_true] at h
  obtain ⟨d1, d2, d3⟩ := dg_of h.1
  rw [Lib.parseUintM, if_pos ⟨d1, d2⟩, List.foldl_cons]
  have hge := valD_ge r (acc * 10 + (c.toNat - 48))
  by_cases h1 : 1844674407370955162 ≤ acc
  ·rw [if_pos h1, if_neg (by omega)]
  ·rw [if_neg h1]
   by_cases h2 : M < acc * 10 + (c.toNat - 48)
   ·rw [if_pos h2, if_neg (by omega)]
   ·rw [if_neg h2]
    exact uint_digits M hM r _ h.2 (by omega)
/-- ParseInt of digits. -/
theorem int_digits {l : List UInt8} (h0 : l ≠ []) (h2 : l.all isDg = true) : (valD l ≤ 9223372036854775807 → Lib.parseIntB 64 l = .ok (valD l : Int)) ∧ (¬ valD l ≤ 9223372036854775807 → Lib.parseIntB 64 l = .range) := by
 obtain ⟨c, r, rfl⟩ := List.exists_cons_of_ne_nil h0
 have hc : isDg c = true := by
  simp at h2
  exact h2.1
 obtain ⟨d1, d2, d3⟩ := dg_of hc
 have hu : Lib.parseUintB 64 (c :: r) = if valD (c :: r) ≤ 18446744073709551615 then .ok (valD (c :: r)) else .range := by
  unfold Lib.parseUintB
  rw [if_neg (by simp)]
  exact uint_digits _ (by decide) _ 0 h2 (by decide)
 refine ⟨fun h => ?_, fun h => ?_⟩
 ·rw [if_pos (by omega)] at hu
  unfold Lib.parseIntB
  dsimp only
  rw [if_neg (show ¬ (c.toNat = 43 ∨ c.toNat = 45) by omega), hu]
  dsimp only
  rw [if_neg (by intro h; omega), if_neg (by intro h; omega), if_neg (by omega)]
 ·by_cases h3 : valD (c :: r) ≤ 18446744073709551615
  ·rw [if_pos h3] at hu
   unfold Lib.parseIntB
   dsimp only
   rw [if_neg (show ¬ (c.toNat = 43 ∨ c.toNat = 45) by omega), hu]
   dsimp only
   rw [if_pos (by refine ⟨by omega, ?_⟩; omega)]
  ·rw [if_neg h3] at hu
   unfold Lib.parseIntB
   dsimp only
   rw [if_neg (show ¬ (c.toNat = 43 ∨ c.toNat = 45) by omega), hu]
end Go.Proofs.YtjldbbcdhdfliaaGreatDoor
