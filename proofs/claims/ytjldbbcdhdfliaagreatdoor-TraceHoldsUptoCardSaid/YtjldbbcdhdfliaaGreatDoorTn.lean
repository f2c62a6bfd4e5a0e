/-
  Numbers in texts (layer 23): digits without a leading zero, up to 2^63 - 1. Plain.
-/
import Derived.Test.YtjldbbcdhdfliaaGreatDoorHold
import Derived.Lib.ParseIntB
namespace Go.Proofs.YtjldbbcdhdfliaaGreatDoor
open Go.RowKit

def isDg (c : UInt8) : Bool := decide (48 ≤ c.toNat) && decide (c.toNat ≤ 57)
/-- The number of digits. -/
def numL (l : List UInt8) : Option Nat := if l ≠ [] ∧ (1 < l.length → l.head? ≠ some 48) ∧ l.all isDg = true ∧ valD l ≤ 9223372036854775807 then some (valD l) else none
theorem dg_of {c : UInt8} (h : isDg c = true) : 48 ≤ c.toNat ∧ c.toNat ≤ 57 ∧ UInt8.ofNat (48 + (c.toNat - 48)) = c := by
  unfold isDg at h
  simp at h
  refine ⟨h.1, h.2, ?_⟩
  rw [show 48 + (c.toNat - 48) = c.toNat from by omega]
  simp
theorem valD_cons0 (l : List UInt8) : ∀ a, 0 < a → 0 < l.foldl (fun a c => a * 10 + (c.toNat - 48)) a := by
  induction l with
  | nil => intro a h; exact h
  | cons c r ih => intro a h; exact ih (a * 10 + (c.toNat - 48)) (by omega)
theorem dec_valD {l : List UInt8} (h0 : l ≠ []) (h1 : 1 < l.length → l.head? ≠ some 48) (h2 : l.all isDg = true) : Lib.decDigits (valD l) = l := by
  have key : ∀ (n : Nat) (l : List UInt8), l.length = n → l ≠ [] → (1 < l.length → l.head? ≠ some 48) → l.all isDg = true → Lib.decDigits (valD l) = l := by
    intro n
    induction n with
    | zero => intro l hl h0; exact absurd (List.eq_nil_of_length_eq_zero hl) h0
    | succ n ih =>
      intro l hl h0 h1 h2
      obtain ⟨r, c, rfl⟩ : ∃ r c, l = r ++ [c] := ⟨l.dropLast, l.getLast h0, (List.dropLast_concat_getLast h0).symm⟩
      simp only [List.all_append, List.all_cons, List.all_nil, Bool.and_true, Bool.and_eq_true] at h2
      obtain ⟨d1, d2, d3⟩ := dg_of h2.2
      rw [valD_snoc]
      by_cases hr : r = []
      · subst hr
        show Lib.decDigits (0 * 10 + _) = _
        rw [Nat.zero_mul, Nat.zero_add, Lib.decDigits_one (by omega), d3]
        rfl
      · have hr1 : 1 < (r ++ [c]).length := by
          have := List.length_pos_iff.2 hr
          simp
          omega
        obtain ⟨x, q, rfl⟩ := List.exists_cons_of_ne_nil hr
        have hhd : x ≠ 48 := by
          have := h1 hr1
          simpa using this
        have hv : 0 < valD (x :: q) := by
          have hx : isDg x = true := by
            have := h2.1
            simp at this
            exact this.1
          obtain ⟨x1, x2, x3⟩ := dg_of hx
          have h48 : x.toNat ≠ 48 := fun e => hhd (UInt8.toNat_inj.1 e)
          exact valD_cons0 q (0 * 10 + (x.toNat - 48)) (by omega)
        rw [dec_snoc hv (by omega), d3, ih (x :: q) (by simp at hl ⊢; omega) hr (fun _ => by simpa using hhd) h2.1]
  exact key _ l rfl h0 h1 h2
theorem dec_ne (n : Nat) : Lib.decDigits n ≠ [] := by
  intro h
  by_cases h0 : 0 < n
  · obtain ⟨d, ds, _, _, e⟩ := dec_head n h0
    rw [e] at h
    cases h
  · have : n = 0 := by omega
    subst this
    rw [Lib.decDigits_one (by omega)] at h
    cases h
theorem numL_dec {n : Nat} (hn : n ≤ 9223372036854775807) : numL (Lib.decDigits n) = some n := by
  unfold numL
  rw [valD_dec, if_pos]
  refine ⟨dec_ne n, ?_, ?_, hn⟩
  · intro hl
    by_cases h0 : 0 < n
    · obtain ⟨d, ds, h1, h2, e⟩ := dec_head n h0
      rw [e]
      simp only [List.head?_cons, ne_eq, Option.some.injEq]
      intro e2
      have := congrArg UInt8.toNat e2
      simp at this
      omega
    · have : n = 0 := by omega
      subst this
      rw [Lib.decDigits_one (by omega)] at hl
      simp at hl
  · rw [List.all_eq_true]
    intro c hc
    have := dec_digits n c hc
    unfold isDg
    simp
    exact this
theorem numL_some {l : List UInt8} {n : Nat} (h : numL l = some n) : l = Lib.decDigits n ∧ n ≤ 9223372036854775807 := by
  unfold numL at h
  split at h
  · rename_i hc
    injection h with h
    subst h
    exact ⟨(dec_valD hc.1 hc.2.1 hc.2.2.1).symm, hc.2.2.2⟩
  · cases h
theorem valD_ge : ∀ (r : List UInt8) (a : Nat), a ≤ r.foldl (fun a c => a * 10 + (c.toNat - 48)) a
  | [], _ => Nat.le_refl _
  | c :: r, a => by
    have := valD_ge r (a * 10 + (c.toNat - 48))
    simp only [List.foldl_cons]
    omega
theorem uint_digits (M : Nat) (hM : M ≤ 18446744073709551615) : ∀ (l : List UInt8) (acc : Nat), l.all isDg = true → acc ≤ M →
    Lib.parseUintM M acc l = if l.foldl (fun a c => a * 10 + (c.toNat - 48)) acc ≤ M then .ok (l.foldl (fun a c => a * 10 + (c.toNat - 48)) acc) else .range
  | [], acc, _, ha => by rw [Lib.parseUintM, List.foldl_nil, if_pos ha]
  | c :: r, acc, h, ha => by
    simp only [List.all_cons, Bool.and_eq_true] at h
    obtain ⟨d1, d2, d3⟩ := dg_of h.1
    rw [Lib.parseUintM, if_pos ⟨d1, d2⟩, List.foldl_cons]
    have hge := valD_ge r (acc * 10 + (c.toNat - 48))
    by_cases h1 : 1844674407370955162 ≤ acc
    · rw [if_pos h1, if_neg (by omega)]
    · rw [if_neg h1]
      by_cases h2 : M < acc * 10 + (c.toNat - 48)
      · rw [if_pos h2, if_neg (by omega)]
      · rw [if_neg h2]
        exact uint_digits M hM r _ h.2 (by omega)
/-- ParseInt of digits. -/
theorem int_digits {l : List UInt8} (h0 : l ≠ []) (h2 : l.all isDg = true) : (valD l ≤ 9223372036854775807 → Lib.parseIntB 64 l = .ok (valD l : Int)) ∧ (¬ valD l ≤ 9223372036854775807 → Lib.parseIntB 64 l = .range) := by
  obtain ⟨c, r, rfl⟩ := List.exists_cons_of_ne_nil h0
  have hc : isDg c = true := by
    simp at h2
    exact h2.1
  obtain ⟨d1, d2, d3⟩ := dg_of hc
  have hu : Lib.parseUintB 64 (c :: r) = if valD (c :: r) ≤ 18446744073709551615 then .ok (valD (c :: r)) else .range := by
    unfold Lib.parseUintB
    rw [if_neg (by simp)]
    exact uint_digits _ (by decide) _ 0 h2 (by decide)
  refine ⟨fun h => ?_, fun h => ?_⟩
  · rw [if_pos (by omega)] at hu
    unfold Lib.parseIntB
    dsimp only
    rw [if_neg (show ¬ (c.toNat = 43 ∨ c.toNat = 45) by omega), hu]
    dsimp only
    rw [if_neg (by intro h; omega), if_neg (by intro h; omega), if_neg (by omega)]
  · by_cases h3 : valD (c :: r) ≤ 18446744073709551615
    · rw [if_pos h3] at hu
      unfold Lib.parseIntB
      dsimp only
      rw [if_neg (show ¬ (c.toNat = 43 ∨ c.toNat = 45) by omega), hu]
      dsimp only
      rw [if_pos (by refine ⟨by omega, ?_⟩; omega)]
    · rw [if_neg h3] at hu
      unfold Lib.parseIntB
      dsimp only
      rw [if_neg (show ¬ (c.toNat = 43 ∨ c.toNat = 45) by omega), hu]
/-- A value's text is a number just where the value is one. -/
theorem parse_num {s : ByteArray} {n : Nat} (h : numL s.data.toList = some n) : parse s = .ok (.mk 2 n []) := by
  obtain ⟨h1, h2⟩ := numL_some h
  have hr : right (.mk 2 (n : Int) []) = true := by
    unfold right
    rw [small_nd, nd, ndL, shps, shpsL]
    simp [shp, shpN]
  have hR : AllR (.mk 2 (n : Int) []) := by
    rw [AllR, AllRL]
    unfold Rng
    refine ⟨?_, ?_, trivial⟩ <;> omega
  have := parse_txt hr hR
  have ht : txt (.mk 2 (n : Int) []) = s.data.toList := by
    rw [txt, if_pos rfl, itoa_nat, h1]
  rw [ht] at this
  have e : (⟨s.data.toList.toArray⟩ : ByteArray) = s := by
    obtain ⟨d⟩ := s
    simp
  rwa [e] at this
theorem int_rng {s : ByteArray} {n : Int} {l : List VT} (h : parse s = .ok (.mk 2 n l)) : n ≤ 9223372036854775807 := by
  unfold parse at h
  split at h
  · cases h
  · rename_i t i p he
    split at h
    · cases h
    · injection h with h
      subst h
      rw [show (256 : Nat) = 255 + 1 from rfl, pVal] at he
      split at he
      · cases he
      · split at he
        · split at he
          · unfold integer at he
            split at he
            · split at he
              · cases he
              · split at he
                · cases he
                · rename_i m j hm
                  injection he with he
                  injection he with h1 h2
                  injection h1 with h3 h4 h5
                  omega
            · split at he
              · cases he
              · rename_i m j hm
                have := num_ok hm (by omega) (by omega)
                injection he with he
                injection he with h1 h2
                injection h1 with h3 h4 h5
                omega
          · cases he
        · split at he
          · cases he
          · rename_i k j hw
            have hg := word_goes hw
            have hk2 : k ≠ 2 := by
              intro e
              subst e
              have := hg.2.2.2.2
              have h0 : (wdB 2).size = 0 := by decide
              omega
            split at he
            · injection he with he
              injection he with h1 h2
              injection h1 with h3 h4 h5
              omega
            · split at he
              · split at he
                · cases he
                · split at he
                  · injection he with he
                    injection he with h1 h2
                    injection h1 with h3 h4 h5
                    omega
                  · cases he
              · cases he
theorem num_parse {s : ByteArray} {n : Int} {l : List VT} (h : parse s = .ok (.mk 2 n l)) (hn : 0 ≤ n) : numL s.data.toList = some n.toNat ∧ l = [] := by
  obtain ⟨h1, h2⟩ := parse_snd h
  have h3 := int_rng h
  rw [txt, if_pos rfl, itoa_pos hn] at h1
  refine ⟨by rw [← h1]; exact numL_dec (by omega), ?_⟩
  unfold right at h2
  rw [shps] at h2
  simp [shp, shpN] at h2
  exact h2.2.1
/-- What the reference takes a text for. -/
def numP (r : Except Nat VT) : Option Nat := match r with
  | .ok (.mk k n _) => if k = 2 ∧ 0 ≤ n then some n.toNat else none
  | .error _ => none
theorem numP_parse (s : ByteArray) : numP (parse s) = numL s.data.toList := by
  rcases hp : parse s with j | ⟨k, n, l⟩
  · show none = _
    rcases hl : numL s.data.toList with _ | m
    · rfl
    · rw [parse_num hl] at hp
      cases hp
  · show (if k = 2 ∧ 0 ≤ n then some n.toNat else none) = _
    by_cases h : k = 2 ∧ 0 ≤ n
    · rw [if_pos h]
      obtain ⟨rfl, h0⟩ := h
      exact (num_parse hp h0).1.symm
    · rw [if_neg h]
      rcases hl : numL s.data.toList with _ | m
      · rfl
      · rw [parse_num hl] at hp
        injection hp with hp
        injection hp with h1 h2
        exact absurd ⟨h1.symm, by omega⟩ h
end Go.Proofs.YtjldbbcdhdfliaaGreatDoor
