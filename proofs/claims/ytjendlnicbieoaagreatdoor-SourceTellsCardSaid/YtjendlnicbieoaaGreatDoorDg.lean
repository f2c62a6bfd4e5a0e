/-
  The reference's Digits.
-/
import Derived.Test.YtjendlnicbieoaaGreatDoorFunA
import Derived.Lib.Hide
import Derived.Lib.ItoaLen
namespace Go.Proofs.YtjendlnicbieoaaGreatDoor
open Go.RowKit

def DigAt (m0 m : Nat) (l : List UInt8) : Prop := (l = [] ∧ m = m0) ∨ (l ≠ [] ∧ ((m = 0 ∧ Lib.decDigits m0 = l) ∨ (0 < m ∧ Lib.decDigits m0 = Lib.decDigits m ++ l)))
theorem DigAt.step {m0 m : Nat} {l : List UInt8} (h : DigAt m0 m l) (hgo : 0 < m ∨ l = []) : DigAt m0 (m / 10) (UInt8.ofNat (48 + m % 10) :: l) := by
  have hd : Lib.decDigits m0 = Lib.decDigits m ++ l := by
    rcases h with ⟨rfl, rfl⟩ | ⟨hl, ⟨rfl, _⟩ | ⟨_, h⟩⟩
    · simp
    · rcases hgo with h0 | h0
      · omega
      · exact absurd h0 hl
    · exact h
  refine .inr ⟨by simp, ?_⟩
  rw [hd, Lib.decDigits]
  by_cases h10 : m < 10
  · refine .inl ⟨by omega, ?_⟩
    rw [dif_pos h10, Nat.mod_eq_of_lt h10]
    rfl
  · refine .inr ⟨by omega, ?_⟩
    rw [dif_neg h10]
    simp
theorem DigAt.end_ {m0 m : Nat} {l : List UInt8} (h : DigAt m0 m l) (h0 : m = 0) (hl : l ≠ []) : l = Lib.decDigits m0 := by
  rcases h with ⟨rfl, _⟩ | ⟨_, ⟨_, h⟩ | ⟨h, _⟩⟩
  · exact absurd rfl hl
  · exact h.symm
  · omega
theorem wrap_u64 (m : Nat) (h : m ≤ 9223372036854775808) : IntKind.u64.wrap (-IntKind.u64.wrap (-(m : Int))) = m := by
  simp only [IntKind.wrap, IntKind.bits, IntKind.signed]
  simp
  omega
def strLen : Value → Nat | .string b => b.size | _ => 0
theorem DigAt.len {m0 m : Nat} {l : List UInt8} (h : DigAt m0 m l) (h0 : m0 < 18446744073709551616) : l.length ≤ 20 := by
  have h1 := Lib.decDigits_length m0
  have h2 := Lib.nDigits_le20 m0 h0
  rcases h with ⟨rfl, _⟩ | ⟨_, ⟨_, h⟩ | ⟨_, h⟩⟩
  · simp
  · rw [h] at h1; omega
  · rw [h, List.length_append] at h1; omega
theorem dig1 (d : Nat) (h : d < 10) : (ByteArray.mk #[48, 49, 50, 51, 52, 53, 54, 55, 56, 57]).extract d (d + 1) = ⟨#[UInt8.ofNat (48 + d)]⟩ := by
  have : d = 0 ∨ d = 1 ∨ d = 2 ∨ d = 3 ∨ d = 4 ∨ d = 5 ∨ d = 6 ∨ d = 7 ∨ d = 8 ∨ d = 9 := by omega
  rcases this with rfl | rfl | rfl | rfl | rfl | rfl | rfl | rfl | rfl | rfl <;> rfl
theorem dig1_size (d : Nat) (h : d < 10) : ((ByteArray.mk #[48, 49, 50, 51, 52, 53, 54, 55, 56, 57]).extract d (d + 1)).size = 1 := by rw [dig1 d h]; rfl
theorem mk_cons (c : UInt8) (l : List UInt8) : ByteArray.mk #[c] ++ ByteArray.mk l.toArray = ByteArray.mk (c :: l).toArray := by
  apply ByteArray.ext
  rw [ByteArray.data_append]
  apply Array.ext'
  simp
theorem dig1_cons (d : Nat) (h : d < 10) (l : List UInt8) : (ByteArray.mk #[48, 49, 50, 51, 52, 53, 54, 55, 56, 57]).extract d (d + 1) ++ ByteArray.mk l.toArray = ByteArray.mk (UInt8.ofNat (48 + d) :: l).toArray := by
  rw [dig1 d h, mk_cons]
theorem emp_cons (c : UInt8) (l : List UInt8) : (ByteArray.mk (c :: l).toArray).toList.isEmpty = false := by simp [ByteArray.toList_eq]
set_option maxHeartbeats 1000000 in
theorem rDigits_any (n : Int) (hn : Rng n) (w : World) : Calls Tryz.prog 55 #[.int .i64 n] w fun e w' => e = .returned (.string ⟨(Lib.itoa n).toArray⟩) ∧ w = w' := by
  obtain ⟨hn1, hn2⟩ := hn
  by_cases hneg : n < 0
  · obtain ⟨m0, rfl⟩ : ∃ m : Nat, n = -(m : Int) := ⟨n.natAbs, by omega⟩
    go_enter Tryz.func55, Tryz.ntmps55
    go_wp2_with fail
    go_loop [3, 4] (fun x s => ∃ (m : Nat) (l : List UInt8), x = .int .u64 m ∧ s = .string ⟨l.toArray⟩ ∧ m ≤ m0 ∧ DigAt m0 m l) (fun x s => (intOf x).toNat + (1 - strLen s))
    case atStart => exact ⟨m0, [], congrArg (Value.int .u64) (wrap_u64 m0 (by omega)), rfl, Nat.le_refl _, .inl ⟨rfl, rfl⟩⟩
    case round =>
      obtain ⟨m, l, rfl, rfl, hm, hd⟩ := hrel
      have hl20 := hd.len (by omega)
      have hsz : (ByteArray.mk l.toArray).size = l.length := rfl
      have hds := dig1_size (m % 10) (by omega)
      have HD := Lib.hid (dig1_cons (m % 10) (by omega) l)
      by_cases hm0 : 0 < m
      · have HS := Lib.hid (hd.step (.inl hm0))
        go_wp2_with fail
        refine ⟨⟨m / 10, _, by go_num, congrArg Value.string HD.out, by omega, HS.out⟩, ?_⟩
        simp only [intOf, strLen, ByteArray.size_append, hds]
        omega
      · obtain rfl : m = 0 := by omega
        cases l with
        | nil =>
          have HS := Lib.hid (hd.step (.inr rfl))
          go_wp2_with fail
          refine ⟨⟨0, _, rfl, congrArg Value.string HD.out, by omega, HS.out⟩, ?_⟩
          simp only [intOf, strLen, ByteArray.size_append]
          decide
        | cons c l =>
          have HE := Lib.hid (hd.end_ rfl (by simp))
          have hne := emp_cons c l
          have h45 : (ByteArray.mk #[45]).size = 1 := rfl
          have hsz9 : (ByteArray.mk (c :: l).toArray).size ≤ 20 := hl20
          go_wp2_with fail
          go_ret
          exact ⟨by rw [Lib.itoa_neg m0 (by omega), ← HE.out, mk_cons]; rfl, rfl⟩
  · obtain ⟨m0, rfl⟩ : ∃ m : Nat, n = (m : Int) := ⟨n.toNat, by omega⟩
    go_enter Tryz.func55, Tryz.ntmps55
    go_wp2_with fail
    go_loop [3, 4] (fun x s => ∃ (m : Nat) (l : List UInt8), x = .int .u64 m ∧ s = .string ⟨l.toArray⟩ ∧ m ≤ m0 ∧ DigAt m0 m l) (fun x s => (intOf x).toNat + (1 - strLen s))
    case atStart => exact ⟨m0, [], by go_num, rfl, Nat.le_refl _, .inl ⟨rfl, rfl⟩⟩
    case round =>
      obtain ⟨m, l, rfl, rfl, hm, hd⟩ := hrel
      have hl20 := hd.len (by omega)
      have hsz : (ByteArray.mk l.toArray).size = l.length := rfl
      have hds := dig1_size (m % 10) (by omega)
      have HD := Lib.hid (dig1_cons (m % 10) (by omega) l)
      by_cases hm0 : 0 < m
      · have HS := Lib.hid (hd.step (.inl hm0))
        go_wp2_with fail
        refine ⟨⟨m / 10, _, by go_num, congrArg Value.string HD.out, by omega, HS.out⟩, ?_⟩
        simp only [intOf, strLen, ByteArray.size_append, hds]
        omega
      · obtain rfl : m = 0 := by omega
        cases l with
        | nil =>
          have HS := Lib.hid (hd.step (.inr rfl))
          go_wp2_with fail
          refine ⟨⟨0, _, rfl, congrArg Value.string HD.out, by omega, HS.out⟩, ?_⟩
          simp only [intOf, strLen, ByteArray.size_append]
          decide
        | cons c l =>
          have HE := Lib.hid (hd.end_ rfl (by simp))
          have hne := emp_cons c l
          have h45 : (ByteArray.mk #[45]).size = 1 := rfl
          have hsz9 : (ByteArray.mk (c :: l).toArray).size ≤ 20 := hl20
          go_wp2_with fail
          go_ret
          exact ⟨by rw [Lib.itoa_nonneg m0, ← HE.out]; rfl, rfl⟩
end Go.Proofs.YtjendlnicbieoaaGreatDoor
