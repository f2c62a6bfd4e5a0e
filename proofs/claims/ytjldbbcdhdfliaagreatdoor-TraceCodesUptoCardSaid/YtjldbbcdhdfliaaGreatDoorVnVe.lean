/-
 Numbers in bytes (layer 23): what is read back is what was put. Plain.
-/
import Derived.Test.YtjldbbcdhdfliaaGreatDoorTeTs
import Derived.Test.YtjldbbcdhdfliaaGreatDoorTgTh
import Derived.IntWalk
import Derived.Laws.BitsAllLaws
import Derived.Maps.AppendAt
namespace Go.Proofs.YtjldbbcdhdfliaaGreatDoor
open Go.RowKit

/-- The number that begins a row of bytes, k bytes of it read already, and what is behind it. -/
def numO : Nat → Nat → List UInt8 → Option (Nat × List UInt8)
 | _, _, [] => none
 | k, acc, c :: r => if 9 < k ∨ (k = 9 ∧ 1 < c.toNat % 128) then none
  else if 128 ≤ c.toNat then numO (k + 1) (acc + c.toNat % 128 * 128 ^ k) r
  else if c.toNat = 0 ∧ 0 < k then none else some (acc + c.toNat % 128 * 128 ^ k, r)
theorem pow9 : (128 : Nat) ^ 9 = 9223372036854775808 := by decide
theorem pow_le9 {k : Nat} (h : k ≤ 8) : (128 : Nat) ^ k ≤ 72057594037927936 := by
 have h1 : (128 : Nat) ^ k ≤ 128 ^ 8 := Nat.pow_le_pow_right (by decide) h
 have h2 : (128 : Nat) ^ 8 = 72057594037927936 := by decide
 omega
theorem pow_pos (k : Nat) : 0 < (128 : Nat) ^ k := Nat.pow_pos (by decide)
theorem u8_lt (c : UInt8) : c.toNat < 256 := c.toNat_lt
theorem u8_of {n : Nat} (h : n < 256) : (UInt8.ofNat n).toNat = n := by simp; omega
/-- What has been read. -/
theorem numO_some : ∀ (l : List UInt8) (k acc v : Nat) (r : List UInt8), numO k acc l = some (v, r) → ∃ m, l = leb m ++ r ∧ v = acc + m * 128 ^ k ∧ (0 < k → 0 < m) ∧ m * 128 ^ k < 18446744073709551616
 | [], k, acc, v, r, h => by rw [numO] at h; cases h
 | c :: l, k, acc, v, r, h => by
  rw [numO] at h
  have hc := u8_lt c
  by_cases h9 : 9 < k ∨ (k = 9 ∧ 1 < c.toNat % 128)
  ·rw [if_pos h9] at h
   cases h
  ·rw [if_neg h9] at h
   by_cases hb : 128 ≤ c.toNat
   ·rw [if_pos hb] at h
    obtain ⟨m, e1, e2, e3, e4⟩ := numO_some l _ _ _ _ h
    have hm := e3 (by omega)
    refine ⟨c.toNat % 128 + 128 * m, ?_, ?_, fun _ => by omega, ?_⟩
    ·rw [leb_big (by omega), show (c.toNat % 128 + 128 * m) % 128 + 128 = c.toNat by omega, show (c.toNat % 128 + 128 * m) / 128 = m by omega, e1]
     simp
    ·rw [e2, Nat.pow_succ, Nat.add_mul]
     have : 128 * m * 128 ^ k = m * (128 ^ k * 128) := by
      rw [Nat.mul_comm 128 m, Nat.mul_assoc, Nat.mul_comm (128 ^ k) 128]
     omega
    ·rw [Nat.pow_succ] at e4
     have h1 : m * (128 ^ k * 128) = 128 * (m * 128 ^ k) := by
      rw [← Nat.mul_assoc, Nat.mul_comm (m * 128 ^ k) 128]
     have h2 : (c.toNat % 128 + 128 * m) * 128 ^ k = c.toNat % 128 * 128 ^ k + 128 * (m * 128 ^ k) := by
      rw [Nat.add_mul, Nat.mul_assoc]
     have hk8 : k ≤ 8 := by
      rcases Nat.lt_or_ge k 9 with h | h
      ·omega
      ·exfalso
       have hk : k = 9 := by omega
       subst hk
       rw [pow9] at e4
       have : 1 * 9223372036854775808 ≤ m * 9223372036854775808 := Nat.mul_le_mul_right _ hm
       omega
     have h3 : c.toNat % 128 * 128 ^ k ≤ 127 * 128 ^ k := Nat.mul_le_mul_right _ (by omega)
     have hp : 128 * (128 : Nat) ^ k ∣ 18446744073709551616 := by
      have e64 : (18446744073709551616 : Nat) = 128 * 128 ^ 8 * 2 := by decide
      rw [e64]
      have : (128 : Nat) ^ k ∣ 128 ^ 8 := Nat.pow_dvd_pow 128 hk8
      exact Nat.dvd_trans (Nat.mul_dvd_mul_left 128 this) (Nat.dvd_mul_right _ _)
     obtain ⟨q, hq⟩ := hp
     have h4 : 128 * (m * 128 ^ k) = m * (128 * 128 ^ k) := by
      rw [← Nat.mul_assoc, ← Nat.mul_assoc, Nat.mul_comm 128 m]
     have h5 : m < q := by
      have : m * (128 * 128 ^ k) < q * (128 * 128 ^ k) := by
       rw [Nat.mul_comm q]
       omega
      exact Nat.lt_of_mul_lt_mul_right this
     have h6 : (m + 1) * (128 * 128 ^ k) ≤ q * (128 * 128 ^ k) := Nat.mul_le_mul_right _ h5
     rw [Nat.add_mul, Nat.one_mul, Nat.mul_comm q] at h6
     have hpk := pow_pos k
     omega
   ·rw [if_neg hb] at h
    by_cases h0 : c.toNat = 0 ∧ 0 < k
    ·rw [if_pos h0] at h
     cases h
    ·rw [if_neg h0] at h
     injection h with h
     injection h with hv hr
     have hmod : c.toNat % 128 = c.toNat := Nat.mod_eq_of_lt (by omega)
     rw [hmod] at hv h9
     refine ⟨c.toNat, ?_, hv.symm, fun hk => by omega, ?_⟩
     ·rw [leb_small (by omega), hr]
      simp
     ·rcases Nat.lt_or_ge k 9 with hk | hk
      ·have h1 := pow_le9 (k := k) (by omega)
       have h2 : c.toNat * 128 ^ k ≤ 127 * 72057594037927936 := Nat.mul_le_mul (by omega) h1
       omega
      ·have hk9 : k = 9 := by omega
       subst hk9
       rw [pow9]
       omega
/-- What was put is read. -/
theorem numO_leb : ∀ (m k acc : Nat) (r : List UInt8), (0 < k → 0 < m) → m * 128 ^ k < 18446744073709551616 → numO k acc (leb m ++ r) = some (acc + m * 128 ^ k, r) := by
 intro m
 induction m using Nat.strongRecOn with
 | _ m ih =>
  intro k acc r hk hm
  have hpk := pow_pos k
  have hk9 : k ≤ 9 := by
   rcases Nat.lt_or_ge k 10 with h | h
   ·omega
   ·exfalso
    have h0 := hk (by omega)
    have h1 : (128 : Nat) ^ 10 ≤ 128 ^ k := Nat.pow_le_pow_right (by decide) h
    have h2 : (128 : Nat) ^ 10 = 1180591620717411303424 := by decide
    have h3 : 1 * 128 ^ k ≤ m * 128 ^ k := Nat.mul_le_mul_right _ h0
    omega
  have h91 : k = 9 → m ≤ 1 := by
   intro h
   subst h
   rw [pow9] at hm
   omega
  by_cases hb : 128 ≤ m
  ·have hk8 : k ≤ 8 := by
    rcases Nat.lt_or_ge k 9 with h | h
    ·omega
    ·have := h91 (by omega)
     omega
   have hc : (UInt8.ofNat (m % 128 + 128)).toNat = m % 128 + 128 := u8_of (by omega)
   rw [leb_big hb, List.cons_append, numO, hc, if_neg (by omega), if_pos (by omega), show (m % 128 + 128) % 128 = m % 128 by omega]
   have e1 : m / 128 * 128 ^ (k + 1) = m / 128 * 128 * 128 ^ k := by rw [Nat.pow_succ, Nat.mul_comm (128 ^ k) 128, ← Nat.mul_assoc]
   have e2 : m % 128 * 128 ^ k + m / 128 * 128 * 128 ^ k = m * 128 ^ k := by
    rw [← Nat.add_mul]
    congr 1
    omega
   rw [ih (m / 128) (by omega) (k + 1) _ r (fun _ => by omega) (by rw [e1]; omega), e1]
   congr 2
   omega
  ·have hc : (UInt8.ofNat m).toNat = m := u8_of (by omega)
   rw [leb_small (by omega), List.cons_append, List.nil_append, numO, hc, Nat.mod_eq_of_lt (by omega : m < 128), if_neg (by omega), if_neg (by omega), if_neg (by omega)]
theorem num_iff {l r : List UInt8} {v : Nat} : numO 0 0 l = some (v, r) ↔ l = leb v ++ r ∧ v < 18446744073709551616 := by
 constructor
 ·intro h
  obtain ⟨m, e1, e2, _, e4⟩ := numO_some _ _ _ _ _ h
  simp at e2 e4
  subst e2
  exact ⟨e1, e4⟩
 ·rintro ⟨rfl, h⟩
  have := numO_leb v 0 0 r (fun h => by omega) (by simpa using h)
  simpa using this
/-- How the bytes of a number look. -/
theorem leb_shape (m : Nat) : ∃ pre c, leb m = pre ++ [c] ∧ (∀ x ∈ pre, 128 ≤ x.toNat) ∧ c.toNat < 128 := by
 induction m using Nat.strongRecOn with
 | _ m ih =>
  by_cases hb : 128 ≤ m
  ·obtain ⟨pre, c, e1, e2, e3⟩ := ih (m / 128) (by omega)
   refine ⟨UInt8.ofNat (m % 128 + 128) :: pre, c, by rw [leb_big hb, e1]; rfl, ?_, e3⟩
   intro x hx
   rcases List.mem_cons.1 hx with rfl | hx
   ·rw [u8_of (by omega)]
    omega
   ·exact e2 x hx
  ·exact ⟨[], UInt8.ofNat m, leb_small (by omega), fun x hx => by simp at hx, by rw [u8_of (by omega)]; omega⟩
/-- The value of bytes. -/
def valB : List UInt8 → Nat
 | [] => 0
 | c :: r => c.toNat % 128 + 128 * valB r
theorem leb_val (m : Nat) : valB (leb m) = m := by
 induction m using Nat.strongRecOn with
 | _ m ih =>
  by_cases hb : 128 ≤ m
  ·rw [leb_big hb, valB, ih (m / 128) (by omega), u8_of (by omega)]
   omega
  ·rw [leb_small (by omega), valB, valB, u8_of (by omega)]
   omega
/-- Two rows that begin alike up to the first small byte begin with the same one. -/
theorem first_small : ∀ {p q : List UInt8} {c d : UInt8} {r s : List UInt8}, p ++ c :: r = q ++ d :: s → (∀ x ∈ p, 128 ≤ x.toNat) → (∀ x ∈ q, 128 ≤ x.toNat) → c.toNat < 128 → d.toNat < 128 → p = q ∧ c = d ∧ r = s
 | [], [], c, d, r, s, h, _, _, _, _ => by
  simp at h
  exact ⟨rfl, h.1, h.2⟩
 | [], y :: q, c, d, r, s, h, _, hq, hc, _ => by
  simp at h
  have := hq y (by simp)
  rw [← h.1] at this
  omega
 | x :: p, [], c, d, r, s, h, hp, _, _, hd => by
  simp at h
  have := hp x (by simp)
  rw [h.1] at this
  omega
 | x :: p, y :: q, c, d, r, s, h, hp, hq, hc, hd => by
  simp only [List.cons_append, List.cons.injEq] at h
  obtain ⟨h1, h2, h3⟩ := first_small h.2 (fun z hz => hp z (by simp [hz])) (fun z hz => hq z (by simp [hz])) hc hd
  exact ⟨by rw [h.1, h1], h2, h3⟩
end Go.Proofs.YtjldbbcdhdfliaaGreatDoor
/-
 Walks over package trace: octets' cut.
-/
namespace Go.Proofs.YtjldbbcdhdfliaaGreatDoor
open Go.RowKit Go.Sort

/-- The reader's box. -/
def RdB (W : World) (rb g o n b : Nat) (last : Int) : Prop := W.heap[rb]? = some (.cells #[.slice (some ⟨g, o, none⟩) n n, .pointer (some ⟨b, 0, none⟩), .int .i64 last] 107 (0, 0))
/-- How cut ends. -/
def CutEnds (rb g o n m : Nat) (W : World) (e : Ending) (w' : World) : Prop := if m ≤ n then e = .returned (.slice (some ⟨g, o, none⟩) m m) ∧ ∃ o', (m < n → o' = o + m) ∧ w' = W.setCell ⟨rb, 0, none⟩ (.slice (some ⟨g, o', none⟩) (n - m) (n - m))
 else e = Fault ∧ w' = W
set_option maxRecDepth 100000 in
set_option maxHeartbeats 1000000 in
theorem cut_walk (rb g o n b m : Nat) (last : Int) (hn : n ≤ 100000000) (_hm : m < 18446744073709551616) (W : World) (h : RdB W rb g o n b last) : Calls Tryz.prog 89 #[.pointer (some ⟨rb, 0, none⟩), .int .u64 (m : Nat)] W (CutEnds rb g o n m W) := by
 have c0 : W.cell? ⟨rb, 0, none⟩ = some (.slice (some ⟨g, o, none⟩) n n) := by unfold RdB at h; simp [World.cell?, h]
 have f0 : W.frozen? ⟨rb, 0, none⟩ = false := by unfold RdB at h; simp [World.frozen?, h]
 have hw : IntKind.u64.wrap ((n : Nat) : Int) = (n : Int) := by
  rw [IntKind.wrap_u64]
  omega
 clear h
 by_cases hmn : m ≤ n
 ·have hd : decide (n < m) = false := by simp; omega
  have hd2 : decide ((n : Int) < (m : Int)) = false := by simp; omega
  have i1 : (m : Int) ≤ (n : Int) := by omega
  rcases Nat.lt_or_ge m n with hlt | hge
  ·have i2 : (m : Int) < (n : Int) := by omega
   have i3 : ¬ n = m := by omega
   have i4 : ¬ m = n := by omega
   go_enter Tryz.func89, Tryz.ntmps89
   go_wp2_with fail
   go_ret
   unfold CutEnds
   rw [if_pos hmn]
   exact ⟨rfl, o + m, fun _ => rfl, rfl⟩
  ·obtain rfl : m = n := by omega
   go_enter Tryz.func89, Tryz.ntmps89
   go_wp2_with fail
   go_ret
   unfold CutEnds
   rw [if_pos hmn]
   exact ⟨rfl, o, fun h => absurd h (by omega), by rw [Nat.sub_self]⟩
 ·have hd : decide (n < m) = true := by simp; omega
  have hd2 : decide ((n : Int) < (m : Int)) = true := by simp; omega
  go_enter Tryz.func89, Tryz.ntmps89
  go_wp2_with fail
  refine (raise_any _).mono ?_
  rintro e w1 ⟨rfl, rfl⟩
  refine ⟨rfl, ?_⟩
  show CutEnds rb g o n m _ Fault _
  unfold CutEnds
  rw [if_neg hmn]
  exact ⟨rfl, rfl⟩
end Go.Proofs.YtjldbbcdhdfliaaGreatDoor
/-
 Walks over package trace: octets' number. Printed by gen_vd.py.
-/
namespace Go.Proofs.YtjldbbcdhdfliaaGreatDoor
open Go.RowKit Go.Sort

/-- What a reader has before it. -/
structure Rdr (w : World) (rb b g : Nat) (last : Int) (W : World) (l : List UInt8) : Prop where
 ex : ∃ o, RdB W rb g o l.length b last ∧ ∀ i c, l[i]? = some c → W.cell? ⟨g, o + i, none⟩ = some (.int .u8 (c.toNat : Nat))
 bel : Below rb w W
 ne : g < rb
theorem RdB.lt {W : World} {rb g o n b : Nat} {last : Int} (h : RdB W rb g o n b last) : rb < W.heap.size := lt_of_heap h
theorem Rdr.lt {w W : World} {rb b g : Nat} {last : Int} {l : List UInt8} (h : Rdr w rb b g last W l) : rb < W.heap.size := by
 obtain ⟨o, h1, _⟩ := h.ex
 exact h1.lt
theorem set_farV {W : World} {rb : Nat} {v : Value} {j : Nat} (h : j ≠ rb) : (W.setCell ⟨rb, 0, none⟩ v).heap[j]? = W.heap[j]? := by
 have h' : ¬ rb = j := fun e => h e.symm
 simp [World.setCell, Array.getElem?_modify, h']
theorem setCell_grown {W : World} {rb : Nat} {v : Value} : W.grownBy (W.setCell ⟨rb, 0, none⟩ v) (some rb) :=
 ⟨rfl, rfl, rfl, by simp [World.setCell], fun j _ hj => set_farV (fun e => hj (by rw [e]))⟩
theorem Rdr.step {w W : World} {rb b g o o' m : Nat} {last : Int} {l : List UInt8} (h : Rdr w rb b g last W l) (hB : RdB W rb g o l.length b last) (hl : ∀ i c, l[i]? = some c → W.cell? ⟨g, o + i, none⟩ = some (.int .u8 (c.toNat : Nat))) (hm : m ≤ l.length) (ho : m < l.length → o' = o + m) :
  Rdr w rb b g last (W.setCell ⟨rb, 0, none⟩ (.slice (some ⟨g, o', none⟩) (l.length - m) (l.length - m))) (l.drop m) := by
 have hb : Below rb W (W.setCell ⟨rb, 0, none⟩ (.slice (some ⟨g, o', none⟩) (l.length - m) (l.length - m))) := (Below.refl rb W).setCell (p := ⟨rb, 0, none⟩) (Nat.le_refl _) _
 refine ⟨⟨o', ?_, fun i c hi => ?_⟩, h.bel.trans hb, h.ne⟩
 ·unfold RdB at hB ⊢
  rw [List.length_drop]
  simp [World.setCell, Array.getElem?_modify, hB]
 ·rw [List.getElem?_drop] at hi
  have hlt := (List.getElem?_eq_some_iff.1 hi).1
  have h1 := hl _ _ hi
  have e : o' + i = o + (m + i) := by have := ho (by omega); omega
  rw [e]
  exact (hb.cell (p := ⟨g, o + (m + i), none⟩) h.ne).trans h1
/-- cut, of what a reader has before it. -/
def CutE (w : World) (rb b g m : Nat) (last : Int) (l : List UInt8) (W : World) (e : Ending) (w' : World) : Prop := if m ≤ l.length then (∃ o, e = .returned (.slice (some ⟨g, o, none⟩) m m) ∧ (∀ i c, l[i]? = some c → w'.cell? ⟨g, o + i, none⟩ = some (.int .u8 (c.toNat : Nat)))) ∧ Rdr w rb b g last w' (l.drop m) ∧ W.grownBy w' (some rb)
 else e = Fault ∧ w' = W
theorem cutE_any (w : World) (rb b g m : Nat) (last : Int) (l : List UInt8) (hl : l.length ≤ 100000000) (hm : m < 18446744073709551616) (W : World) (h : Rdr w rb b g last W l) : Calls Tryz.prog 89 #[.pointer (some ⟨rb, 0, none⟩), .int .u64 (m : Nat)] W (CutE w rb b g m last l W) := by
 obtain ⟨o, hB, hc⟩ := h.ex
 refine (cut_walk rb g o l.length b m last hl hm W hB).mono ?_
 intro e w' he
 unfold CutEnds at he
 unfold CutE
 by_cases hmn : m ≤ l.length
 ·rw [if_pos hmn] at he ⊢
  obtain ⟨rfl, o', ho, rfl⟩ := he
  refine ⟨⟨o, rfl, fun i c hi => ?_⟩, h.step hB hc hmn ho, setCell_grown⟩
  exact (((Below.refl rb W).setCell (p := ⟨rb, 0, none⟩) (Nat.le_refl _) _).cell (p := ⟨g, o + i, none⟩) h.ne).trans (hc i c hi)
 ·rw [if_neg hmn] at he ⊢
  exact he
theorem and127f : ∀ r : Fin 256, bits .and .u8 ((r.val : Nat) : Int) 127 = ((r.val % 128 : Nat) : Int) := by decide +kernel
theorem or_add {acc X k : Nat} (h : acc < 128 ^ k) (lo : Nat) (hX : X = lo * 128 ^ k) : acc ||| X = acc + X := by
 have e : (128 : Nat) ^ k = 2 ^ (7 * k) := by rw [show (128 : Nat) = 2 ^ 7 from rfl, ← Nat.pow_mul]
 rw [e] at h hX
 have := Nat.two_pow_add_eq_or_of_lt h lo
 rw [hX, Nat.mul_comm lo, Nat.or_comm, ← this]
 omega
/-- How number ends. -/
def NumE (w : World) (rb b g : Nat) (last : Int) (r : Option (Nat × List UInt8)) (W : World) (e : Ending) (w' : World) : Prop := (match r with
 | some (v, l') => e = .returned (.int .u64 (v : Nat)) ∧ Rdr w rb b g last w' l'
 | none => e = Fault ∧ ∃ l', Rdr w rb b g last w' l') ∧ W.grownBy w' (some rb)
set_option maxRecDepth 100000 in
set_option maxHeartbeats 4000000 in
theorem onumber_any (w : World) (rb b g : Nat) (last : Int) (l : List UInt8) (hl : l.length ≤ 100000000) (W : World) (h : Rdr w rb b g last W l) : Calls Tryz.prog 91 #[.pointer (some ⟨rb, 0, none⟩)] W (NumE w rb b g last (numO 0 0 l) W) := by
 obtain ⟨RE, hre⟩ : ∃ RE, numO 0 0 l = RE := ⟨_, rfl⟩
 have HRE := Lib.hid hre
 rw [hre]
 clear hre
 go_enter Tryz.func91, Tryz.ntmps91
 go_wp2_with fail
 go_loopw [3, 4] (fun nv sv wr => ∃ (k acc s : Nat) (l' : List UInt8), nv = .int .u64 (acc : Nat) ∧ sv = .int .i64 (s : Nat) ∧ s = 7 * k ∧ k ≤ 10 ∧ acc < 128 ^ k ∧ l'.length ≤ 100000000 ∧ numO k acc l' = RE ∧ Rdr w rb b g last wr l' ∧ W.grownBy wr (some rb)) (fun _ sv _ => 78 - (intOf sv).toNat)
 case atStart => exact ⟨0, 0, 0, l, rfl, rfl, rfl, by omega, by decide, hl, HRE.out, h, World.grownBy.refl _ _⟩
 case round =>
  clear h
  obtain ⟨k, acc, s, l', rfl, rfl, hs, hk, hacc, hl', hnum, hR, hG⟩ := hrel
  have HS := Lib.hid hs
  have HACC := Lib.hid hacc
  have HNUM := Lib.hid hnum
  have hs70 : s ≤ 70 := by omega
  clear hs hacc hnum
  go_wp2_with fail
  refine (cutE_any w rb b g 1 last l' hl' (by decide) _ hR).mono ?_
  intro e w1 he
  unfold CutE at he
  rcases l' with _ | ⟨c, r⟩
  ·rw [if_neg (by simp)] at he
   obtain ⟨rfl, rfl⟩ := he
   obtain rfl : RE = none := by rw [← HNUM.out, numO]
   refine ⟨rfl, ?_⟩
   exact ⟨⟨rfl, _, hR⟩, hG⟩
  ·rw [if_pos (by simp)] at he
   obtain ⟨⟨o, rfl, hc⟩, hR1, hG1⟩ := he
   have c0 := hc 0 c rfl
   rw [Nat.add_zero] at c0
   have hG2 := hG.trans hG1
   obtain ⟨cn, hcn⟩ : ∃ cn, c.toNat = cn := ⟨_, rfl⟩
   have hcl := u8_lt c
   rw [hcn] at c0 hcl
   obtain ⟨lo, hlo⟩ : ∃ lo, cn % 128 = lo := ⟨_, rfl⟩
   have hlo2 : lo < 128 := by omega
   have hand : bits .and .u8 (cn : Int) 127 = (lo : Int) := by rw [← hlo]; exact and127f ⟨cn, hcl⟩
   have hlw : IntKind.u64.wrap (lo : Int) = (lo : Int) := by
    rw [IntKind.wrap_u64]
    omega
   have HSTEP : Hid (RE = if 9 < k ∨ (k = 9 ∧ 1 < lo) then none else if 128 ≤ cn then numO (k + 1) (acc + lo * 128 ^ k) r else if cn = 0 ∧ 0 < k then none else some (acc + lo * 128 ^ k, r)) := by
    show _ = _
    rw [← HNUM.out, numO, hcn, hlo]
   have HR1 : Hid (Rdr w rb b g last w1 r) := hR1
   have HLO := Lib.hid hlo
   have HCN := Lib.hid hcn
   have hrl : r.length ≤ 100000000 := by simp at hl'; omega
   clear hc hR hG hG1 hR1 hlo hcn HNUM hl'
   by_cases hbad : 9 < k ∨ (k = 9 ∧ 1 < lo)
   ·obtain rfl : RE = none := by rw [HSTEP.out, if_pos hbad]
    by_cases h9 : 9 < k
    ·have hd1 : decide (63 < (s : Int)) = true := by have := HS.out; simp; omega
     clear hbad h9
     go_wp2_with fail
     refine (raise_any _).mono ?_
     rintro e w2 ⟨rfl, rfl⟩
     refine ⟨rfl, ?_⟩
     exact ⟨⟨rfl, _, HR1.out⟩, hG2⟩
    ·have hd1 : decide (63 < (s : Int)) = false := by have := HS.out; simp; omega
     have hd2 : ((s : Int) == 63) = true := by have := HS.out; simp; omega
     have hd3 : decide (1 < (lo : Int)) = true := by simp; omega
     clear hbad h9
     go_wp2_with fail
     refine (raise_any _).mono ?_
     rintro e w2 ⟨rfl, rfl⟩
     refine ⟨rfl, ?_⟩
     exact ⟨⟨rfl, _, HR1.out⟩, hG2⟩
   ·have hk9 : k ≤ 9 := by omega
    have hd1 : decide (63 < (s : Int)) = false := by have := HS.out; simp; omega
    have hs63 : s ≤ 63 := by have := HS.out; omega
    obtain ⟨X, hX⟩ : ∃ X, lo * 128 ^ k = X := ⟨_, rfl⟩
    have hXb : X < 18446744073709551616 ∧ acc + X < 18446744073709551616 := by
     have ha := HACC.out
     rcases Nat.lt_or_ge k 9 with h | h
     ·have h1 := pow_le9 (k := k) (by omega)
      have h2 : lo * 128 ^ k ≤ 127 * 72057594037927936 := Nat.mul_le_mul (by omega) h1
      omega
     ·have hk : k = 9 := by omega
      subst hk
      rw [pow9] at ha hX
      have : lo * 9223372036854775808 ≤ 1 * 9223372036854775808 := Nat.mul_le_mul_right _ (by omega)
      omega
    have hsw : IntKind.u64.wrap ((lo : Int) * 2 ^ s) = (X : Int) := by
     have e : (128 : Nat) ^ k = 2 ^ s := by rw [HS.out, show (128 : Nat) = 2 ^ 7 from rfl, ← Nat.pow_mul]
     have e2 : (lo : Int) * 2 ^ s = ((X : Nat) : Int) := by
      rw [← hX, e]
      push_cast
      rfl
     rw [e2, IntKind.wrap_u64]
     omega
    have hor : bits .or .u64 (acc : Int) (X : Int) = ((acc + X : Nat) : Int) := by
     rw [u64_or_nat acc X (by omega) (by omega), or_add HACC.out lo hX.symm]
    obtain ⟨Y, hY⟩ : ∃ Y, acc + X = Y := ⟨_, rfl⟩
    rw [hY] at hor hXb
    have HYY : Hid (acc + lo * 128 ^ k = Y) := by show _ = _; rw [hX, hY]
    have hYb : Y < 18446744073709551616 := hXb.2
    have hX2 : X < 18446744073709551616 := hXb.1
    have HACN : Hid (lo * 128 ^ k < 128 ^ (k + 1)) := by
     show _ < _
     rw [Nat.pow_succ, Nat.mul_comm (128 ^ k)]
     exact Nat.mul_lt_mul_of_pos_right hlo2 (pow_pos k)
    have HYP : Hid (Y < 128 ^ (k + 1)) := by
     show _ < _
     have h1 := HACC.out
     have h2 := HYY.out
     have h3 : (lo + 1) * 128 ^ k ≤ 128 * 128 ^ k := Nat.mul_le_mul_right _ hlo2
     rw [Nat.add_mul, Nat.one_mul] at h3
     rw [Nat.pow_succ, Nat.mul_comm (128 ^ k)]
     omega
    have HNX : Hid (RE = if 128 ≤ cn then numO (k + 1) Y r else if cn = 0 ∧ 0 < k then none else some (Y, r)) := by
     show _ = _
     rw [HSTEP.out, if_neg hbad, HYY.out]
    clear hX hXb hY HSTEP HACN
    have HT : (k = 9 ∧ ¬ 1 < lo) ∨ k < 9 := by omega
    by_cases hb128 : 128 ≤ cn
    ·have hq1 : decide (128 ≤ (cn : Int)) = true := by simp; omega
     have HN2 : Hid (numO (k + 1) Y r = RE) := by show _ = _; rw [HNX.out, if_pos hb128]
     clear hb128
     rcases HT with ⟨h9, hl1⟩ | h9
     ·have hd2 : ((s : Int) == 63) = true := by have := HS.out; simp; omega
      have hd3 : decide (1 < (lo : Int)) = false := by simp; omega
      clear hbad hl1
      go_wp2_with fail
      go_roundw
      case rel => first | exact ⟨k + 1, Y, s + 7, r, rfl, by go_num, by have := HS.out; omega, by omega, HYP.out, hrl, HN2.out, HR1.out, hG2⟩ | ((repeat apply Exists.intro); exact ⟨⟨k + 1, Y, s + 7, r, rfl, by go_num, by have := HS.out; omega, by omega, HYP.out, hrl, HN2.out, HR1.out, hG2⟩, rfl⟩)
      case measure => simp [intOf]; omega
     ·have hd2 : ((s : Int) == 63) = false := by have := HS.out; simp; omega
      clear hbad
      go_wp2_with fail
      go_roundw
      case rel => first | exact ⟨k + 1, Y, s + 7, r, rfl, by go_num, by have := HS.out; omega, by omega, HYP.out, hrl, HN2.out, HR1.out, hG2⟩ | ((repeat apply Exists.intro); exact ⟨⟨k + 1, Y, s + 7, r, rfl, by go_num, by have := HS.out; omega, by omega, HYP.out, hrl, HN2.out, HR1.out, hG2⟩, rfl⟩)
      case measure => simp [intOf]; omega
    ·have hq1 : decide (128 ≤ (cn : Int)) = false := by simp; omega
     by_cases h0 : cn = 0
     ·have hq2 : ((cn : Int) == 0) = true := by simp; omega
      by_cases hk0 : 0 < k
      ·obtain rfl : RE = none := by rw [HNX.out, if_neg hb128, if_pos ⟨h0, hk0⟩]
       have hq3 : decide (0 < (s : Int)) = true := by have := HS.out; simp; omega
       have hq4 : decide (0 < s) = true := by have := HS.out; simp; omega
       clear hb128 h0
       rcases HT with ⟨h9, hl1⟩ | h9
       ·have hd2 : ((s : Int) == 63) = true := by have := HS.out; simp; omega
        have hd3 : decide (1 < (lo : Int)) = false := by simp; omega
        clear hbad hl1
        go_wp2_with fail
        refine (raise_any _).mono ?_
        rintro e w2 ⟨rfl, rfl⟩
        refine ⟨rfl, ?_⟩
        exact ⟨⟨rfl, _, HR1.out⟩, hG2⟩
       ·have hd2 : ((s : Int) == 63) = false := by have := HS.out; simp; omega
        clear hbad
        go_wp2_with fail
        refine (raise_any _).mono ?_
        rintro e w2 ⟨rfl, rfl⟩
        refine ⟨rfl, ?_⟩
        exact ⟨⟨rfl, _, HR1.out⟩, hG2⟩
      ·obtain rfl : RE = some (Y, r) := by rw [HNX.out, if_neg hb128, if_neg (by omega)]
       have hq3 : decide (0 < (s : Int)) = false := by have := HS.out; simp; omega
       have hq4 : decide (0 < s) = false := by have := HS.out; simp; omega
       have hd2 : ((s : Int) == 63) = false := by have := HS.out; simp; omega
       clear hb128 h0 hbad HT
       go_wp2_with fail
       go_ret
       exact ⟨⟨rfl, HR1.out⟩, hG2⟩
     ·obtain rfl : RE = some (Y, r) := by rw [HNX.out, if_neg hb128, if_neg (by omega)]
      have hq2 : ((cn : Int) == 0) = false := by simp; omega
      clear hb128 h0
      rcases HT with ⟨h9, hl1⟩ | h9
      ·have hd2 : ((s : Int) == 63) = true := by have := HS.out; simp; omega
       have hd3 : decide (1 < (lo : Int)) = false := by simp; omega
       clear hbad hl1
       go_wp2_with fail
       go_ret
       exact ⟨⟨rfl, HR1.out⟩, hG2⟩
      ·have hd2 : ((s : Int) == 63) = false := by have := HS.out; simp; omega
       clear hbad
       go_wp2_with fail
       go_ret
       exact ⟨⟨rfl, HR1.out⟩, hG2⟩
end Go.Proofs.YtjldbbcdhdfliaaGreatDoor
/-
 Walks over package trace: reader's atLeast.
-/
namespace Go.Proofs.YtjldbbcdhdfliaaGreatDoor
open Go.RowKit Go.Sort

def atG (ls : Nat) (o : Option (Nat × List UInt8)) : Option (Int × List UInt8) := match o with
 | some (v, r) => if v ≤ 9223372036854775807 + ls then some ((v : Int) - ls, r) else none
 | none => none
/-- The next number, stored as its difference from the least one, -ls. -/
def atD (ls : Nat) (l : List UInt8) : Option (Int × List UInt8) := atG ls (numO 0 0 l)
/-- How atLeast ends. -/
def AtE (w : World) (rb b g : Nat) (last : Int) (r : Option (Int × List UInt8)) (W : World) (e : Ending) (w' : World) : Prop := (match r with
 | some (v, l') => e = .returned (.int .i64 v) ∧ Rdr w rb b g last w' l'
 | none => e = Fault ∧ ∃ l', Rdr w rb b g last w' l') ∧ W.grownBy w' (some rb)
theorem wrapA {v : Nat} (h : v ≤ 9223372036854775808) : IntKind.i64.wrap (IntKind.u64.wrap ((v : Int) - 1)) = (v : Int) - 1 := by
 rw [IntKind.wrap_u64]
 rcases Nat.eq_zero_or_pos v with h0 | h0
 ·subst h0
  decide
 ·rw [Int.emod_eq_of_lt (by omega) (by omega)]
  exact IntWalk.i64_in _ (by omega)
set_option maxRecDepth 100000 in
set_option maxHeartbeats 2000000 in
theorem atLeast_any (w : World) (rb b g : Nat) (last : Int) (ls : Nat) (hls : ls = 0 ∨ ls = 1) (l : List UInt8) (hl : l.length ≤ 100000000) (W : World) (h : Rdr w rb b g last W l) : Calls Tryz.prog 90 #[.pointer (some ⟨rb, 0, none⟩), .int .i64 (-(ls : Int))] W (AtE w rb b g last (atD ls l) W) := by
 have hno := onumber_any w rb b g last l hl W h
 obtain ⟨RN, hrn⟩ : ∃ RN, numO 0 0 l = RN := ⟨_, rfl⟩
 rw [hrn] at hno
 obtain ⟨R, hR⟩ : ∃ R, atD ls l = R := ⟨_, rfl⟩
 have HR : Hid (R = atG ls RN) := by
  show _ = _
  rw [← hR, atD, hrn]
 have hvb : ∀ v r, RN = some (v, r) → v < 18446744073709551616 := fun v r e => (num_iff.1 (hrn.trans e)).2
 rw [hR]
 have HNO := Lib.hid hno
 clear hno hR hrn h
 rcases RN with _ | ⟨v, r⟩
 ·obtain rfl : R = none := HR.out
  clear hvb
  rcases hls with rfl | rfl
  all_goals
   go_enter Tryz.func90, Tryz.ntmps90
   go_wp2_with fail
   refine HNO.out.mono ?_
   rintro e w1 ⟨⟨rfl, hl1⟩, hg⟩
   exact ⟨rfl, ⟨rfl, hl1⟩, hg⟩
 ·have hv := hvb v r rfl
  clear hvb
  rcases hls with rfl | rfl
  ·by_cases hbig : v ≤ 9223372036854775807
   ·obtain rfl : R = some ((v : Int), r) := by
     rw [HR.out]
     unfold atG
     dsimp only
     rw [if_pos (by omega)]
     simp
    have hd : decide (9223372036854775807 < (v : Int)) = false := by simp; omega
    clear HR
    go_enter Tryz.func90, Tryz.ntmps90
    go_wp2_with fail
    refine HNO.out.mono ?_
    rintro e w1 ⟨⟨rfl, hR1⟩, hg⟩
    go_wp2_with fail
    go_ret
    exact ⟨⟨rfl, hR1⟩, hg⟩
   ·obtain rfl : R = none := by
     rw [HR.out]
     unfold atG
     dsimp only
     rw [if_neg (by omega)]
    have hd : decide (9223372036854775807 < (v : Int)) = true := by simp; omega
    clear HR
    go_enter Tryz.func90, Tryz.ntmps90
    go_wp2_with fail
    refine HNO.out.mono ?_
    rintro e w1 ⟨⟨rfl, hR1⟩, hg⟩
    go_wp2_with fail
    refine (raise_any _).mono ?_
    rintro e w2 ⟨rfl, rfl⟩
    refine ⟨rfl, ?_⟩
    exact ⟨⟨rfl, _, hR1⟩, hg⟩
  ·by_cases hbig : v ≤ 9223372036854775808
   ·obtain rfl : R = some ((v : Int) - 1, r) := by
     rw [HR.out]
     unfold atG
     dsimp only
     rw [if_pos (by omega)]
     rfl
    have hd : decide (9223372036854775808 < (v : Int)) = false := by simp; omega
    have hwr := wrapA hbig
    clear HR
    go_enter Tryz.func90, Tryz.ntmps90
    go_wp2_with fail
    refine HNO.out.mono ?_
    rintro e w1 ⟨⟨rfl, hR1⟩, hg⟩
    go_wp2_with fail
    go_ret
    exact ⟨⟨by first | rfl | rw [hwr], hR1⟩, hg⟩
   ·obtain rfl : R = none := by
     rw [HR.out]
     unfold atG
     dsimp only
     rw [if_neg (by omega)]
    have hd : decide (9223372036854775808 < (v : Int)) = true := by simp; omega
    clear HR
    go_enter Tryz.func90, Tryz.ntmps90
    go_wp2_with fail
    refine HNO.out.mono ?_
    rintro e w1 ⟨⟨rfl, hR1⟩, hg⟩
    go_wp2_with fail
    refine (raise_any _).mono ?_
    rintro e w2 ⟨rfl, rfl⟩
    refine ⟨rfl, ?_⟩
    exact ⟨⟨rfl, _, hR1⟩, hg⟩
end Go.Proofs.YtjldbbcdhdfliaaGreatDoor
