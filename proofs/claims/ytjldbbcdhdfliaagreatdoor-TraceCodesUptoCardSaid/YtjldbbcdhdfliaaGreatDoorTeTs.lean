/-
 A row of bytes that is being made; what appending keeps.
-/
import Derived.Test.YtjldbbcdhdfliaaGreatDoorTd
import Derived.Deep.AppendLies
import Derived.Lib.AppendStr
import Derived.Lib.AppendIntMem
import Derived.Lib.OthersKept
import Derived.IntWalk
namespace Go.Proofs.YtjldbbcdhdfliaaGreatDoor
open Go.RowKit

/-- A slice that owns bytes. -/
def Byt (B : Nat) (w : World) (v : Value) (l : List UInt8) : Prop := w.ownsRow B 5 1 v l.length (Lib.byteCells l)
/-- Below B nothing has turned; no block that is no row of bytes has. -/
structure Kp (B : Nat) (w w' : World) : Prop where
 b : Below B w w'
 k : ∀ (g : Nat) (cs : Array Value) (t : TypeId) (fr : Nat × Nat), w.heap[g]? = some (Obj.cells cs t fr) → t ≠ 5 → w'.heap[g]? = some (Obj.cells cs t fr)
section
variable {B : Nat} {w w' w2 : World} {v : Value} {l : List UInt8}
theorem Kp.refl (B : Nat) (w : World) : Kp B w w := ⟨Below.refl _ _, fun _ _ _ _ h _ => h⟩
theorem Kp.trans (h : Kp B w w') (h2 : Kp B w' w2) : Kp B w w2 := ⟨h.b.trans h2.b, fun g cs t fr e ht => h2.k g cs t fr (h.k g cs t fr e ht) ht⟩
theorem Kp.all (hB : B ≤ w.heap.size) (hb : Below w.heap.size w w') : Kp B w w' := ⟨hb.mono hB, fun g _cs _t _fr e _ => (hb.block g (lt_of_heap e)).trans e⟩
theorem Byt.nil (B : Nat) (w : World) : Byt B w (.slice none 0 0) [] := ⟨rfl, .inl ⟨rfl, rfl⟩⟩
theorem Byt.block (h : Byt B w v l) : v = .slice none 0 0 ∨ ∃ g n cap cur, v = .slice (some ⟨g, 0, none⟩) n cap ∧ B ≤ g ∧ w.heap[g]? = some (.cells cur 5 (0, 0)) := by
 rcases h.2 with ⟨h1, _⟩ | ⟨g, cap, cur, h1, h2, h3, _⟩
 ·exact .inl h1
 ·exact .inr ⟨g, _, cap, cur, h1, h2, h3⟩
theorem Byt.form (h : Byt B w v l) : ∃ a n cap, v = .slice a n cap := by
 rcases h.block with h | ⟨g, n, cap, cur, h, _⟩
 ·exact ⟨_, _, _, h⟩
 ·exact ⟨_, _, _, h⟩
theorem Byt.below (h : Byt B w v l) (hb : Below w.heap.size w w') : Byt B w' v l := by
 obtain ⟨h1, h2⟩ := h
 refine ⟨h1, ?_⟩
 rcases h2 with h2 | ⟨g, cap, cur, e1, e2, e3, e4⟩
 ·exact .inl h2
 ·exact .inr ⟨g, cap, cur, e1, e2, (hb.block g (lt_of_heap e3)).trans e3, e4⟩
theorem Kp.grown (h : Byt B w v l) (hB : B ≤ w.heap.size) (hg : w.grownBy w' v.ownBlock) : Kp B w w' := by
 refine ⟨⟨hg.os, hg.tape, hg.output, hg.size, fun k hk => hg.block k (by omega) ?_⟩, fun g cs t fr e ht => (hg.block g (lt_of_heap e) ?_).trans e⟩
 ·intro e
  rcases h.block with rfl | ⟨g, n, cap, cur, rfl, h2, h3⟩
  ·cases e
  ·have : k = g := by simpa [Value.ownBlock] using e
   omega
 ·intro e2
  rcases h.block with rfl | ⟨g', n, cap, cur, rfl, h2, h3⟩
  ·cases e2
  ·have : g = g' := by simpa [Value.ownBlock] using e2
   subst this
   rw [e] at h3
   injection h3 with h3
   injection h3 with _ h3 _
   exact ht h3
theorem Kp.others (hb : Below B w w') (h : Lib.OthersKept 5 none w w') : Kp B w w' := by
 refine ⟨hb, fun g cs t fr e ht => h g _ e (by simp) fun c fz he => ?_⟩
 injection he with _ h2 _
 exact ht h2
theorem Kp.size (h : Kp B w w') : w.heap.size ≤ w'.heap.size := h.b.size
end
theorem bytes_app (a b : List UInt8) : Lib.byteCells (a ++ b) = Lib.byteCells a ++ Lib.byteCells b := by unfold Lib.byteCells; exact List.map_append
theorem u8_info : (Tryz.prog.info? 5).map (fun i => (i.zero, i.size, i.bytes)) = some (some (.int .u8 0), 1, 1) := by kernel_rfl
section
variable {ops : Array Oper} {rest : List Oper} {o : Oper} {a : Act} {Q : Exit → Act → World → Prop}
/-- append(b, c). -/
theorem wpList_app1 (w : World) (hgd : o.guard = none) (s x : Operand) (ho : o.op = .call { callee := .builtin .append, args := #[s, x], argTypes := #[55, 55] })
  (B : Nat) (bv : Value) (l : List UInt8) (hs : a.eval s = bv) (hrow : Byt B w bv l) (g : Nat) (c : UInt8) (hx : a.eval x = .slice (some ⟨g, 0, none⟩) 1 1) (hg : w.heap[g]? = some (.cells #[.int .u8 (c.toNat : Nat)] 5 (0, 0)))
  (hl : l.length ≤ 100000000000) (hB : B ≤ w.heap.size) (h : ∀ v' w', Byt B w' v' (l ++ [c]) → Kp B w w' → wpList Tryz.prog ops Q rest (a.put o.dst v') w') : wpList Tryz.prog ops Q (o :: rest) a w := by
 obtain ⟨i0, hi0, hz0, hz1, hz2⟩ := info_parts u8_info
 refine wpList_append_lies w hgd s x 55 ho B 5 i0 _ 1 1 Tryz.underlying55 hi0 hz0 hz1 hz2 rfl (by decide) bv l.length (Lib.byteCells l) hs hrow ⟨g, 0, none⟩ 1 1 [.int .u8 (c.toNat : Nat)] hx rfl (World.news_of_block hg) (by intro u hu; simp at hu; subst hu; rfl) (by omega) (by unfold maxLen; omega) (by omega) hB _ rfl ?_
 intro g' cap w' hown hgrow _ _
 refine h _ w' ?_ (Kp.grown hrow hB hgrow)
 unfold Byt
 rw [bytes_app, List.length_append]
 exact hown
/-- append(b, s...), s a string. -/
theorem wpList_appS (w : World) (hgd : o.guard = none) (sl x : Operand) (ho : o.op = .call { callee := .builtin .append, args := #[sl, x], argTypes := #[55, 9] })
  (B : Nat) (bv : Value) (l : List UInt8) (hs : a.eval sl = bv) (hrow : Byt B w bv l) (s : ByteArray) (hx : a.eval x = .string s) (hz : s.size ≤ 1000000000)
  (hl : l.length ≤ 100000000000) (hB : B ≤ w.heap.size) (h : ∀ v' w', Byt B w' v' (l ++ s.data.toList) → Kp B w w' → wpList Tryz.prog ops Q rest (a.put o.dst v') w') : wpList Tryz.prog ops Q (o :: rest) a w := by
 obtain ⟨i0, hi0, hz0, hz1, hz2⟩ := info_parts u8_info
 refine Lib.wpList_append_own_string w hgd sl x 55 9 ho B 5 i0 Tryz.underlying55 Tryz.underlying9 hi0 hz0 hz1 hz2 bv l.length (Lib.byteCells l) hs hrow s hx (by unfold maxLen; omega) (by omega) hB ?_
 intro v' w' hown hgrow _
 refine h _ w' ?_ (Kp.grown hrow hB hgrow)
 unfold Byt
 rw [bytes_app, List.length_append]
 have : s.data.toList.length = s.size := by simp
 rw [this]
 exact hown
end
/-- AppendInt, base 10. -/
theorem appendInt_any (B : Nat) (i : Int) (hi : Rng i) (bv : Value) (l : List UInt8) (w : World) (hrow : Byt B w bv l) (hB : B ≤ w.heap.size) (hB5 : 5 ≤ B) (hl : l.length ≤ 100000000000) (hE : Env w) :
  Calls Tryz.prog 83 #[bv, .int .i64 i, .int .i64 10] w fun e w' => ∃ v', e = .returned v' ∧ Byt B w' v' (l ++ Lib.itoa i) ∧ Kp B w w' := by
 refine (Tryz.strconv_AppendInt_10 B l.length i hi.1 hi.2 bv (Lib.byteCells l) w hrow hB (by omega) (fun w' hb => (hE.below hb hB5).tab)).mono ?_
 rintro e w' ⟨v', rfl, h1, h2, h3⟩
 refine ⟨v', rfl, ?_, Kp.others h2 h3⟩
 unfold Byt
 rw [bytes_app, List.length_append]
 exact h1
end Go.Proofs.YtjldbbcdhdfliaaGreatDoor
/-
 Walks over package trace: put.
-/
namespace Go.Proofs.YtjldbbcdhdfliaaGreatDoor
open Go.RowKit Go.Sort

/-- The bytes of a number. -/
def leb (n : Nat) : List UInt8 := if n < 128 then [UInt8.ofNat n] else UInt8.ofNat (n % 128 + 128) :: leb (n / 128)
termination_by n
decreasing_by omega
theorem or128f : ∀ r : Fin 256, bits .or .u8 ((r.val : Nat) : Int) 128 = ((r.val % 128 + 128 : Nat) : Int) := by decide +kernel
theorem or128 (m : Nat) : bits .or .u8 ((m : Int) % 256) 128 = (((UInt8.ofNat (m % 128 + 128)).toNat : Nat) : Int) := by
 have h := or128f ⟨m % 256, by omega⟩
 have e1 : ((m % 256 : Nat) : Int) = (m : Int) % 256 := by omega
 have e2 : (UInt8.ofNat (m % 128 + 128)).toNat = m % 128 + 128 := by
  simp
  omega
 dsimp only at h
 rw [e1] at h
 rw [h, e2]
 omega
theorem leb_big {m : Nat} (h : 128 ≤ m) : leb m = UInt8.ofNat (m % 128 + 128) :: leb (m / 128) := by
 rw [leb, if_neg (by omega)]
theorem leb_small {m : Nat} (h : m < 128) : leb m = [UInt8.ofNat m] := by
 rw [leb, if_pos h]
theorem leb_lenK : ∀ (k n : Nat), n < 128 ^ (k + 1) → (leb n).length ≤ k + 1
 | 0, n, h => by
  rw [leb_small (by simpa using h)]
  simp
 | k + 1, n, h => by
  by_cases hb : 128 ≤ n
  ·rw [leb_big hb]
   have h2 : n / 128 < 128 ^ (k + 1) := by
    rw [Nat.div_lt_iff_lt_mul (by omega)]
    rw [Nat.pow_succ] at h
    exact h
   have := leb_lenK k (n / 128) h2
   simp
   omega
  ·rw [leb_small (by omega)]
   simp
theorem leb_len {n : Nat} (h : n < 18446744073709551616) : (leb n).length ≤ 10 := leb_lenK 9 n (by omega)
set_option maxRecDepth 100000 in
set_option maxHeartbeats 2000000 in
theorem put_any (B : Nat) (n : Nat) (hn : n < 18446744073709551616) (bv : Value) (l : List UInt8) (w : World) (hrow : Byt B w bv l) (hB : B ≤ w.heap.size) (hl : l.length ≤ 10000000000) :
  Calls Tryz.prog 92 #[bv, .int .u64 (n : Nat)] w fun e w' => ∃ v', e = .returned v' ∧ Byt B w' v' (l ++ leb n) ∧ Kp B w w' := by
 obtain ⟨ba, bn, bc, rfl⟩ := hrow.form
 go_enter Tryz.func92, Tryz.ntmps92
 go_wp2_with fail
 go_loopw [0, 1] (fun v x wr => ∃ (m : Nat) (l' : List UInt8), x = .int .u64 (m : Nat) ∧ m ≤ n ∧ Byt B wr v l' ∧ Kp B w wr ∧ l' ++ leb m = l ++ leb n ∧ l'.length ≤ l.length + 10) (fun _ x _ => (intOf x).toNat)
 case atStart => exact ⟨n, l, rfl, Nat.le_refl _, hrow, Kp.refl _ _, rfl, by omega⟩
 case round =>
  clear hrow
  obtain ⟨m, l', rfl, hm, hrow, hkp, hle, hll⟩ := hrel
  have hlen := congrArg List.length hle
  have hln := leb_len hn
  simp only [List.length_append] at hlen
  have hl2 : l'.length + (leb m).length ≤ l.length + 10 := by omega
  have HLE := Lib.hid hle
  clear hle hlen hln
  obtain ⟨ba2, bn2, bc2, rfl⟩ := hrow.form
  by_cases hlt : 128 ≤ m
  ·have hd1 : decide (128 ≤ m) = true := by simpa using hlt
   have hd2 : decide (128 ≤ (m : Int)) = true := by simp; omega
   have hor := or128 m
   have HLB := Lib.hid (leb_big hlt)
   obtain ⟨c, hc⟩ : ∃ c, UInt8.ofNat (m % 128 + 128) = c := ⟨_, rfl⟩
   rw [hc] at hor
   have HC := Lib.hid hc
   clear hc
   have hrow2 := hrow.below (below_alloc wr (.cells #[.int .u8 (c.toNat : Nat)] 5))
   have hk2 := hkp.trans (Kp.all (B := B) (Nat.le_trans hB hkp.size) (below_alloc wr (.cells #[.int .u8 (c.toNat : Nat)] 5)))
   have hsz := hkp.size
   go_wp2_with (at_builtin; refine wpList_app1 _ rfl (.tmp 9) (.tmp 13) rfl B _ l' rfl hrow2 _ c rfl (heap_alloc_new _ _) (by omega) (by simp; omega) ?_; intro v9 w9 hb9 hk9)
   have HD : Hid ((l' ++ [c]) ++ leb (m / 128) = l ++ leb n) := by
    show _ = _
    rw [← HLE.out, HLB.out, HC.out]
    simp
   have hl3 : (l' ++ [c]).length ≤ l.length + 10 := by
    have := congrArg List.length HLB.out
    simp at this ⊢
    omega
   go_roundw
   case rel => exact ⟨m / 128, l' ++ [c], by congr 1, by omega, hb9, hk2.trans hk9, HD.out, hl3⟩
   case measure => simp [intOf]; omega
  ·have hd1 : decide (128 ≤ m) = false := by simpa using hlt
   have hd2 : decide (128 ≤ (m : Int)) = false := by simp; omega
   have HLB := Lib.hid (leb_small (m := m) (by omega))
   obtain ⟨c, hc⟩ : ∃ c, UInt8.ofNat m = c := ⟨_, rfl⟩
   have hcm : c.toNat = m := by rw [← hc]; simp; omega
   have HC := Lib.hid hc
   have hg : (wr.alloc (.cells #[.int .u8 (m : Nat)] 5)).heap[wr.heap.size]? = some (.cells #[.int .u8 (c.toNat : Nat)] 5 (0, 0)) := by rw [hcm]; exact heap_alloc_new _ _
   have HG := Lib.hid hg
   clear hc hcm hg
   have hrow2 := hrow.below (below_alloc wr (.cells #[.int .u8 (m : Nat)] 5))
   have hk2 := hkp.trans (Kp.all (B := B) (Nat.le_trans hB hkp.size) (below_alloc wr (.cells #[.int .u8 (m : Nat)] 5)))
   have hsz := hkp.size
   go_wp2_with (at_builtin; refine wpList_app1 _ rfl (.tmp 15) (.tmp 18) rfl B _ l' rfl hrow2 _ c rfl HG.out (by omega) (by simp; omega) ?_; intro v9 w9 hb9 hk9)
   go_ret
   exact ⟨_, rfl, by rw [← HLE.out, HLB.out, HC.out]; exact hb9, hk2.trans hk9⟩
end Go.Proofs.YtjldbbcdhdfliaaGreatDoor
/-
 Walks over package image, trace: sum, Sum; trace's sum.
-/
namespace Go.Proofs.YtjldbbcdhdfliaaGreatDoor
open Go.RowKit Go.Sort

/-- The checksum of bytes, behind another. -/
def sumF (s : Nat) (l : List UInt8) : Nat := l.foldl (fun s c => (31 * s + c.toNat + 1) % 4294967296) s
theorem sumF_lt : ∀ (l : List UInt8) (s : Nat), s < 4294967296 → sumF s l < 4294967296
 | [], _, hs => hs
 | c :: r, s, _ => sumF_lt r ((31 * s + c.toNat + 1) % 4294967296) (Nat.mod_lt _ (by omega))
theorem sumF_snoc (s : Nat) (l : List UInt8) (c : UInt8) : sumF s (l ++ [c]) = (31 * sumF s l + c.toNat + 1) % 4294967296 := by
 unfold sumF
 rw [List.foldl_append]
 rfl
theorem Byt.at_ {B : Nat} {w : World} {g n cap : Nat} {l : List UInt8} (h : Byt B w (.slice (some ⟨g, 0, none⟩) n cap) l) {j : Nat} {c : UInt8} (hc : l[j]? = some c) : w.cell? ⟨g, j, none⟩ = some (.int .u8 (c.toNat : Nat)) := by
 have hn : n = l.length := by
  rcases h.2 with ⟨h1, _⟩ | ⟨_, _, _, h1, _⟩
  ·cases h1
  ·injection h1
 subst hn
 have hlt := (List.getElem?_eq_some_iff.1 hc).1
 rw [World.ownsRow.cellAt h j (by omega)]
 unfold Lib.byteCells
 rw [List.getElem?_map, hc]
 rfl
theorem Byt.shape {B : Nat} {w : World} {v : Value} {l : List UInt8} (h : Byt B w v l) : (l = [] ∧ v = .slice none 0 0) ∨ ∃ g cap, v = .slice (some ⟨g, 0, none⟩) l.length cap ∧ g < w.heap.size := by
 rcases h.2 with ⟨h1, h2⟩ | ⟨g, cap, cur, h1, h2, h3, _⟩
 ·exact .inl ⟨List.eq_nil_of_length_eq_zero h2, h1⟩
 ·exact .inr ⟨g, cap, h1, lt_of_heap h3⟩
set_option maxRecDepth 100000 in
set_option maxHeartbeats 2000000 in
theorem isum_any (s0 : Nat) (hs : s0 < 4294967296) (B : Nat) (v : Value) (l : List UInt8) (hl : l.length ≤ 100000000000) (w : World) (h : Byt B w v l) : Calls Tryz.prog 120 #[.int .u32 (s0 : Nat), v] w fun e w' => e = .returned (.int .u32 (sumF s0 l : Nat)) ∧ w = w' := by
 rcases h.shape with ⟨rfl, rfl⟩ | ⟨g, cap, rfl, hg⟩
 ·go_enter Tryz.func120, Tryz.ntmps120
  go_wp2_with fail
  go_loop [0, 9] (fun s i => s = .int .u32 (s0 : Nat) ∧ i = .int .i64 0) (fun _ _ => 0)
  case atStart => exact ⟨rfl, rfl⟩
  case round =>
   obtain ⟨rfl, rfl⟩ := hrel
   go_wp2_with fail
   go_ret
   exact ⟨rfl, rfl⟩
 ·go_enter Tryz.func120, Tryz.ntmps120
  go_wp2_with fail
  go_loop [0, 9] (fun s i => ∃ k : Nat, i = .int .i64 (k : Nat) ∧ k ≤ l.length ∧ s = .int .u32 (sumF s0 (l.take k) : Nat)) (fun _ i => l.length - (intOf i).toNat)
  case atStart => exact ⟨0, rfl, Nat.zero_le _, rfl⟩
  case round =>
   obtain ⟨k, rfl, hk, rfl⟩ := hrel
   by_cases hlt : k < l.length
   ·have hd1 : decide (k < l.length) = true := by simpa using hlt
    have hc := h.at_ (j := k) (c := l[k]) (List.getElem?_eq_getElem hlt)
    have hsn := sumF_snoc s0 (l.take k) l[k]
    rw [← List.take_succ_eq_append_getElem hlt] at hsn
    have hsl := sumF_lt (l.take k) s0 hs
    have HS := Lib.hid hsn
    obtain ⟨S, hS⟩ : ∃ S, sumF s0 (l.take k) = S := ⟨_, rfl⟩
    rw [hS] at hsl ⊢
    have HSS := Lib.hid hS
    have hc8 := l[k].toNat_lt
    obtain ⟨c, hcc⟩ : ∃ c, l[k].toNat = c := ⟨_, rfl⟩
    rw [hcc] at hc hc8
    have HC := Lib.hid hcc
    clear hsn hS hcc
    go_wp2_with fail
    go_round
    case rel => exact ⟨k + 1, by go_num, by omega, by rw [HS.out, HSS.out, HC.out]; congr 1; omega⟩
    case measure => simp [intOf]; omega
   ·have hd1 : decide (k < l.length) = false := by simpa using hlt
    go_wp2_with fail
    go_ret
    rw [List.take_of_length_le (by omega)]
    exact ⟨rfl, rfl⟩
set_option maxRecDepth 100000 in
set_option maxHeartbeats 2000000 in
theorem iSum_any (B : Nat) (v1 : Option Addr) (n cap : Nat) (l : List UInt8) (hl : l.length ≤ 100000000000) (g : Nat) (w : World) (h : Byt B w (.slice v1 n cap) l) (hc : w.cell? ⟨g, 0, none⟩ = some (.slice v1 n cap)) : Calls Tryz.prog 88 #[.slice (some ⟨g, 0, none⟩) 1 1] w fun e w' => e = .returned (.int .u32 (sumF 1 l : Nat)) ∧ w = w' := by
 go_enter Tryz.func88, Tryz.ntmps88
 go_wp2_with fail
 go_loop [3, 8] (fun s i => (i = .int .i64 0 ∧ s = .int .u32 1) ∨ (i = .int .i64 1 ∧ s = .int .u32 (sumF 1 l : Nat))) (fun _ i => 1 - (intOf i).toNat)
 case atStart => exact .inl ⟨rfl, rfl⟩
 case round =>
  rcases hrel with ⟨rfl, rfl⟩ | ⟨rfl, rfl⟩
  ·go_wp2_with fail
   refine (isum_any 1 (by omega) B _ l hl _ h).mono ?_
   rintro e w' ⟨rfl, rfl⟩
   go_wp2_with fail
   go_round
   case rel => exact .inr ⟨by go_num, rfl⟩
   case measure => simp [intOf]
  ·go_wp2_with fail
   go_ret
   exact ⟨rfl, rfl⟩
/-- The four bytes of a checksum. -/
def sum4 (n : Nat) : List UInt8 := [UInt8.ofNat n, UInt8.ofNat (n / 256), UInt8.ofNat (n / 65536), UInt8.ofNat (n / 16777216)]
def sum4V (n : Nat) : Value := .agg #[.int .u8 ((n : Int) % 256), .int .u8 ((n : Int) / 256 % 256), .int .u8 ((n : Int) / 65536 % 256), .int .u8 ((n : Int) / 16777216 % 256)]
set_option maxRecDepth 100000 in
set_option maxHeartbeats 2000000 in
theorem tsum_any (B : Nat) (v : Value) (l : List UInt8) (hl : l.length ≤ 100000000000) (w : World) (h : Byt B w v l) : Calls Tryz.prog 57 #[v] w fun e w' => e = .returned (sum4V (sumF 1 l)) ∧ Below w.heap.size w w' := by
 obtain ⟨v1, n, cap, rfl⟩ := h.form
 have hsl := sumF_lt l 1 (by omega)
 obtain ⟨S, hS⟩ : ∃ S, sumF 1 l = S := ⟨_, rfl⟩
 rw [hS] at hsl ⊢
 have HSS := Lib.hid hS
 clear hS
 have hb1 := (below_alloc w (.cells #[.int .u8 0, .int .u8 0, .int .u8 0, .int .u8 0] 101)).alloc (by simp) (.cells #[.slice v1 n cap] 55)
 have h2 : Byt B ((w.alloc (.cells #[.int .u8 0, .int .u8 0, .int .u8 0, .int .u8 0] 101)).alloc (.cells #[.slice v1 n cap] 55)) (.slice v1 n cap) l := (h.below (below_alloc _ _)).below (below_alloc _ _)
 have hc : ((w.alloc (.cells #[.int .u8 0, .int .u8 0, .int .u8 0, .int .u8 0] 101)).alloc (.cells #[.slice v1 n cap] 55)).cell? ⟨w.heap.size + 1, 0, none⟩ = some (.slice v1 n cap) := by
  have := (B1.new (w.alloc (.cells #[.int .u8 0, .int .u8 0, .int .u8 0, .int .u8 0] 101)) 55 (.slice v1 n cap)).c
  rwa [show (w.alloc (.cells #[.int .u8 0, .int .u8 0, .int .u8 0, .int .u8 0] 101)).heap.size = w.heap.size + 1 by simp] at this
 have hr0 : ((w.alloc (.cells #[.int .u8 0, .int .u8 0, .int .u8 0, .int .u8 0] 101)).alloc (.cells #[.slice v1 n cap] 55)).heap[w.heap.size]? = some (.cells #[.int .u8 0, .int .u8 0, .int .u8 0, .int .u8 0] 101 (0, 0)) := (Below.heap_alloc _ _ _ (by simp)).trans (heap_alloc_new _ _)
 go_enter Tryz.func57, Tryz.ntmps57
 go_wp2_with fail
 generalize (w.alloc (.cells #[.int .u8 0, .int .u8 0, .int .u8 0, .int .u8 0] 101)).alloc (.cells #[.slice v1 n cap] 55) = w2 at *
 refine (iSum_any B v1 n cap l hl (w.heap.size + 1) w2 h2 hc).mono ?_
 rw [HSS.out]
 rintro e w3 ⟨rfl, rfl⟩
 have c0 : w2.cell? ⟨w.heap.size, 0, none⟩ = some (.int .u8 0) := by simp [World.cell?, hr0]
 have c1 : w2.cell? ⟨w.heap.size, 1, none⟩ = some (.int .u8 0) := by simp [World.cell?, hr0]
 have c2 : w2.cell? ⟨w.heap.size, 2, none⟩ = some (.int .u8 0) := by simp [World.cell?, hr0]
 have c3 : w2.cell? ⟨w.heap.size, 3, none⟩ = some (.int .u8 0) := by simp [World.cell?, hr0]
 have f0 : w2.frozen? ⟨w.heap.size, 0, none⟩ = false := by simp [World.frozen?, hr0]
 have f1 : w2.frozen? ⟨w.heap.size, 1, none⟩ = false := by simp [World.frozen?, hr0]
 have f2 : w2.frozen? ⟨w.heap.size, 2, none⟩ = false := by simp [World.frozen?, hr0]
 have f3 : w2.frozen? ⟨w.heap.size, 3, none⟩ = false := by simp [World.frozen?, hr0]
 have HR := Lib.hid hr0
 clear h2 hc hr0 h
 go_wp2_with fail
 have hfin : ((((w2.setCell ⟨w.heap.size, 0, none⟩ (.int .u8 ((S : Int) % 256))).setCell ⟨w.heap.size, 1, none⟩ (.int .u8 ((S : Int) / 256 % 256))).setCell ⟨w.heap.size, 2, none⟩ (.int .u8 ((S : Int) / 65536 % 256))).setCell ⟨w.heap.size, 3, none⟩ (.int .u8 ((S : Int) / 16777216))).heap[w.heap.size]? = some (.cells #[.int .u8 ((S : Int) % 256), .int .u8 ((S : Int) / 256 % 256), .int .u8 ((S : Int) / 65536 % 256), .int .u8 ((S : Int) / 16777216)] 101 (0, 0)) := by
  simp [World.setCell, Array.getElem?_modify, HR.out]
 have hv : sum4V S = .agg #[.int .u8 ((S : Int) % 256), .int .u8 ((S : Int) / 256 % 256), .int .u8 ((S : Int) / 65536 % 256), .int .u8 ((S : Int) / 16777216)] := by
  unfold sum4V
  rw [show (S : Int) / 16777216 % 256 = (S : Int) / 16777216 by omega]
 have hb9 := (((hb1.setCell (p := ⟨w.heap.size, 0, none⟩) (Nat.le_refl _) (.int .u8 ((S : Int) % 256))).setCell (p := ⟨w.heap.size, 1, none⟩) (Nat.le_refl _) (.int .u8 ((S : Int) / 256 % 256))).setCell (p := ⟨w.heap.size, 2, none⟩) (Nat.le_refl _) (.int .u8 ((S : Int) / 65536 % 256))).setCell (p := ⟨w.heap.size, 3, none⟩) (Nat.le_refl _) (.int .u8 ((S : Int) / 16777216))
 generalize (((w2.setCell ⟨w.heap.size, 0, none⟩ (.int .u8 ((S : Int) % 256))).setCell ⟨w.heap.size, 1, none⟩ (.int .u8 ((S : Int) / 256 % 256))).setCell ⟨w.heap.size, 2, none⟩ (.int .u8 ((S : Int) / 65536 % 256))).setCell ⟨w.heap.size, 3, none⟩ (.int .u8 ((S : Int) / 16777216)) = w9 at *
 have d0 : w9.cell? ⟨w.heap.size, 0, none⟩ = some (.int .u8 ((S : Int) % 256)) := by simp [World.cell?, hfin]
 have d1 : w9.cell? ⟨w.heap.size, 1, none⟩ = some (.int .u8 ((S : Int) / 256 % 256)) := by simp [World.cell?, hfin]
 have d2 : w9.cell? ⟨w.heap.size, 2, none⟩ = some (.int .u8 ((S : Int) / 65536 % 256)) := by simp [World.cell?, hfin]
 have d3 : w9.cell? ⟨w.heap.size, 3, none⟩ = some (.int .u8 ((S : Int) / 16777216)) := by simp [World.cell?, hfin]
 rw [hv]
 exact bodyPost_ret (v := .agg #[.int .u8 ((S : Int) % 256), .int .u8 ((S : Int) / 256 % 256), .int .u8 ((S : Int) / 65536 % 256), .int .u8 ((S : Int) / 16777216)]) (by simp [results, Tryz.results57, go_sem, d0, d1, d2, d3]) rfl ⟨rfl, hb9⟩
end Go.Proofs.YtjldbbcdhdfliaaGreatDoor
