/-
 Walks over the reference of layers 8 and 23: Number, put, Sum, sealed, Sealed.
-/
import Derived.Test.YtjldbbcdhdfliaaGreatDoorViVj
import Derived.Test.YtjldbbcdhdfliaaGreatDoorVnVe
import Derived.Deep.AppendLies
import Derived.Laws.BytesArg
import Derived.Test.YtjldbbcdhdfliaaGreatDoorTgTh
import Derived.Lib.QuietBelow
import Derived.Deep.QuietTactic
import Derived.BigQuiet
namespace Go.Proofs.YtjldbbcdhdfliaaGreatDoor
open Go.RowKit Go.Sort

/-- These bytes lie behind a slice. -/
def Lies (w : World) (a : Option Addr) (l : List UInt8) : Prop := l ≠ [] → ∃ g o, a = some ⟨g, o, none⟩ ∧ g < w.heap.size ∧ Cel w g o l
theorem Lies.below {w w' : World} {a : Option Addr} {l : List UInt8} (h : Lies w a l) (hb : Below w.heap.size w w') : Lies w' a l := fun hl => by
 obtain ⟨g, o, e, h1, h2⟩ := h hl
 exact ⟨g, o, e, Nat.lt_of_lt_of_le h1 hb.size, h2.below hb h1⟩
theorem Lies.take {w : World} {a : Option Addr} {l : List UInt8} (h : Lies w a l) (n : Nat) : Lies w a (l.take n) := fun hl => by
 obtain ⟨g, o, e, h1, h2⟩ := h (fun e => hl (by rw [e, List.take_nil]))
 exact ⟨g, o, e, h1, h2.take n⟩
theorem Byt.cel {B : Nat} {w : World} {g n cap : Nat} {l : List UInt8} (h : Byt B w (.slice (some ⟨g, 0, none⟩) n cap) l) : Cel w g 0 l := fun i c hc => by
 rw [Nat.zero_add]
 exact h.at_ hc
theorem Byt.lies {B : Nat} {w : World} {v : Value} {l : List UInt8} (h : Byt B w v l) : ∃ a cap, v = .slice a l.length cap ∧ Lies w a l ∧ l.length ≤ cap := by
 rcases h.2 with ⟨rfl, h0⟩ | ⟨g, cap, cur, rfl, _, e3, e4, _⟩
 ·have : l = [] := List.eq_nil_of_length_eq_zero h0
  subst this
  exact ⟨none, 0, rfl, fun h => absurd rfl h, Nat.le_refl _⟩
 ·exact ⟨_, cap, rfl, fun _ => ⟨g, 0, rfl, lt_of_heap e3, h.cel⟩, e4⟩
/-- An empty row of one's own. -/
theorem Byt.empty (w : World) : Byt w.heap.size (w.alloc (.cells #[] 5)) (.slice (some ⟨w.heap.size, 0, none⟩) 0 0) [] :=
 World.ownsRow_lit w #[] 0 (Nat.le_refl _) (Nat.zero_le _) rfl
theorem run_append_zero {B : Nat} {w : World} {v : Value} {l : List UInt8} (h : Byt B w v l) (ty : TypeId) (a : Option Addr) (c : Nat) : (Builtin.append_ #[55, 55] ty #[v, .slice a 0 c]).run Tryz.prog w = .ok v w := by
 obtain ⟨i0, hi0, hz0, hz1, hz2⟩ := info_parts u8_info
 have ht := Tryz.underlying55
 rcases h.2 with ⟨rfl, h0⟩ | ⟨g, cap, cur, rfl, _, _, hnc, _⟩
 ·cases a <;> simp [Builtin.append_, run_underlying ht, sizeOf, typeInfo, hi0, Builtin.lenOf, Builtin.firstCells, loadCells, loadCellsFrom]
 ·cases a <;> simp [Builtin.append_, run_underlying ht, sizeOf, typeInfo, hi0, Builtin.lenOf, Builtin.firstCells, loadCells, loadCellsFrom, hnc, storeCells]
section
variable {ops : Array Oper} {rest : List Oper} {o : Oper} {a : Act} {Q : Exit → Act → World → Prop}
set_option maxRecDepth 100000 in
/-- append(b, c...), c bytes that lie anywhere. -/
theorem wpList_appA (w : World) (hgd : o.guard = none) (s x : Operand) (ho : o.op = .call { callee := .builtin .append, args := #[s, x], argTypes := #[55, 55] })
  (B : Nat) (bv : Value) (l : List UInt8) (hs : a.eval s = bv) (hrow : Byt B w bv l) (xa : Option Addr) (n cap : Nat) (m : List UInt8) (hn : n = m.length) (hx : a.eval x = .slice xa n cap) (hc : Lies w xa m)
  (hl : l.length + m.length ≤ 100000000000) (hB : B ≤ w.heap.size) (h : ∀ v' w', Byt B w' v' (l ++ m) → Kp B w w' → wpList Tryz.prog ops Q rest (a.put o.dst v') w') : wpList Tryz.prog ops Q (o :: rest) a w := by
 subst hn
 by_cases hm : m = []
 ·subst hm
  refine wpList_plain hgd fun K hK => ?_
  have hrun := run_append_zero hrow o.type xa cap
  have hx' : a.eval x = .slice xa 0 cap := hx
  unfold Oper.wp
  simp [execOp, ho, resolve, invoke, builtin, hs, hx', hrun, Result.andThen]
  exact hK _ _ (h _ _ (by rw [List.append_nil]; exact hrow) (Kp.refl _ _))
 ·obtain ⟨g, o', rfl, h1, h2⟩ := hc hm
  obtain ⟨i0, hi0, hz0, hz1, hz2⟩ := info_parts u8_info
  have hp : 0 < m.length := List.length_pos_iff.2 hm
  refine wpList_append_lies w hgd s x 55 ho B 5 i0 _ 1 1 Tryz.underlying55 hi0 hz0 hz1 hz2 rfl (by decide) bv l.length (Lib.byteCells l) hs hrow ⟨g, o', none⟩ m.length cap (Lib.byteCells m) hx (by simp [Lib.byteCells]) ?_ ?_ hp (by unfold maxLen; omega) (by omega) hB _ rfl ?_
  ·intro j u hj
   have hadd : (⟨g, o', none⟩ : Addr).add j = ⟨g, o' + j, none⟩ := by unfold Addr.add; split <;> simp_all
   rw [hadd]
   unfold Lib.byteCells at hj
   rw [List.getElem?_map] at hj
   cases hmj : m[j]? with
   | none =>
    rw [hmj] at hj
    cases hj
   | some c =>
    rw [hmj] at hj
    injection hj with hj
    rw [← hj]
    exact h2 j c hmj
  ·intro u hu
   unfold Lib.byteCells at hu
   obtain ⟨c, _, rfl⟩ := List.mem_map.1 hu
   rfl
  ·intro g' cap' w' hown hgrow _ _
   refine h _ w' ?_ (Kp.grown hrow hB hgrow)
   unfold Byt
   rw [bytes_app, List.length_append]
   exact hown
end
set_option maxRecDepth 100000 in
set_option maxHeartbeats 2000000 in
theorem rNumber_any (n : Nat) (hn : n < 18446744073709551616) (w : World) :
  Calls Tryz.prog 93 #[.int .u64 (n : Nat)] w fun e w' => ∃ v', e = .returned v' ∧ Byt w.heap.size w' v' (leb n) ∧ Below w.heap.size w w' := by
 go_enter Tryz.func93, Tryz.ntmps93
 go_wp2_with fail
 go_loopw [0, 3] (fun x v wr => ∃ (m : Nat) (l' : List UInt8), x = .int .u64 (m : Nat) ∧ m ≤ n ∧ Byt w.heap.size wr v l' ∧ Kp w.heap.size w wr ∧ l' ++ leb m = leb n) (fun x _ _ => (intOf x).toNat)
 case atStart => exact ⟨n, [], rfl, Nat.le_refl _, Byt.nil _ _, Kp.refl _ _, rfl⟩
 case round =>
  obtain ⟨m, l', rfl, hm, hrow, hkp, hle⟩ := hrel
  have hlen := congrArg List.length hle
  have hln := leb_len hn
  simp only [List.length_append] at hlen
  have hl2 : l'.length ≤ 10 := by omega
  have HLE := Lib.hid hle
  clear hle hlen hln
  obtain ⟨ba2, bn2, bc2, rfl⟩ := hrow.form
  have hsz := hkp.size
  by_cases hlt : 128 ≤ m
  ·have hd1 : decide (128 ≤ m) = true := by simpa using hlt
   have hd2 : decide (128 ≤ (m : Int)) = true := by simp; omega
   have HLB := Lib.hid (leb_big hlt)
   obtain ⟨c, hc⟩ : ∃ c, UInt8.ofNat (m % 128 + 128) = c := ⟨_, rfl⟩
   have hcm : (c.toNat : Int) = 128 + (m : Int) % 128 := by rw [← hc, u8_of (by omega)]; omega
   have HC := Lib.hid hc
   clear hc
   have hrow2 := hrow.below (below_alloc wr (.cells #[.int .u8 (128 + (m : Int) % 128)] 5))
   have hk2 := hkp.trans (Kp.all (B := w.heap.size) hsz (below_alloc wr (.cells #[.int .u8 (128 + (m : Int) % 128)] 5)))
   have hg : (wr.alloc (.cells #[.int .u8 (128 + (m : Int) % 128)] 5)).heap[wr.heap.size]? = some (.cells #[.int .u8 (c.toNat : Nat)] 5 (0, 0)) := by rw [hcm]; exact heap_alloc_new _ _
   have HG := Lib.hid hg
   clear hg
   go_wp2_with (at_builtin; refine wpList_app1 _ rfl (.tmp 6) (.tmp 11) rfl w.heap.size _ l' rfl hrow2 _ c rfl HG.out (by omega) (by simp; omega) ?_; intro v9 w9 hb9 hk9)
   have HD : Hid ((l' ++ [c]) ++ leb (m / 128) = leb n) := by
    show _ = _
    rw [← HLE.out, HLB.out, HC.out]
    simp
   go_roundw
   case rel => exact ⟨m / 128, l' ++ [c], by congr 1, by omega, hb9, hk2.trans hk9, HD.out⟩
   case measure => simp [intOf]; omega
  ·have hd1 : decide (128 ≤ m) = false := by simpa using hlt
   have hd2 : decide (128 ≤ (m : Int)) = false := by simp; omega
   have HLB := Lib.hid (leb_small (m := m) (by omega))
   obtain ⟨c, hc⟩ : ∃ c, UInt8.ofNat m = c := ⟨_, rfl⟩
   have hcm : c.toNat = m := by rw [← hc]; simp; omega
   have HC := Lib.hid hc
   have hg : (wr.alloc (.cells #[.int .u8 (m : Nat)] 5)).heap[wr.heap.size]? = some (.cells #[.int .u8 (c.toNat : Nat)] 5 (0, 0)) := by rw [hcm]; exact heap_alloc_new _ _
   have HG := Lib.hid hg
   clear hc hcm hg
   have hrow2 := hrow.below (below_alloc wr (.cells #[.int .u8 (m : Nat)] 5))
   have hk2 := hkp.trans (Kp.all (B := w.heap.size) hsz (below_alloc wr (.cells #[.int .u8 (m : Nat)] 5)))
   go_wp2_with (at_builtin; refine wpList_app1 _ rfl (.tmp 15) (.tmp 18) rfl w.heap.size _ l' rfl hrow2 _ c rfl HG.out (by omega) (by simp; omega) ?_; intro v9 w9 hb9 hk9)
   go_ret
   exact ⟨_, rfl, by rw [← HLE.out, HLB.out, HC.out]; exact hb9, (hk2.trans hk9).b⟩
set_option maxRecDepth 100000 in
set_option maxHeartbeats 2000000 in
theorem rput_any (B : Nat) (n : Nat) (hn : n < 18446744073709551616) (bv : Value) (l : List UInt8) (w : World) (hrow : Byt B w bv l) (hB : B ≤ w.heap.size) (hl : l.length ≤ 10000000000) :
  Calls Tryz.prog 61 #[bv, .int .u64 (n : Nat)] w fun e w' => ∃ v', e = .returned v' ∧ Byt B w' v' (l ++ leb n) ∧ Kp B w w' := by
 have hln := leb_len hn
 obtain ⟨ba, bn, bc, rfl⟩ := hrow.form
 go_enter Tryz.func61, Tryz.ntmps61
 go_wp2_with fail
 refine (rNumber_any n hn _).mono ?_
 rintro e w1 ⟨v1, rfl, hr1, hb1⟩
 obtain ⟨a1, c1, rfl, hl1, -⟩ := hr1.lies
 have hrow1 := hrow.below hb1
 have hsz := hb1.size
 go_wp2_with (at_builtin; refine wpList_appA _ rfl (.tmp 5) (.tmp 7) rfl B _ l rfl hrow1 a1 _ c1 (leb n) rfl rfl hl1 (by omega) (by omega) ?_; intro v9 w9 hb9 hk9)
 go_ret
 exact ⟨_, rfl, hb9, (Kp.all hB hb1).trans hk9⟩
set_option maxRecDepth 100000 in
set_option maxHeartbeats 2000000 in
theorem rSum_any (xa : Option Addr) (cap : Nat) (l : List UInt8) (hl : l.length ≤ 100000000000) (w : World) (h : Lies w xa l) : Calls Tryz.prog 94 #[.slice xa l.length cap] w fun e w' => e = .returned (.int .u32 (sumF 1 l : Nat)) ∧ w = w' := by
 go_enter Tryz.func94, Tryz.ntmps94
 go_wp2_with fail
 go_loop [3, 4] (fun s i => ∃ k : Nat, i = .int .i64 (k : Nat) ∧ k ≤ l.length ∧ s = .int .u64 (sumF 1 (l.take k) : Nat)) (fun _ i => l.length - (intOf i).toNat)
 case atStart => exact ⟨0, rfl, Nat.zero_le _, rfl⟩
 case round =>
  obtain ⟨k, rfl, hk, rfl⟩ := hrel
  have hsl := sumF_lt (l.take k) 1 (by decide)
  by_cases hlt : k < l.length
  ·have hd1 : decide (k < l.length) = true := by simpa using hlt
   obtain ⟨g, o, rfl, hg, hC⟩ := h (fun e => by rw [e] at hlt; simp at hlt)
   have hc := hC k l[k] (List.getElem?_eq_getElem hlt)
   have hsn := sumF_snoc 1 (l.take k) l[k]
   rw [← List.take_succ_eq_append_getElem hlt] at hsn
   have HS := Lib.hid hsn
   obtain ⟨S, hS⟩ : ∃ S, sumF 1 (l.take k) = S := ⟨_, rfl⟩
   rw [hS] at hsl ⊢
   have HSS := Lib.hid hS
   have hc8 := l[k].toNat_lt
   obtain ⟨c, hcc⟩ : ∃ c, l[k].toNat = c := ⟨_, rfl⟩
   rw [hcc] at hc hc8
   have HC := Lib.hid hcc
   clear hsn hS hcc
   go_wp2_with fail
   go_round
   case rel => exact ⟨k + 1, by go_num, by omega, by rw [HS.out, HSS.out, HC.out]; congr 1⟩
   case measure => simp [intOf]; omega
  ·have hd1 : decide (k < l.length) = false := by simpa using hlt
   have hsl2 : (sumF 1 (l.take k) : Int) % 4294967296 = (sumF 1 (l.take k) : Int) := by omega
   go_wp2_with fail
   go_ret
   rw [List.take_of_length_le (by omega)]
   exact ⟨rfl, rfl⟩
theorem lies_new (w : World) (l : List UInt8) (cs : Array Value) (h : cs.toList = Lib.byteCells l) : Lies (w.alloc (.cells cs 5)) (some ⟨w.heap.size, 0, none⟩) l := fun _ => by
 refine ⟨w.heap.size, 0, rfl, by simp, fun i c hc => ?_⟩
 rw [Nat.zero_add, cell_of_row _ w.heap.size i cs 5 (0, 0) (heap_alloc_new w (.cells cs 5)), ← Array.getElem?_toList, h]
 unfold Lib.byteCells
 rw [List.getElem?_map, hc]
 rfl
theorem sum4_cells8 {S : Nat} (hS : S < 4294967296) : (#[.int .u8 ((S : Int) % 256), .int .u8 ((S : Int) / 256 % 256), .int .u8 ((S : Int) / 65536 % 256), .int .u8 ((S : Int) / 16777216)] : Array Value).toList = Lib.byteCells (sum4 S) := by
 have h1 : ((S / 16777216) % 256) = S / 16777216 := by omega
 unfold sum4 Lib.byteCells
 simp only [List.map_cons, List.map_nil, List.cons.injEq, Value.int.injEq, true_and, and_true]
 refine ⟨?_, ?_, ?_, ?_⟩ <;> simp <;> omega
set_option maxRecDepth 100000 in
set_option maxHeartbeats 2000000 in
theorem rsealed8_any (xa : Option Addr) (cap n : Nat) (l : List UInt8) (hn : n = l.length) (hl : l.length ≤ 10000000000) (w : World) (h : Lies w xa l) : Calls Tryz.prog 63 #[.slice xa n cap] w fun e w' => ∃ v, e = .returned v ∧ Byt w.heap.size w' v (l ++ sum4 (sumF 1 l)) ∧ Below w.heap.size w w' := by
 subst hn
 have hsl := sumF_lt l 1 (by decide)
 obtain ⟨S, hS⟩ : ∃ S, sumF 1 l = S := ⟨_, rfl⟩
 have HSS := Lib.hid hS
 have hb0 := below_alloc w (.cells #[] 5)
 have h0 := h.below hb0
 have hs0 : (w.alloc (.cells #[] 5)).heap.size = w.heap.size + 1 := by simp
 rw [hS] at hsl ⊢
 clear hS
 go_enter Tryz.func63, Tryz.ntmps63
 go_wp2_with fail
 refine (rSum_any xa cap l (by omega) _ h).mono ?_
 rw [HSS.out]
 rintro e w1 ⟨rfl, rfl⟩
 go_wp2_with (at_builtin; first
  | (refine wpList_appA _ rfl (.tmp 6) (.tmp 7) rfl w.heap.size _ [] rfl (Byt.empty _) xa _ cap l rfl rfl h0 (by simp; omega) (by simp) ?_; intro v9 w9 hb9 hk9; obtain ⟨va9, vn9, vc9, rfl⟩ := hb9.form; have hb8 := below_alloc w9 (.cells #[.int .u8 ((S : Int) % 256), .int .u8 ((S : Int) / 256 % 256), .int .u8 ((S : Int) / 65536 % 256), .int .u8 ((S : Int) / 16777216)] 5); have hr8 := hb9.below hb8; have hsz := hk9.size)
  | (refine wpList_appA _ rfl (.tmp 8) (.tmp 23) rfl w.heap.size _ _ rfl hr8 _ 4 4 (sum4 S) rfl rfl (lies_new w9 _ _ (sum4_cells8 hsl)) (by simp [sum4]; omega) (by simp; omega) ?_; intro v10 w10 hb10 hk10))
 go_ret
 exact ⟨_, rfl, hb10, hb0.trans ((hk9.b.trans (hb8.mono (by omega))).trans hk10.b)⟩
set_option maxRecDepth 100000 in
set_option maxHeartbeats 2000000 in
theorem rSealed_any (xa : Option Addr) (cap : Nat) (l : List UInt8) (hl : l.length ≤ 10000000000) (w : World) (h : Lies w xa l) (hlc : l.length ≤ cap) (h4 : 4 ≤ l.length) : Calls Tryz.prog 26 #[.slice xa l.length cap] w fun e w' => ∃ v, e = .returned v ∧ Byt w.heap.size w' v (l.take (l.length - 4) ++ sum4 (sumF 1 (l.take (l.length - 4)))) ∧ Below w.heap.size w w' := by
 have ht := h.take (l.length - 4)
 have htl : l.length - 4 = (l.take (l.length - 4)).length := by rw [List.length_take]; omega
 have hsl := rsealed8_any xa cap (l.length - 4) _ htl (by omega) w ht
 clear htl ht h
 obtain ⟨m, hm⟩ : ∃ m, l.length = m + 4 := ⟨l.length - 4, by omega⟩
 rw [hm, Nat.add_sub_cancel] at hsl ⊢
 rw [hm] at hl hlc
 have HSL := Lib.hid hsl
 clear hsl h4 hm
 have hd : decide ((m : Int) + 4 < 4) = false := by simp; omega
 have hd2 : decide (m + 4 < 4) = false := by simp
 have hmc : m ≤ cap := by omega
 go_enter Tryz.func26, Tryz.ntmps26
 go_wp2_with fail
 refine HSL.out.mono ?_
 rintro e w1 ⟨v, rfl, hv, hb⟩
 go_wp2_with fail
 go_ret
 exact ⟨_, rfl, hv, hb⟩
theorem rSealed_few (xa : Option Addr) (cap : Nat) (l : List UInt8) (w : World) (h4 : l.length < 4) : Calls Tryz.prog 26 #[.slice xa l.length cap] w fun e w' => e = .returned (.slice xa l.length cap) ∧ w' = w := by
 have hd : decide ((l.length : Int) < 4) = true := by simp; omega
 have hd2 : decide (l.length < 4) = true := by simp; omega
 go_enter Tryz.func26, Tryz.ntmps26
 go_wp2_with fail
 go_ret
 exact ⟨rfl, rfl⟩
set_option maxRecDepth 100000 in
set_option maxHeartbeats 2000000 in
theorem rsealed23_any (xa : Option Addr) (cap : Nat) (l : List UInt8) (hl : l.length ≤ 1000000000) (w : World) (h : Lies w xa l) : Calls Tryz.prog 62 #[.slice xa l.length cap] w fun e w' => ∃ v, e = .returned v ∧ Byt w.heap.size w' v (l ++ sum4 (sumF 1 l)) ∧ Below w.heap.size w w' := by
 have hb0 := below_alloc w (.cells #[] 5)
 have h0 := h.below hb0
 have hs0 : (w.alloc (.cells #[] 5)).heap.size = w.heap.size + 1 := by simp
 go_enter Tryz.func62, Tryz.ntmps62
 go_wp2_with (at_builtin; first
  | (refine wpList_appA _ rfl (.tmp 3) (.tmp 4) rfl w.heap.size _ [] rfl (Byt.empty _) xa _ cap l rfl rfl h0 (by simp; omega) (by simp) ?_; intro v9 w9 hb9 hk9; obtain ⟨va9, vn9, vc9, rfl⟩ := hb9.form; have hb8 := below_alloc w9 (.cells #[.int .u8 0, .int .u8 0, .int .u8 0, .int .u8 0] 5); have hr8 := hb9.below hb8; have hsz := hk9.size)
  | (refine wpList_appA _ rfl (.tmp 5) (.tmp 6) rfl w.heap.size _ _ rfl hr8 _ 4 4 [0, 0, 0, 0] rfl rfl (lies_new w9 _ _ rfl) (by simp; omega) (by simp; omega) ?_; intro v10 w10 hb10 hk10; obtain ⟨va10, vc10, rfl, hl10, hc10⟩ := hb10.lies))
 have hSL := rSealed_any va10 vc10 ([] ++ l ++ [0, 0, 0, 0]) (by simp; omega) w10 hl10 hc10 (by simp)
 have e1 : ([] ++ l ++ [0, 0, 0, 0]).length = l.length + 4 := by simp
 have e2 : ([] ++ l ++ [0, 0, 0, 0]).take l.length = l := by simp
 rw [e1, Nat.add_sub_cancel, e2] at hSL
 have hbb := hb0.trans ((hk9.b.trans (hb8.mono (by omega))).trans hk10.b)
 refine hSL.mono ?_
 rintro e w1 ⟨v, rfl, hv, hb⟩
 go_wp2_with fail
 go_ret
 exact ⟨_, rfl, World.ownsRow.mono hv hbb.size, hbb.trans (hb.mono hbb.size)⟩
end Go.Proofs.YtjldbbcdhdfliaaGreatDoor
/-
 The reference of layer 23: take.
-/
namespace Go.Proofs.YtjldbbcdhdfliaaGreatDoor
open Go.RowKit Go.Sort

theorem take_split {l : List UInt8} {n : Nat} {c : UInt8} (hc : l[n]? = some c) : l = l.take n ++ c :: l.drop (n + 1) := by
 have hn := (List.getElem?_eq_some_iff.1 hc).1
 have h1 : l[n] = c := by
  rw [List.getElem?_eq_getElem hn] at hc
  injection hc
 rw [← h1, ← List.drop_eq_getElem_cons hn, List.take_append_drop]
theorem take_snoc {l : List UInt8} {n : Nat} {c : UInt8} (hc : l[n]? = some c) : l.take (n + 1) = l.take n ++ [c] := by
 have hn := (List.getElem?_eq_some_iff.1 hc).1
 rw [List.getElem?_eq_getElem hn] at hc
 injection hc with hc
 rw [List.take_succ_eq_append_getElem hn, hc]
theorem take_mem {l : List UInt8} {n : Nat} (h : ∀ i c, i < n → l[i]? = some c → 128 ≤ c.toNat) : ∀ x ∈ l.take n, 128 ≤ x.toNat := by
 intro x hx
 obtain ⟨i, hi, e⟩ := List.getElem_of_mem hx
 simp only [List.length_take] at hi
 refine h i x (by omega) ?_
 rw [List.getElem?_eq_getElem (by omega)]
 rw [List.getElem_take] at e
 rw [e]
/-- The number that ends at the first small byte. -/
theorem num_head {l : List UInt8} {n v' : Nat} {c : UInt8} {r : List UInt8} (h : ∀ i c, i < n → l[i]? = some c → 128 ≤ c.toNat) (hc : l[n]? = some c) (hs : c.toNat < 128) (h2 : numO 0 0 l = some (v', r)) : leb v' = l.take (n + 1) ∧ v' < 18446744073709551616 ∧ r = l.drop (n + 1) := by
 obtain ⟨e, hv⟩ := num_iff.1 h2
 obtain ⟨pre, d, e1, e2, e3⟩ := leb_shape v'
 have e4 := take_split hc
 rw [e4, e1, List.append_assoc] at e
 obtain ⟨f1, f2, f3⟩ := first_small (p := l.take n) (c := c) (r := l.drop (n + 1)) (q := pre) (d := d) (s := r) e (take_mem h) e2 hs e3
 refine ⟨?_, hv, f3.symm⟩
 rw [e1, take_snoc hc, f1, f2]
theorem num_good {l : List UInt8} {n v : Nat} (hv : v < 18446744073709551616) (he : leb v = l.take n) : numO 0 0 l = some (v, l.drop n) :=
 num_iff.2 ⟨by rw [he, List.take_append_drop], hv⟩
theorem num_bad {l : List UInt8} {n : Nat} {c : UInt8} (h : ∀ i c, i < n → l[i]? = some c → 128 ≤ c.toNat) (hc : l[n]? = some c) (hs : c.toNat < 128) (hne : leb (valB (l.take (n + 1)) % 18446744073709551616) ≠ l.take (n + 1)) : numO 0 0 l = none := by
 cases h2 : numO 0 0 l with
 | none => rfl
 | some q =>
  obtain ⟨v', r⟩ := q
  obtain ⟨e1, e2, -⟩ := num_head h hc hs h2
  exfalso
  apply hne
  rw [← e1, leb_val, Nat.mod_eq_of_lt e2]
theorem num_far {l : List UInt8} {n : Nat} (h : ∀ i c, i < n → l[i]? = some c → 128 ≤ c.toNat) (hn : 10 ≤ n ∨ l.length ≤ n) : numO 0 0 l = none := by
 cases h2 : numO 0 0 l with
 | none => rfl
 | some q =>
  obtain ⟨v', r⟩ := q
  exfalso
  obtain ⟨e, hv⟩ := num_iff.1 h2
  obtain ⟨pre, d, e1, e2, e3⟩ := leb_shape v'
  have hlen := leb_len hv
  rw [e1] at hlen e
  simp only [List.length_append, List.length_cons, List.length_nil] at hlen
  have hx : l[pre.length]? = some d := by rw [e]; simp
  have hl := (List.getElem?_eq_some_iff.1 hx).1
  have := h pre.length d (by omega) hx
  omega
theorem leb_ne (n : Nat) : leb n ≠ [] := by
 obtain ⟨pre, c, e, -⟩ := leb_shape n
 rw [e]
 simp
set_option maxRecDepth 100000 in
theorem cel_convT {w : World} {g o cap : Nat} {l : List UInt8} (h : Cel w g o l) : (convert 55 9 (.slice (some ⟨g, o, none⟩) l.length cap)).run Tryz.prog w = .ok (.string ⟨l.toArray⟩) w := by
 have h1 := run_convert_bytes_arg w 55 5 Tryz.underlying55 Tryz.underlying5 g o l.length cap (l.map fun c => ((c.toNat : Nat) : Int)) (by simp) (fun i hi => by
  have h2 : l[i]? = some (l[i]'hi) := List.getElem?_eq_getElem _
  rw [h i _ h2]
  simp [hi]) 9 Tryz.underlying9
 rw [h1]
 congr 2
 unfold strOfNums
 congr 2
 simp [List.map_map, Function.comp_def]
/-- How take ends: the number that stands there, if it is not beyond the most. -/
def TkEnds (w : World) (l : List UInt8) (N p most : Nat) (e : Ending) (w' : World) : Prop := ∃ (v q : Nat) (ok : Bool), e = .returned (.tuple #[.int .u64 (v : Nat), .int .i64 (q : Nat), .bool ok]) ∧ v < 18446744073709551616 ∧ p ≤ q ∧ q ≤ N ∧
 (ok = true → numO 0 0 (l.drop p) = some (v, l.drop q) ∧ v ≤ most ∧ p < q) ∧ (ok = false → ∀ v' r, numO 0 0 (l.drop p) = some (v', r) → most < v') ∧ Below w.heap.size w w'
set_option maxRecDepth 100000 in
set_option maxHeartbeats 4000000 in
theorem rtake_any (xa : Option Addr) (cap : Nat) (l : List UInt8) (hl : l.length ≤ 1000000) (hlc : l.length ≤ cap) (w : World) (hL : Lies w xa l) (p : Nat) (hp : p ≤ l.length) (most : Nat) (_hm : most < 18446744073709551616) :
  Calls Tryz.prog 95 #[.slice xa l.length cap, .int .i64 (p : Nat), .int .u64 (most : Nat)] w (TkEnds w l l.length p most) := by
 obtain ⟨N, hN⟩ : ∃ N, l.length = N := ⟨_, rfl⟩
 have HN := Lib.hid hN
 rw [hN] at hl hp hlc ⊢
 clear hN
 have HL := Lib.hid hL
 clear hL
 go_enter Tryz.func95, Tryz.ntmps95
 go_wp2_with fail
 go_loop [9] (fun i => ∃ n : Nat, i = .int .i64 ((n : Int) + 1) ∧ n ≤ 10 ∧ p + n ≤ N ∧ ∀ i c, i < n → (l.drop p)[i]? = some c → 128 ≤ c.toNat) (fun i => 11 - (intOf i).toNat)
 case atStart => exact ⟨0, rfl, by omega, by omega, fun i c hi => by omega⟩
 case round =>
  obtain ⟨n, rfl, hn, hpn, hbig⟩ := hrel
  have HBIG := Lib.hid hbig
  clear hbig
  by_cases h10 : n < 10
  ·have hd1 : decide ((n : Int) + 1 ≤ 10) = true := by simp; omega
   by_cases hin : p + n < N
   ·have hd2 : decide ((p : Int) + ((n : Int) + 1) ≤ (N : Int)) = true := by simp; omega
    obtain ⟨g, o, rfl, hg, hC⟩ := HL.out (fun e => by have := HN.out; rw [e] at this; simp at this; omega)
    have hnl : p + n < l.length := by have := HN.out; omega
    obtain ⟨b, hb⟩ : ∃ b, l[p + n] = b := ⟨_, rfl⟩
    have hdb : (l.drop p)[n]? = some b := by rw [List.getElem?_drop, List.getElem?_eq_getElem hnl, hb]
    have hcb := hC (p + n) l[p + n] (List.getElem?_eq_getElem hnl)
    rw [hb] at hcb
    have hb8 := u8_lt b
    obtain ⟨c, hc⟩ : ∃ c, b.toNat = c := ⟨_, rfl⟩
    rw [hc] at hcb hb8
    have HDB := Lib.hid hdb
    have HC := Lib.hid hc
    clear hdb hc hb hnl
    have e1 : (p : Int) + ((n : Int) + 1) - 1 = ((p + n : Nat) : Int) := by omega
    by_cases hbg : 128 ≤ c
    ·have hd3 : decide (128 ≤ (c : Int)) = true := by simp; omega
     have hd3b : decide (128 ≤ c) = true := by simpa using hbg
     have HB2 : Hid (∀ i d, i < n + 1 → (l.drop p)[i]? = some d → 128 ≤ d.toNat) := by
      intro i d hi hd
      rcases Nat.lt_or_ge i n with h1 | h1
      ·exact HBIG.out i d h1 hd
      ·obtain rfl : i = n := by omega
       rw [HDB.out] at hd
       injection hd with hd
       rw [← hd, HC.out]
       exact hbg
     go_wp2_with fail
     refine ⟨⟨n + 1, by congr 1, by omega, by omega, HB2.out⟩, ?_⟩
     simp [intOf]
     omega
    ·have hd3 : decide (128 ≤ (c : Int)) = false := by simp; omega
     have hd3b : decide (128 ≤ c) = false := by simpa using hbg
     obtain ⟨P, hP⟩ : ∃ P, (l.drop p).take (n + 1) = P := ⟨_, rfl⟩
     have hPl : P.length = n + 1 := by
      rw [← hP, List.length_take, List.length_drop, HN.out]
      omega
     have hPc : ∀ i d, P[i]? = some d → w.cell? ⟨g, o + (p + i), none⟩ = some (.int .u8 (d.toNat : Nat)) := by
      intro i d hd
      have hi := (List.getElem?_eq_some_iff.1 hd).1
      rw [← hP, List.getElem?_take, if_pos (by omega), List.getElem?_drop] at hd
      exact hC (p + i) d hd
     have HP := Lib.hid hP
     clear hP
     go_wp2_with fail
     go_loop [10, 11] (fun v k => ∃ m : Nat, m ≤ n + 1 ∧ k = .int .i64 ((m : Int) - 1) ∧ v = .int .u64 ((valB (P.drop m) % 18446744073709551616 : Nat) : Int)) (fun _ k => ((intOf k) + 1).toNat)
     case atStart => exact ⟨n + 1, Nat.le_refl _, by congr 1; omega, by rw [List.drop_eq_nil_of_le (by omega)]; rfl⟩
     case round =>
      obtain ⟨m, hm, rfl, rfl⟩ := hrel
      obtain ⟨V, hV⟩ : ∃ V, valB (P.drop m) % 18446744073709551616 = V := ⟨_, rfl⟩
      have hV64 : V < 18446744073709551616 := by rw [← hV]; exact Nat.mod_lt _ (by decide)
      rw [hV]
      by_cases h0 : 0 < m
      ·have hd5 : decide (0 ≤ (m : Int) - 1) = true := by simp; omega
       obtain ⟨q, rfl⟩ : ∃ q, m = q + 1 := ⟨m - 1, by omega⟩
       have e2 : (p : Int) + (((q + 1 : Nat) : Int) - 1) = ((p + q : Nat) : Int) := by omega
       have hcq := hPc q P[q] (List.getElem?_eq_getElem (by omega))
       have hq8 := u8_lt P[q]
       have HQ : Hid (valB (P.drop q) = P[q].toNat % 128 + 128 * valB (P.drop (q + 1))) := by
        show _ = _
        rw [List.drop_eq_getElem_cons (by omega), valB]
       obtain ⟨d, hdq⟩ : ∃ d, P[q].toNat = d := ⟨_, rfl⟩
       rw [hdq] at hcq hq8
       have HDQ := Lib.hid hdq
       have HV := Lib.hid hV
       clear hdq hV
       go_wp2_with fail
       refine ⟨⟨q, by omega, rfl, ?_⟩, by simp [intOf]⟩
       rw [HQ.out, HDQ.out, ← HV.out, IntKind.wrap_u64, IntKind.wrap_u64]
       congr 1
       omega
      ·obtain rfl : m = 0 := by omega
       have hd5 : decide (0 ≤ ((0 : Nat) : Int) - 1) = false := by decide
       rw [List.drop_zero] at hV
       have HV := Lib.hid hV
       clear hV
       go_wp2_with fail
       refine (rNumber_any V hV64 _).mono ?_
       rintro e w1 ⟨nv, rfl, hnv, hbn⟩
       obtain ⟨na, nc, rfl, hnl, -⟩ := hnv.lies
       have hcv1 := hnv.conv (leb_ne V)
       have hC1 : Cel w1 g (o + p) P := fun i d hd => by
        rw [Nat.add_assoc]
        exact (hbn.cell (p := ⟨g, o + (p + i), none⟩) hg).trans (hPc i d hd)
       have hcv2 := cel_convT (cap := cap - p) hC1
       have hg1 : g < w1.heap.size := Nat.lt_of_lt_of_le hg hbn.size
       rw [hPl] at hcv2
       have hpc : (p : Int) + ((n : Int) + 1) ≤ (cap : Int) := by omega
       have hpc2 : p + n + 1 ≤ cap := by omega
       have hpc3 : (p : Int) ≤ (p : Int) + ((n : Int) + 1) := by omega
       have hcvA : ∀ d os, (convert 55 9 (.slice na (leb V).length nc)).run Tryz.prog (grow (redrawn w1 d) os) = .ok (.string ⟨(leb V).toArray⟩) (grow (redrawn w1 d) os) := fun d os => (hnv.below (below_regrown w1 d os)).conv (leb_ne V)
       have hcvB : ∀ d os, (convert 55 9 (.slice (some ⟨g, o + p, none⟩) (n + 1) (cap - p))).run Tryz.prog (grow (redrawn w1 d) os) = .ok (.string ⟨P.toArray⟩) (grow (redrawn w1 d) os) := fun d os => by
        have := cel_convT (cap := cap - p) (hC1.below (below_regrown w1 d os) hg1)
        rwa [hPl] at this
       obtain ⟨E, hE⟩ : ∃ E, decide (leb V = P) = E := ⟨_, rfl⟩
       have hbe : ((⟨(leb V).toArray⟩ : ByteArray).toList == (⟨P.toArray⟩ : ByteArray).toList) = E := by
        rw [ByteArray.toList_eq, ByteArray.toList_eq, ← hE, Bool.eq_iff_iff]
        simp
       clear hcv1 hcv2 hnv hC1
       by_cases hvm : V ≤ most
       ·have hd6 : decide ((V : Int) ≤ (most : Int)) = true := by simpa using hvm
        have hd6b : decide (V ≤ most) = true := by simpa using hvm
        go_upto_region 11 with fail
        refine wp_region_quiet_below (by kernel_rfl) (by kernel_rfl) ?_
        repeat (go_big_quiet_step (fail))
        refine wpQuiet_nil ?_
        intro _ hw'
        obtain ⟨⟨dq, osq⟩, hw''⟩ := hw'
        subst hw''
        have hbq := hbn.trans ((below_regrown w1 dq osq).mono hbn.size)
        have HG : Hid ((leb V == P) = true → numO 0 0 (l.drop p) = some (V, l.drop (p + n + 1)) ∧ V ≤ most ∧ p < p + n + 1) := fun h => by
         have h1 := num_good (n := n + 1) hV64 (by rw [HP.out]; exact eq_of_beq h)
         rw [List.drop_drop] at h1
         exact ⟨h1, hvm, by omega⟩
        have HB2 : Hid ((leb V == P) = false → ∀ v' r, numO 0 0 (l.drop p) = some (v', r) → most < v') := fun h v' r h2 => by
         have h1 := num_bad HBIG.out HDB.out (by rw [HC.out]; omega) (by
          rw [HP.out, HV.out]
          intro e
          rw [e] at h
          simp at h)
         rw [h1] at h2
         cases h2
        go_wp2_with fail
        exact bodyPost_ret (v := .tuple #[.int .u64 (V : Nat), .int .i64 ((p : Int) + ((n : Int) + 1)), .bool (leb V == P)]) (by simp [results, Tryz.results95, go_sem]) rfl ⟨V, p + n + 1, _, by rw [show (p : Int) + ((n : Int) + 1) = ((p + n + 1 : Nat) : Int) by omega], hV64, by omega, by omega, HG.out, HB2.out, hbq⟩
       ·have hd6 : decide ((V : Int) ≤ (most : Int)) = false := by simp; omega
        have hd6b : decide (V ≤ most) = false := by simpa using hvm
        go_upto_region 11 with fail
        refine wp_region_quiet_below (by kernel_rfl) (by kernel_rfl) ?_
        repeat (go_big_quiet_step (fail))
        refine wpQuiet_nil ?_
        intro _ hw'
        obtain ⟨⟨dq, osq⟩, hw''⟩ := hw'
        subst hw''
        have hbq := hbn.trans ((below_regrown w1 dq osq).mono hbn.size)
        have HB2 : Hid (∀ v' r, numO 0 0 (l.drop p) = some (v', r) → most < v') := fun v' r h2 => by
         obtain ⟨f1, f2, -⟩ := num_head HBIG.out HDB.out (by rw [HC.out]; omega) h2
         rw [HP.out] at f1
         have := HV.out
         rw [← f1, leb_val, Nat.mod_eq_of_lt f2] at this
         omega
        go_wp2_with fail
        exact bodyPost_ret (v := .tuple #[.int .u64 (V : Nat), .int .i64 ((p : Int) + ((n : Int) + 1)), .bool false]) (by simp [results, Tryz.results95, go_sem]) rfl ⟨V, p + n + 1, false, by rw [show (p : Int) + ((n : Int) + 1) = ((p + n + 1 : Nat) : Int) by omega], hV64, by omega, by omega, fun h => (by cases h), fun _ => HB2.out, hbq⟩
   ·have hd2 : decide ((p : Int) + ((n : Int) + 1) ≤ (N : Int)) = false := by simp; omega
    have HF := Lib.hid (num_far (l := l.drop p) HBIG.out (.inr (by rw [List.length_drop, HN.out]; omega)))
    go_wp2_with fail
    exact bodyPost_ret (v := .tuple #[.int .u64 0, .int .i64 (p : Nat), .bool false]) (by simp [results, Tryz.results95, go_sem]) rfl ⟨0, p, false, rfl, by decide, Nat.le_refl _, hp, fun h => (by cases h), fun _ v' r h => (by rw [HF.out] at h; cases h), Below.refl _ _⟩
  ·have hd1 : decide ((n : Int) + 1 ≤ 10) = false := by simp; omega
   have HF := Lib.hid (num_far (l := l.drop p) HBIG.out (.inl (by omega)))
   go_wp2_with fail
   exact bodyPost_ret (v := .tuple #[.int .u64 0, .int .i64 (p : Nat), .bool false]) (by simp [results, Tryz.results95, go_sem]) rfl ⟨0, p, false, rfl, by decide, Nat.le_refl _, hp, fun h => (by cases h), fun _ v' r h => (by rw [HF.out] at h; cases h), Below.refl _ _⟩
end Go.Proofs.YtjldbbcdhdfliaaGreatDoor
