
/-
 Walks over strings.Builder's copyCheck, WriteByte and WriteString at this dump (after the kit's worked proofs), in the forms that keep every block but the builder's and rows of bytes.
-/
import Derived.Test.YtjldbbcdhdfliaaGreatDoorLVal
import Derived.Test.YtjldbbcdhdfliaaGreatDoorShelf
import Derived.Lib.ItoaLen
namespace Go.Proofs.YtjldbbcdhdfliaaGreatDoor
open Go.RowKit

theorem sizeBuilder : (Tryz.prog.info? 186).map (·.size) = some 2 := by kernel_rfl
theorem liesBuilder : liesAt Tryz.prog Tryz.prog.depth 186 (2 / Tryz.prog.cellsOf 186) 0 186 1 = true := by kernel_rfl
theorem infoByte : (Tryz.prog.info? 5).map (fun i => (i.zero, i.size, i.bytes)) = some (some (.int .u8 0), 1, 1) := by kernel_rfl

set_option maxHeartbeats 1000000 in
set_option maxRecDepth 100000 in
theorem copyCheck_used (b : Nat) (w : World) (h0 : w.cell? ⟨b, 0, none⟩ = some (.pointer (some ⟨b, 0, none⟩))) :
  Calls Tryz.prog 166 #[.pointer (some ⟨b, 0, none⟩)] w fun e w' => e = .returned (.tuple #[]) ∧ w' = w := by
 obtain ⟨j, hj, hjs⟩ := Option.map_eq_some_iff.1 sizeBuilder
 have hne := fun wx => Lib.run_neq_ptr_same (P := Tryz.prog) wx ⟨b, 0, none⟩ Tryz.underlying184 hj
 go_enter Tryz.func166, Tryz.ntmps166
 go_wp2
 go_end0
 exact ⟨rfl, rfl⟩

set_option maxHeartbeats 1000000 in
set_option maxRecDepth 100000 in
theorem copyCheck_fresh (b : Nat) (w : World) (h0 : w.cell? ⟨b, 0, none⟩ = some (.pointer none)) (hsh : w.shape? b = some (186, 2)) (hfz : w.frozen? ⟨b, 0, none⟩ = false) :
  Calls Tryz.prog 166 #[.pointer (some ⟨b, 0, none⟩)] w fun e w' => e = .returned (.tuple #[]) ∧ w' = w.setCell ⟨b, 0, none⟩ (.pointer (some ⟨b, 0, none⟩)) := by
 obtain ⟨j, hj, hjs⟩ := Option.map_eq_some_iff.1 sizeBuilder
 go_enter Tryz.func166, Tryz.ntmps166
 go_wp2
 rw [Lib.run_to_unsafe w ⟨b, 0, none⟩ Tryz.underlying184 Tryz.underlying239 hj (by rw [hjs]; decide) hsh (Nat.zero_lt_succ 1)]
 simp only [Result.andThen]
 rw [Oper.upon_value]
 go_wp2
 rw [run_callFunc_extern Tryz.func182 (by kernel_rfl) (by kernel_rfl) (by kernel_rfl) (e := Extern.AbiNoEscape.same) (by kernel_rfl)]
 rw [Lib.run_noEscape]
 simp only [Result.andThen]
 rw [Oper.upon_value]
 go_wp2
 rw [Lib.run_from_unsafe w ⟨b, 0, none⟩ Tryz.underlying239 Tryz.underlying184 hj hsh liesBuilder]
 simp only [Result.andThen]
 rw [Oper.upon_value]
 go_wp2
 go_end0
 exact ⟨rfl, rfl⟩

/-- A builder of the call's own. -/
abbrev IsB (B b : Nat) (bs : List Value) (w : World) : Prop := Lib.IsBuilderF 186 5 B b bs w
abbrev OK8 (b : Nat) (w w' : World) : Prop := Lib.OthersKept 5 (some b) w w'

theorem copyCheck_k (B b : Nat) (bs : List Value) (w : World) (h : IsB B b bs w) :
  Calls Tryz.prog 166 #[.pointer (some ⟨b, 0, none⟩)] w fun e w' => e = .returned (.tuple #[]) ∧ (Lib.BuilderAtF 186 5 B b (.pointer (some ⟨b, 0, none⟩)) bs w' ∧ Below B w w' ∧ OK8 b w w') := by
 rcases h with h | h
 ·refine (copyCheck_fresh b w h.cell0 h.shape h.frozen0).mono ?_
  rintro e w' ⟨rfl, rfl⟩
  exact ⟨rfl, h.used _, (Below.refl B w).setCell (p := ⟨b, 0, none⟩) h.1 _, (Lib.OthersKept.refl _ _ w).setCell ⟨b, 0, none⟩ rfl _⟩
 ·refine (copyCheck_used b w h.cell0).mono ?_
  rintro e w' ⟨rfl, rfl⟩
  exact ⟨rfl, h, Below.refl B _, Lib.OthersKept.refl _ _ _⟩

theorem lt_of_heap {w : World} {b : Nat} {o : Obj} (h : w.heap[b]? = some o) : b < w.heap.size := by
 rcases Nat.lt_or_ge b w.heap.size with h' | h'
 ·exact h'
 ·simp [Array.getElem?_eq_none h'] at h

set_option maxHeartbeats 2000000 in
set_option maxRecDepth 100000 in
theorem WriteByte_k (B b : Nat) (bs : List Value) (c : Int) (w : World) (h : IsB B b bs w) (hlen : bs.length + 1 ≤ 140737488355328) (hBw : B ≤ w.heap.size) :
  Calls Tryz.prog 141 #[.pointer (some ⟨b, 0, none⟩), .int .u8 c] w fun e w' => e = .returned .nilIface ∧ (IsB B b (bs ++ [.int .u8 c]) w' ∧ Below B w w' ∧ OK8 b w w') := by
 obtain ⟨i0, hi, hz0, hz1, hz2⟩ := info_parts infoByte
 go_enter Tryz.func141, Tryz.ntmps141
 go_wp2_with (go_at_call 166; refine (copyCheck_k B b bs _ h).mono ?_)
 rintro e w1 ⟨rfl, h1, hb1, hk1⟩
 obtain ⟨hB, v, hbk, hown, hne⟩ := h1
 have c0 : w1.cell? ⟨b, 0, none⟩ = some (.pointer (some ⟨b, 0, none⟩)) := by rw [Lib.cell_of_heap hbk]; rfl
 have c1 : w1.cell? ⟨b, 1, none⟩ = some v := by rw [Lib.cell_of_heap hbk]; rfl
 go_wp2_with (at_builtin; refine wpList_append_ownF _ rfl _ _ 55 rfl B 5 i0 (.int .u8 0) 1 1 Tryz.underlying55 hi hz0 hz1 hz2 rfl (by decide) _ _ _ rfl (hown.alloc _) ⟨w1.heap.size, 0, none⟩ 1 1 [.int .u8 c] rfl rfl ?c1 ?c2 ?c3 ?c4 ?c5 ?_)
 case c1 =>
  intro j u hj
  match j, hj with
  | 0, hj => simp at hj; subst hj; simp [Addr.add]
 case c2 => intro u hu; simp at hu; subst hu; rfl
 case c3 => unfold maxLen; omega
 case c4 => omega
 case c5 => have := hb1.size; simp; omega
 intro v' w2 hown' hgrow _
 have hlt : b < w1.heap.size := lt_of_heap hbk
 have hb2 : w2.heap[b]? = some (.cells #[.pointer (some ⟨b, 0, none⟩), v] 186 (0, 0)) := by
  rw [hgrow.block b (by simp; omega) (fun e => hne e.symm), Lib.alloc_old w1 _ b hlt]
  exact hbk
 have d0 : w2.cell? ⟨b, 0, none⟩ = some (.pointer (some ⟨b, 0, none⟩)) := by rw [Lib.cell_of_heap hb2]; rfl
 have d1 : w2.cell? ⟨b, 1, none⟩ = some v := by rw [Lib.cell_of_heap hb2]; rfl
 have f1 : w2.frozen? ⟨b, 1, none⟩ = false := Lib.frozen_of_heap hb2 1
 obtain ⟨g, cap, rfl⟩ : ∃ g cap, v' = .slice (some ⟨g, 0, none⟩) (bs.length + 1) cap := by
  rcases hown'.2 with ⟨_, h0⟩ | ⟨g, cap, cur, fz, hv, _⟩
  ·omega
  ·exact ⟨g, cap, hv⟩
 go_wp2
 go_ret
 refine ⟨rfl, .inr ?_, ?_, ((hk1.alloc _).grown hgrow (Lib.ownsRowF_kind (hown.alloc _))).setCell ⟨b, 1, none⟩ rfl _⟩
 ·exact Lib.BuilderAtF.put (T := 186) (e := 5) hB hb2 (bs' := bs ++ [.int .u8 c]) (by simpa using hown') (by decide)
 ·exact ((hb1.alloc (by have := hb1.size; omega) _).grown hgrow (by have := hb1.size; simp; omega) (fun k hk => (hown.lt k hk).1)).setCell (p := ⟨b, 1, none⟩) hB _

set_option maxHeartbeats 2000000 in
set_option maxRecDepth 100000 in
theorem WriteString_k (B b : Nat) (bs : List Value) (s : ByteArray) (w : World) (h : IsB B b bs w) (hlen : bs.length + s.size ≤ 140737488355328) (hBw : B ≤ w.heap.size) :
  Calls Tryz.prog 139 #[.pointer (some ⟨b, 0, none⟩), .string s] w fun e w' => e = .returned (.tuple #[.int .i64 s.size, .nilIface]) ∧ (IsB B b (bs ++ Lib.strCells s) w' ∧ Below B w w' ∧ OK8 b w w') := by
 obtain ⟨i0, hi, hz0, hz1, hz2⟩ := info_parts infoByte
 go_enter Tryz.func139, Tryz.ntmps139
 go_wp2_with (go_at_call 166; refine (copyCheck_k B b bs _ h).mono ?_)
 rintro e w1 ⟨rfl, h1, hb1, hk1⟩
 obtain ⟨hB, v, hbk, hown, hne⟩ := h1
 have c0 : w1.cell? ⟨b, 0, none⟩ = some (.pointer (some ⟨b, 0, none⟩)) := by rw [Lib.cell_of_heap hbk]; rfl
 have c1 : w1.cell? ⟨b, 1, none⟩ = some v := by rw [Lib.cell_of_heap hbk]; rfl
 go_wp2_with (at_builtin; refine Lib.wpList_append_own_stringF _ rfl _ _ 55 9 rfl B 5 i0 Tryz.underlying55 Tryz.underlying9 hi hz0 hz1 hz2 _ _ _ rfl hown s rfl ?c3 ?c4 ?c5 ?_)
 case c3 => unfold maxLen; omega
 case c4 => omega
 case c5 => have := hb1.size; omega
 intro v' w2 hown' hgrow _
 have hlt : b < w1.heap.size := lt_of_heap hbk
 have hb2 : w2.heap[b]? = some (.cells #[.pointer (some ⟨b, 0, none⟩), v] 186 (0, 0)) := by
  rw [hgrow.block b hlt (fun e => hne e.symm)]
  exact hbk
 have d0 : w2.cell? ⟨b, 0, none⟩ = some (.pointer (some ⟨b, 0, none⟩)) := by rw [Lib.cell_of_heap hb2]; rfl
 have d1 : w2.cell? ⟨b, 1, none⟩ = some v := by rw [Lib.cell_of_heap hb2]; rfl
 have f1 : w2.frozen? ⟨b, 1, none⟩ = false := Lib.frozen_of_heap hb2 1
 obtain ⟨ao, n', cap, rfl⟩ : ∃ ao n' cap, v' = .slice ao n' cap := by
  rcases hown'.2 with ⟨hv, _⟩ | ⟨g, cap, cur, fz, hv, _⟩
  ·exact ⟨_, _, _, hv⟩
  ·exact ⟨_, _, _, hv⟩
 go_wp2
 go_ret2
 refine ⟨rfl, .inr ?_, ?_, (hk1.grown hgrow (Lib.ownsRowF_kind hown)).setCell ⟨b, 1, none⟩ rfl _⟩
 ·exact Lib.BuilderAtF.put (T := 186) (e := 5) hB hb2 (bs' := bs ++ Lib.strCells s) (by simpa [Lib.strCells_length] using hown') (by decide)
 ·exact (hb1.grown hgrow (by have := hb1.size; omega) (fun k hk => (hown.lt k hk).1)).setCell (p := ⟨b, 1, none⟩) hB _
end Go.Proofs.YtjldbbcdhdfliaaGreatDoor
/-
 Walks over package valtext: numbered, write, Text, Lines.
-/
namespace Go.Proofs.YtjldbbcdhdfliaaGreatDoor
open Go.RowKit

/-- What the package-level variables hold. -/
structure Env (w : World) : Prop where
 words : HasWords w
 tab : Lib.TabIs Tryz.prog w "internal/strconv.uint64pow10" .u64 Lib.pow10Tab
 maxl : ∃ m, w.cell? ⟨1, 0, none⟩ = some (.int .i64 m)
 size : 5 ≤ w.heap.size
theorem gPow : Tryz.prog.globalNamed "internal/strconv.uint64pow10" = some 4 := by kernel_rfl
theorem Env.below {B : Nat} {w w' : World} (h : Env w) (hb : Below B w w') (hB : 5 ≤ B) : Env w' := by
 have hsz := hb.size
 have h5 := h.size
 refine ⟨?_, ?_, ?_, by omega⟩
 ·obtain ⟨t, fr, hx⟩ := h.words
  exact ⟨t, fr, (hb.block _ (by omega)).trans hx⟩
 ·exact var?_below hb gPow (by omega) h.tab
 ·obtain ⟨m, hm⟩ := h.maxl
  exact ⟨m, (hb.cell (p := ⟨1, 0, none⟩) (by show 1 < B; omega)).trans hm⟩
theorem Env.belowAll {w w' : World} (h : Env w) (hb : Below w.heap.size w w') : Env w' := h.below hb h.size

/-- A builder that holds bytes. -/
def IsBl (B b : Nat) (l : List UInt8) (w : World) : Prop := IsB B b (Lib.byteCells l) w
theorem IsB.keepAll {B b : Nat} {bs : List Value} {w w' : World} (h : IsB B b bs w) (hb : Below w.heap.size w w') : IsB B b bs w' := by
 have key : ∀ p, Lib.BuilderAtF 186 5 B b p bs w → Lib.BuilderAtF 186 5 B b p bs w' := by
  rintro p ⟨hB, v, hbk, ⟨h1, h2⟩, hne⟩
  refine ⟨hB, v, (hb.block b (lt_of_heap hbk)).trans hbk, ⟨h1, ?_⟩, hne⟩
  rcases h2 with h2 | ⟨g, cap, cur, fz, e1, e2, e3, e4⟩
  ·exact .inl h2
  ·exact .inr ⟨g, cap, cur, fz, e1, e2, (hb.block g (lt_of_heap e3)).trans e3, e4⟩
 exact h.imp (key _) (key _)
theorem IsBl.keepAll {B b : Nat} {l : List UInt8} {w w' : World} (h : IsBl B b l w) (hb : Below w.heap.size w w') : IsBl B b l w' := IsB.keepAll h hb
theorem IsBl.lt {B b : Nat} {l : List UInt8} {w : World} (h : IsBl B b l w) : B ≤ b ∧ b < w.heap.size := by
 rcases h with ⟨hB, v, hbk, _⟩ | ⟨hB, v, hbk, _⟩ <;> exact ⟨hB, lt_of_heap hbk⟩
theorem OK8.ofAll {b : Nat} {w w' : World} (hb : Below w.heap.size w w') : OK8 b w w' := fun k _o hk _ _ => (hb.block k (lt_of_heap hk)).trans hk
theorem Bx.ok8 {b g : Nat} {w w' : World} {t : TypeId} {v0 v1 v2 : Value} (h : Bx w g t v0 v1 v2) (hk : OK8 b w w') (hg : g ≠ b) (ht : t ≠ 5) : Bx w' g t v0 v1 v2 :=
 hk g _ h (fun e => hg (by injection e)) (fun c fz e => ht (by injection e))

theorem writeS (B b : Nat) (l : List UInt8) (s : ByteArray) (w : World) (h : IsBl B b l w) (hlen : l.length + s.size ≤ 140737488355328) (hBw : B ≤ w.heap.size) :
  Calls Tryz.prog 139 #[.pointer (some ⟨b, 0, none⟩), .string s] w fun e w' => e = .returned (.tuple #[.int .i64 s.size, .nilIface]) ∧ IsBl B b (l ++ s.data.toList) w' ∧ Below B w w' ∧ OK8 b w w' := by
 refine (WriteString_k B b _ s w h (by rw [Lib.byteCells_length]; exact hlen) hBw).mono ?_
 rintro e w' ⟨rfl, h1, h2, h3⟩
 refine ⟨rfl, ?_, h2, h3⟩
 unfold IsBl
 rw [Lib.byteCells_append, ← Lib.strCells_eq]
 exact h1
theorem writeC (B b : Nat) (l : List UInt8) (c : UInt8) (ci : Int) (hc : (c.toNat : Int) = ci) (w : World) (h : IsBl B b l w) (hlen : l.length + 1 ≤ 140737488355328) (hBw : B ≤ w.heap.size) :
  Calls Tryz.prog 141 #[.pointer (some ⟨b, 0, none⟩), .int .u8 ci] w fun e w' => e = .returned .nilIface ∧ IsBl B b (l ++ [c]) w' ∧ Below B w w' ∧ OK8 b w w' := by
 subst hc
 refine (WriteByte_k B b _ _ w h (by rw [Lib.byteCells_length]; exact hlen) hBw).mono ?_
 rintro e w' ⟨rfl, h1, h2, h3⟩
 refine ⟨rfl, ?_, h2, h3⟩
 unfold IsBl
 rw [Lib.byteCells_append]
 exact h1
theorem below_growN (w : World) (k : Nat) (os : Array Obj) : Below w.heap.size w (Sort.grow (w.drewN k) os) :=
 ⟨rfl, rfl, rfl, by show w.heap.size ≤ (w.heap ++ os).size; rw [Array.size_append]; omega, fun j hj => by
  show (w.heap ++ os)[j]? = _
  rw [Array.getElem?_append_left hj]⟩
theorem fmtInt (n : Int) (hn : Rng n) (w : World) (hE : Env w) :
  Calls Tryz.prog 140 #[.int .i64 n, .int .i64 10] w fun e w' => e = .returned (.string ⟨(Lib.itoa n).toArray⟩) ∧ Below w.heap.size w w' := by
 refine (Tryz.strconv_FormatInt_10 n hn.1 hn.2 w hE.tab).mono ?_
 rintro e w' ⟨rfl, k, os, rfl⟩
 exact ⟨rfl, below_growN w k os⟩

def numd (k : Int) : Bool := decide (k = 4) || decide (k = 10) || decide (k = 11) || decide (k = 12) || decide (k = 13)
set_option maxHeartbeats 400000 in
theorem numbered_any (k : Int) (w : World) : Calls Tryz.prog 142 #[.int .i64 k] w fun e w' => e = .returned (.bool (numd k)) ∧ w = w' := by
 go_enter Tryz.func142, Tryz.ntmps142
 go_wp2_with fail
 all_goals go_ret
 all_goals refine ⟨ret_bool ?_, rfl⟩
 all_goals simp_all [numd]

mutual
/-- A value's text. -/
def txt : VT → List UInt8
 | .mk k n l => if k = 2 then Lib.itoa n else wdl k.toNat ++ (if k = 1 ∨ k = 8 then [] else 40 :: ((if numd k then Lib.itoa n else []) ++ (txtL l (numd k) ++ [41])))
def txtL : List VT → Bool → List UInt8
 | [], _ => []
 | t :: r, c => (if c then [44] else []) ++ (txt t ++ txtL r true)
end
theorem shp_kind {k n : Int} {l : List VT} (h : shp k n l = true) : 1 ≤ k ∧ k ≤ 13 := by
 unfold shp shpN at h
 rcases Int.lt_or_le k 1 with h1 | h1
 ·rw [if_neg (by omega), if_neg (by omega), if_neg (by omega), if_neg (by omega), if_neg (by omega), if_neg (by omega), if_neg (by omega), if_neg (by omega), if_neg (by omega), if_neg (by omega)] at h
  cases h
 ·rcases Int.lt_or_le 13 k with h2 | h2
  ·rw [if_neg (by omega), if_neg (by omega), if_neg (by omega), if_neg (by omega), if_neg (by omega), if_neg (by omega), if_neg (by omega), if_neg (by omega), if_neg (by omega), if_neg (by omega)] at h
   cases h
  ·exact ⟨h1, h2⟩
theorem shpsL_mem {l : List VT} (h : shpsL l = true) {t : VT} (ht : t ∈ l) : shps t = true := by
 induction l with
 | nil => cases ht
 | cons a r ih =>
  rw [shpsL, Bool.and_eq_true] at h
  rcases List.mem_cons.1 ht with rfl | h2
  ·exact h.1
  ·exact ih h.2 h2

/-- How write ends. -/
def WEnds (B b : Nat) (l : List UInt8) (w : World) (e : Ending) (w' : World) : Prop := e = .returned (.tuple #[]) ∧ IsBl B b l w' ∧ Below B w w' ∧ OK8 b w w'

set_option maxRecDepth 100000 in
set_option maxHeartbeats 4000000 in
theorem write_any (m : Nat) : ∀ (t : VT) (v : Value) (B b : Nat) (l0 : List UInt8) (w : World), SizeOf.sizeOf t ≤ m → IsV (· < B) w t v → shps t = true → IsBl B b l0 w → l0.length + (txt t).length ≤ 140737488355328 → 5 ≤ B → Env w →
  Calls Tryz.prog 116 #[.pointer (some ⟨b, 0, none⟩), v] w (WEnds B b (l0 ++ txt t) w) := by
 induction m with
 | zero => intro t; cases t; simp
 | succ m ih =>
  intro t v B b l0 w hk hv hsh hB hlen hB5 hE
  obtain ⟨kd, nn, l⟩ := t
  rw [IsV] at hv
  obtain ⟨a, cap, rfl, hkr, hnr, hl, hcap, hrow⟩ := hv
  unfold maxLen at hcap
  have HI := Lib.hid ih
  clear ih
  rw [shps, Bool.and_eq_true] at hsh
  have hkind := shp_kind hsh.1
  have HSL := Lib.hid hsh.2
  clear hsh
  obtain ⟨hBb, hbw⟩ := hB.lt
  have hbx := Bx.new w 27 (.int .i64 kd) (.int .i64 nn) (.slice a l.length cap)
  have hB1 := hB.keepAll (below_alloc w (.cells #[.int .i64 kd, .int .i64 nn, .slice a l.length cap] 27))
  have hE1 := hE.belowAll (below_alloc w (.cells #[.int .i64 kd, .int .i64 nn, .slice a l.length cap] 27))
  have hlo : Below B w (w.alloc (.cells #[.int .i64 kd, .int .i64 nn, .slice a l.length cap] 27)) := (below_alloc w _).mono (by omega)
  have hok : OK8 b w (w.alloc (.cells #[.int .i64 kd, .int .i64 nn, .slice a l.length cap] 27)) := OK8.ofAll (below_alloc w _)
  by_cases h2 : kd = 2
  ·subst h2
   have HT : Hid (txt (.mk 2 nn l) = Lib.itoa nn) := by show _ = _; rw [txt, if_pos rfl]
   rw [HT.out] at hlen ⊢
   go_enter Tryz.func116, Tryz.ntmps116
   go_wp2_with fail
   generalize w.alloc (.cells #[.int .i64 2, .int .i64 nn, .slice a l.length cap] 27) = w1 at *
   refine (fmtInt nn hnr _ hE1).mono ?_
   rintro e w2 ⟨rfl, hb2⟩
   go_wp2_with fail
   refine (writeS B b l0 ⟨(Lib.itoa nn).toArray⟩ _ (hB1.keepAll hb2) hlen (by have := hb2.size; have := hlo.size; omega)).mono ?_
   rintro e w3 ⟨rfl, hB3, hlo3, hok3⟩
   go_wp2_with fail
   refine bodyPost_ret (results_none rfl _ _ _) rfl ?_
   exact ⟨rfl, hB3, (hlo.trans (hb2.mono (by have := hlo.size; omega))).trans hlo3, (hok.trans (OK8.ofAll hb2)).trans hok3⟩
  ·obtain ⟨j, rfl⟩ := Int.eq_ofNat_of_zero_le (show 0 ≤ kd by omega)
   have hj : j < 14 := by omega
   have e2 : ((j : Int) == 2) = false := by rw [beq_eq_false_iff_ne]; exact h2
   by_cases hleaf : (j : Int) = 1 ∨ (j : Int) = 8
   ·have HT : Hid (txt (.mk j nn l) = wdl j) := by show _ = _; rw [txt, if_neg h2, if_pos hleaf]; simp
    rw [HT.out] at hlen ⊢
    have hwc := word_cell hE1.words j hj
    go_enter Tryz.func116, Tryz.ntmps116
    have q0 := hbx.c0
    go_wp2_with fail
    generalize w.alloc (.cells #[.int .i64 (j : Int), .int .i64 nn, .slice a l.length cap] 27) = w1 at *
    refine (writeS B b l0 (wdB j) _ hB1 hlen (by have := hlo.size; omega)).mono ?_
    rintro e w2 ⟨rfl, hB2, hlo2, hok2⟩
    have hbx2 := hbx.ok8 hok2 (by omega) (by decide)
    have z0 := hbx2.c0
    have hfin : WEnds B b (l0 ++ wdl j) w (.returned (.tuple #[])) w2 := ⟨rfl, hB2, hlo.trans hlo2, hok.trans hok2⟩
    have HFIN := Lib.hid hfin
    clear hfin hwc q0
    rcases hleaf with h1 | h1
    all_goals
     obtain rfl : j = _ := Int.ofNat_inj.1 h1
     go_wp2_with fail
     refine bodyPost_ret (results_none rfl _ _ _) rfl ?_
     exact HFIN.out
   ·have e1 : ((j : Int) == 1) = false := by rw [beq_eq_false_iff_ne]; omega
    have e8 : ((j : Int) == 8) = false := by rw [beq_eq_false_iff_ne]; omega
    cases hnd : numd j
    ·have HND := Lib.hid hnd
     clear hnd
     have HT : Hid (txt (.mk j nn l) = wdl j ++ (40 :: (txtL l false ++ [41]))) := by
      show _ = _
      rw [txt, if_neg h2, if_neg hleaf, HND.out]
      rfl
     rw [HT.out] at hlen
     simp only [List.length_append, List.length_cons, List.length_nil] at hlen
     have hwl : (wdB j).size = (wdl j).length := rfl
     have hwc := word_cell hE1.words j hj
     go_enter Tryz.func116, Tryz.ntmps116
     go_wp2_with fail
     have hsz1 := hlo.size
     generalize w.alloc (.cells #[.int .i64 (j : Int), .int .i64 nn, .slice a l.length cap] 27) = w1 at *
     refine (writeS B b l0 (wdB j) _ hB1 (by omega) (by omega)).mono ?_
     rintro e w2 ⟨rfl, hB2, hlo2, hok2⟩
     have hbx2 := hbx.ok8 hok2 (by omega) (by decide)
     have hE2 := hE1.below hlo2 hB5
     have hlo2' := hlo.trans hlo2
     have hok2' := hok.trans hok2
     have hsz2 := hlo2'.size
     clear hbx hB1 hE1 hlo hok hlo2 hok2 hwc
     have z0 := hbx2.c0
     go_wp2_with fail
     refine (writeC B b _ 40 40 (by decide) _ hB2 (by simp only [List.length_append, show (wdB j).data.toList = wdl j from rfl]; omega) (by omega)).mono ?_
     rintro e w3 ⟨rfl, hB3, hlo3, hok3⟩
     have hbx3 := hbx2.ok8 hok3 (by omega) (by decide)
     have hE3 := hE2.below hlo3 hB5
     have hlo3' := hlo2'.trans hlo3
     have hok3' := hok2'.trans hok3
     have hsz3 := hlo3'.size
     clear hbx2 hB2 hE2 hlo2' hok2' hlo3 hok3 z0
     have y0 := hbx3.c0
     go_wp2_with fail
     refine (numbered_any _ _).mono ?_
     rintro e w4 ⟨rfl, rfl⟩
     rw [HND.out]
     have x2 := hbx3.c2
     go_wp2_with fail
     go_loopw [4, 6, 42] (fun cm _ x wr => ∃ (i : Nat) (c : Bool) (done : List UInt8), i ≤ l.length ∧ x = .int .i64 i ∧ cm = .bool c ∧ txtL l false = done ++ txtL (l.drop i) c ∧ IsBl B b ((l0 ++ wdl j ++ [40]) ++ done) wr ∧ Below B w wr ∧ OK8 b w wr ∧ Env wr) (fun _ _ x _ => l.length - (intOf x).toNat)
     case atStart => exact ⟨0, false, [], by omega, rfl, rfl, rfl, by rw [List.append_nil]; exact hB3, hlo3', hok3', hE3⟩
     case round =>
      obtain ⟨i, c, done, hi, rfl, rfl, hq, hBr, hlor, hokr, hEr⟩ := hrel
      have HQ := Lib.hid hq
      have hqlen : (txtL l false).length = done.length + (txtL (l.drop i) c).length := by rw [hq, List.length_append]
      clear hq
      have hszr := hlor.size
      by_cases hlt : i < l.length
      ·obtain ⟨kk, n2, ll, g, o, a', cap', hlj, rfl, hg, c0, c1, c2, ht⟩ := hrow.at_ hlt
       have d0 := (hlor.cell (p := ⟨g, o + i * 3, none⟩) hg).trans c0
       have d1 := (hlor.cell (p := ⟨g, o + i * 3 + 1, none⟩) hg).trans c1
       have d2 := (hlor.cell (p := ⟨g, o + i * 3 + 2, none⟩) hg).trans c2
       have hsub : shps (.mk kk n2 ll) = true := by rw [← hlj]; exact shpsL_mem HSL.out (List.getElem_mem hlt)
       have hszk : SizeOf.sizeOf (VT.mk kk n2 ll) ≤ m := by rw [← hlj]; exact sz_lt (List.getElem_mem hlt) hk
       have hstep : txtL (l.drop i) c = (if c then [44] else []) ++ (txt (.mk kk n2 ll) ++ txtL (l.drop (i + 1)) true) := by
        rw [List.drop_eq_getElem_cons hlt, txtL, hlj]
       have hsl : (txtL (l.drop i) c).length = (if c then [44] else ([] : List UInt8)).length + ((txt (.mk kk n2 ll)).length + (txtL (l.drop (i + 1)) true).length) := by rw [hstep]; simp only [List.length_append]
       have HS := Lib.hid hstep
       clear hstep hlj c0 c1 c2
       have htr := ht.below hlor
       have hbn := Bx.new wr 27 (.int .i64 kk) (.int .i64 n2) (.slice a' ll.length cap')
       have hBn := hBr.keepAll (below_alloc wr (.cells #[.int .i64 kk, .int .i64 n2, .slice a' ll.length cap'] 27))
       have hEn := hEr.belowAll (below_alloc wr (.cells #[.int .i64 kk, .int .i64 n2, .slice a' ll.length cap'] 27))
       have hlon := hlor.trans ((below_alloc wr (.cells #[.int .i64 kk, .int .i64 n2, .slice a' ll.length cap'] 27)).mono (by omega))
       have hokn := hokr.trans (OK8.ofAll (below_alloc wr (.cells #[.int .i64 kk, .int .i64 n2, .slice a' ll.length cap'] 27)))
       have htn := htr.below ((below_alloc wr (.cells #[.int .i64 kk, .int .i64 n2, .slice a' ll.length cap'] 27)).mono (by omega : B ≤ wr.heap.size))
       have hblt := hBr.lt
       cases c
       ·simp only [Bool.false_eq_true, if_false, List.length_nil] at hsl
        go_wp2_with fail
        generalize wr.alloc (.cells #[.int .i64 kk, .int .i64 n2, .slice a' ll.length cap'] 27) = wn at *
        refine (HI.out (.mk kk n2 ll) _ B b _ _ hszk htn hsub hBn (by simp only [List.length_append, List.length_cons, List.length_nil] at hlen ⊢; omega) hB5 hEn).mono ?_
        rintro e w8 ⟨rfl, hB8, hlo8, hok8⟩
        go_wp2_with fail
        go_roundw
        case rel =>
         refine ⟨i + 1, true, done ++ txt (.mk kk n2 ll), by omega, by go_num, rfl, ?_, ?_, hlon.trans hlo8, hokn.trans hok8, hEn.below hlo8 hB5⟩
         ·rw [HQ.out, HS.out]; simp
         ·rw [← List.append_assoc]; exact hB8
        case measure => simp [intOf]; omega
       ·simp only [if_true, List.length_cons, List.length_nil] at hsl
        go_wp2_with fail
        have hsn : B ≤ (wr.alloc (.cells #[.int .i64 kk, .int .i64 n2, .slice a' ll.length cap'] 27)).heap.size := by simp; omega
        generalize wr.alloc (.cells #[.int .i64 kk, .int .i64 n2, .slice a' ll.length cap'] 27) = wn at *
        refine (writeC B b _ 44 44 (by decide) _ hBn (by simp only [List.length_append, List.length_cons, List.length_nil] at hlen ⊢; omega) hsn).mono ?_
        rintro e w7 ⟨rfl, hB7, hlo7, hok7⟩
        have hb7 := hbn.ok8 hok7 (by omega) (by decide)
        have b0 := hb7.c0
        have b1 := hb7.c1
        have b2 := hb7.c2
        go_wp2_with fail
        refine (HI.out (.mk kk n2 ll) _ B b _ _ hszk (htn.below hlo7) hsub hB7 (by simp only [List.length_append, List.length_cons, List.length_nil] at hlen ⊢; omega) hB5 (hEn.below hlo7 hB5)).mono ?_
        rintro e w8 ⟨rfl, hB8, hlo8, hok8⟩
        go_wp2_with fail
        go_roundw
        case rel =>
         refine ⟨i + 1, true, done ++ [44] ++ txt (.mk kk n2 ll), by omega, by go_num, rfl, ?_, ?_, (hlon.trans hlo7).trans hlo8, (hokn.trans hok7).trans hok8, (hEn.below hlo7 hB5).below hlo8 hB5⟩
         ·rw [HQ.out, HS.out]; simp
         ·have e9 : (l0 ++ wdl j ++ [40]) ++ (done ++ [44] ++ txt (.mk kk n2 ll)) = (l0 ++ wdl j ++ [40]) ++ done ++ [44] ++ txt (.mk kk n2 ll) := by simp only [List.append_assoc]
          rw [e9]; exact hB8
        case measure => simp [intOf]; omega
      ·have hnil : txtL (l.drop i) c = [] := by rw [List.drop_of_length_le (by omega), txtL]
       rw [hnil] at hqlen
       have HN := Lib.hid hnil
       clear hnil
       go_wp2_with fail
       refine (writeC B b _ 41 41 (by decide) _ hBr (by simp only [List.length_append, List.length_cons, List.length_nil] at hlen hqlen ⊢; omega) (by omega)).mono ?_
       rintro e w9 ⟨rfl, hB9, hlo9, hok9⟩
       go_wp2_with fail
       go_end0
       refine ⟨rfl, ?_, hlor.trans hlo9, hokr.trans hok9⟩
       rw [HT.out]
       have e9 : l0 ++ (wdl j ++ 40 :: (txtL l false ++ [41])) = (l0 ++ wdl j ++ [40]) ++ done ++ [41] := by
        rw [HQ.out, HN.out]; simp
       rw [e9]; exact hB9
    ·have HND := Lib.hid hnd
     clear hnd
     have HT : Hid (txt (.mk j nn l) = wdl j ++ (40 :: (Lib.itoa nn ++ (txtL l true ++ [41])))) := by
      show _ = _
      rw [txt, if_neg h2, if_neg hleaf, HND.out]
      rfl
     rw [HT.out] at hlen
     simp only [List.length_append, List.length_cons, List.length_nil] at hlen
     have hwl : (wdB j).size = (wdl j).length := rfl
     have hwc := word_cell hE1.words j hj
     go_enter Tryz.func116, Tryz.ntmps116
     go_wp2_with fail
     have hsz1 := hlo.size
     generalize w.alloc (.cells #[.int .i64 (j : Int), .int .i64 nn, .slice a l.length cap] 27) = w1 at *
     refine (writeS B b l0 (wdB j) _ hB1 (by omega) (by omega)).mono ?_
     rintro e w2 ⟨rfl, hB2, hlo2, hok2⟩
     have hbx2 := hbx.ok8 hok2 (by omega) (by decide)
     have hE2 := hE1.below hlo2 hB5
     have hlo2' := hlo.trans hlo2
     have hok2' := hok.trans hok2
     have hsz2 := hlo2'.size
     clear hbx hB1 hE1 hlo hok hlo2 hok2 hwc
     have z0 := hbx2.c0
     go_wp2_with fail
     refine (writeC B b _ 40 40 (by decide) _ hB2 (by simp only [List.length_append, show (wdB j).data.toList = wdl j from rfl]; omega) (by omega)).mono ?_
     rintro e w3 ⟨rfl, hB3, hlo3, hok3⟩
     have hbx3 := hbx2.ok8 hok3 (by omega) (by decide)
     have hE3 := hE2.below hlo3 hB5
     have hlo3' := hlo2'.trans hlo3
     have hok3' := hok2'.trans hok3
     have hsz3 := hlo3'.size
     clear hbx2 hB2 hE2 hlo2' hok2' hlo3 hok3 z0
     have y0 := hbx3.c0
     go_wp2_with fail
     refine (numbered_any _ _).mono ?_
     rintro e w4 ⟨rfl, rfl⟩
     rw [HND.out]
     have x1 := hbx3.c1
     go_wp2_with fail
     refine (fmtInt nn hnr _ hE3).mono ?_
     rintro e w5 ⟨rfl, hb5⟩
     go_wp2_with fail
     refine (writeS B b _ ⟨(Lib.itoa nn).toArray⟩ _ (hB3.keepAll hb5) (by simp only [List.length_append, List.length_cons, List.length_nil, show (wdB j).data.toList = wdl j from rfl] at hlen ⊢; show _ + (Lib.itoa nn).length ≤ _; omega) (by have := hb5.size; omega)).mono ?_
     rintro e w6 ⟨rfl, hB6, hlo6, hok6⟩
     have hbx6 := (hbx3.belowAll hb5).ok8 hok6 (by omega) (by decide)
     have hE6 := (hE3.belowAll hb5).below hlo6 hB5
     have hlo6' := (hlo3'.trans (hb5.mono (by omega))).trans hlo6
     have hok6' := (hok3'.trans (OK8.ofAll hb5)).trans hok6
     have hsz6 := hlo6'.size
     clear hbx3 hB3 hE3 hlo3' hok3' hb5 hlo6 hok6 y0 x1
     have x2 := hbx6.c2
     go_wp2_with fail
     go_loopw [4, 6, 42] (fun cm _ x wr => ∃ (i : Nat) (c : Bool) (done : List UInt8), i ≤ l.length ∧ x = .int .i64 i ∧ cm = .bool c ∧ txtL l true = done ++ txtL (l.drop i) c ∧ IsBl B b ((l0 ++ wdl j ++ [40] ++ Lib.itoa nn) ++ done) wr ∧ Below B w wr ∧ OK8 b w wr ∧ Env wr) (fun _ _ x _ => l.length - (intOf x).toNat)
     case atStart => exact ⟨0, true, [], by omega, rfl, rfl, rfl, by rw [List.append_nil]; exact hB6, hlo6', hok6', hE6⟩
     case round =>
      obtain ⟨i, c, done, hi, rfl, rfl, hq, hBr, hlor, hokr, hEr⟩ := hrel
      have HQ := Lib.hid hq
      have hqlen : (txtL l true).length = done.length + (txtL (l.drop i) c).length := by rw [hq, List.length_append]
      clear hq
      have hszr := hlor.size
      by_cases hlt : i < l.length
      ·obtain ⟨kk, n2, ll, g, o, a', cap', hlj, rfl, hg, c0, c1, c2, ht⟩ := hrow.at_ hlt
       have d0 := (hlor.cell (p := ⟨g, o + i * 3, none⟩) hg).trans c0
       have d1 := (hlor.cell (p := ⟨g, o + i * 3 + 1, none⟩) hg).trans c1
       have d2 := (hlor.cell (p := ⟨g, o + i * 3 + 2, none⟩) hg).trans c2
       have hsub : shps (.mk kk n2 ll) = true := by rw [← hlj]; exact shpsL_mem HSL.out (List.getElem_mem hlt)
       have hszk : SizeOf.sizeOf (VT.mk kk n2 ll) ≤ m := by rw [← hlj]; exact sz_lt (List.getElem_mem hlt) hk
       have hstep : txtL (l.drop i) c = (if c then [44] else []) ++ (txt (.mk kk n2 ll) ++ txtL (l.drop (i + 1)) true) := by
        rw [List.drop_eq_getElem_cons hlt, txtL, hlj]
       have hsl : (txtL (l.drop i) c).length = (if c then [44] else ([] : List UInt8)).length + ((txt (.mk kk n2 ll)).length + (txtL (l.drop (i + 1)) true).length) := by rw [hstep]; simp only [List.length_append]
       have HS := Lib.hid hstep
       clear hstep hlj c0 c1 c2
       have htr := ht.below hlor
       have hbn := Bx.new wr 27 (.int .i64 kk) (.int .i64 n2) (.slice a' ll.length cap')
       have hBn := hBr.keepAll (below_alloc wr (.cells #[.int .i64 kk, .int .i64 n2, .slice a' ll.length cap'] 27))
       have hEn := hEr.belowAll (below_alloc wr (.cells #[.int .i64 kk, .int .i64 n2, .slice a' ll.length cap'] 27))
       have hlon := hlor.trans ((below_alloc wr (.cells #[.int .i64 kk, .int .i64 n2, .slice a' ll.length cap'] 27)).mono (by omega))
       have hokn := hokr.trans (OK8.ofAll (below_alloc wr (.cells #[.int .i64 kk, .int .i64 n2, .slice a' ll.length cap'] 27)))
       have htn := htr.below ((below_alloc wr (.cells #[.int .i64 kk, .int .i64 n2, .slice a' ll.length cap'] 27)).mono (by omega : B ≤ wr.heap.size))
       have hblt := hBr.lt
       cases c
       ·simp only [Bool.false_eq_true, if_false, List.length_nil] at hsl
        go_wp2_with fail
        generalize wr.alloc (.cells #[.int .i64 kk, .int .i64 n2, .slice a' ll.length cap'] 27) = wn at *
        refine (HI.out (.mk kk n2 ll) _ B b _ _ hszk htn hsub hBn (by simp only [List.length_append, List.length_cons, List.length_nil] at hlen ⊢; omega) hB5 hEn).mono ?_
        rintro e w8 ⟨rfl, hB8, hlo8, hok8⟩
        go_wp2_with fail
        go_roundw
        case rel =>
         refine ⟨i + 1, true, done ++ txt (.mk kk n2 ll), by omega, by go_num, rfl, ?_, ?_, hlon.trans hlo8, hokn.trans hok8, hEn.below hlo8 hB5⟩
         ·rw [HQ.out, HS.out]; simp
         ·rw [← List.append_assoc]; exact hB8
        case measure => simp [intOf]; omega
       ·simp only [if_true, List.length_cons, List.length_nil] at hsl
        go_wp2_with fail
        have hsn : B ≤ (wr.alloc (.cells #[.int .i64 kk, .int .i64 n2, .slice a' ll.length cap'] 27)).heap.size := by simp; omega
        generalize wr.alloc (.cells #[.int .i64 kk, .int .i64 n2, .slice a' ll.length cap'] 27) = wn at *
        refine (writeC B b _ 44 44 (by decide) _ hBn (by simp only [List.length_append, List.length_cons, List.length_nil] at hlen ⊢; omega) hsn).mono ?_
        rintro e w7 ⟨rfl, hB7, hlo7, hok7⟩
        have hb7 := hbn.ok8 hok7 (by omega) (by decide)
        have b0 := hb7.c0
        have b1 := hb7.c1
        have b2 := hb7.c2
        go_wp2_with fail
        refine (HI.out (.mk kk n2 ll) _ B b _ _ hszk (htn.below hlo7) hsub hB7 (by simp only [List.length_append, List.length_cons, List.length_nil] at hlen ⊢; omega) hB5 (hEn.below hlo7 hB5)).mono ?_
        rintro e w8 ⟨rfl, hB8, hlo8, hok8⟩
        go_wp2_with fail
        go_roundw
        case rel =>
         refine ⟨i + 1, true, done ++ [44] ++ txt (.mk kk n2 ll), by omega, by go_num, rfl, ?_, ?_, (hlon.trans hlo7).trans hlo8, (hokn.trans hok7).trans hok8, (hEn.below hlo7 hB5).below hlo8 hB5⟩
         ·rw [HQ.out, HS.out]; simp
         ·have e9 : (l0 ++ wdl j ++ [40] ++ Lib.itoa nn) ++ (done ++ [44] ++ txt (.mk kk n2 ll)) = (l0 ++ wdl j ++ [40] ++ Lib.itoa nn) ++ done ++ [44] ++ txt (.mk kk n2 ll) := by simp only [List.append_assoc]
          rw [e9]; exact hB8
        case measure => simp [intOf]; omega
      ·have hnil : txtL (l.drop i) c = [] := by rw [List.drop_of_length_le (by omega), txtL]
       rw [hnil] at hqlen
       have HN := Lib.hid hnil
       clear hnil
       go_wp2_with fail
       refine (writeC B b _ 41 41 (by decide) _ hBr (by simp only [List.length_append, List.length_cons, List.length_nil] at hlen hqlen ⊢; omega) (by omega)).mono ?_
       rintro e w9 ⟨rfl, hB9, hlo9, hok9⟩
       go_wp2_with fail
       go_end0
       refine ⟨rfl, ?_, hlor.trans hlo9, hokr.trans hok9⟩
       rw [HT.out]
       have e9 : l0 ++ (wdl j ++ 40 :: (Lib.itoa nn ++ (txtL l true ++ [41]))) = (l0 ++ wdl j ++ [40] ++ Lib.itoa nn) ++ done ++ [41] := by
        rw [HQ.out, HN.out]; simp
       rw [e9]; exact hB9
end Go.Proofs.YtjldbbcdhdfliaaGreatDoor
/-
 How many parts a tree has, how long its text is; Text and Lines.
-/
namespace Go.Proofs.YtjldbbcdhdfliaaGreatDoor
open Go.RowKit

mutual
def nd : VT → Nat
 | .mk _ _ l => 1 + ndL l
def ndL : List VT → Nat
 | [] => 0
 | t :: r => nd t + ndL r
end
mutual
theorem cnt_nd : ∀ (t : VT) (n : Nat), n ≤ 256 → cnt t n = min 257 (n + nd t)
 | .mk _ _ l, n, h => by rw [cnt, nd, cntL_nd l (n + 1) (by omega)]; omega
theorem cntL_nd : ∀ (l : List VT) (n : Nat), n ≤ 257 → cntL l n = min 257 (n + ndL l)
 | [], n, h => by rw [cntL, ndL]; omega
 | t :: r, n, h => by
  rw [cntL, ndL]
  split
  ·omega
  ·rw [cnt_nd t n (by omega), cntL_nd r _ (by omega)]
   omega
end
theorem small_nd (t : VT) : small t = decide (nd t ≤ 256) := by
 unfold small
 rw [cnt_nd t 0 (by omega), decide_eq_decide]
 omega

mutual
/-- All numbers of a tree are those of an int64. -/
def AllR : VT → Prop
 | .mk k n l => Rng k ∧ Rng n ∧ AllRL l
def AllRL : List VT → Prop
 | [] => True
 | t :: r => AllR t ∧ AllRL r
end
mutual
theorem IsV.rng {ok : Nat → Prop} {w : World} : ∀ {t : VT} {v : Value}, IsV ok w t v → AllR t
 | .mk k n l, v, h => by
  rw [IsV] at h
  obtain ⟨a, cap, _, h1, h2, _, _, h3⟩ := h
  rw [AllR]
  exact ⟨h1, h2, IsR.rng h3⟩
theorem IsR.rng {ok : Nat → Prop} {w : World} : ∀ {l : List VT} {a : Option Addr} {i : Nat}, IsR ok w l a i → AllRL l
 | [], _, _, _ => by rw [AllRL]; trivial
 | t :: r, a, i, h => by
  rw [IsR] at h
  obtain ⟨⟨g, o, v0, v1, v2, _, _, _, _, _, h6⟩, h7⟩ := h
  rw [AllRL]
  exact ⟨IsV.rng h6, IsR.rng h7⟩
end
theorem wdl_len (j : Nat) : (wdl j).length ≤ 6 := wdB_size j
mutual
theorem txt_len : ∀ (t : VT), AllR t → (txt t).length + 1 ≤ 40 * nd t
 | .mk k n l, h => by
  rw [AllR] at h
  rw [txt, nd]
  have h1 := txtL_len l (numd k) h.2.2
  have h2 := wdl_len k.toNat
  have h3 := Lib.itoa_length_le n h.2.1.1 h.2.1.2
  split
  ·omega
  ·split
   ·simp only [List.length_append, List.length_nil]; omega
   ·split
    ·simp only [List.length_append, List.length_cons, List.length_nil]; omega
    ·simp only [List.length_append, List.length_cons, List.length_nil]; omega
theorem txtL_len : ∀ (l : List VT) (c : Bool), AllRL l → (txtL l c).length ≤ 40 * ndL l
 | [], _, _ => by rw [txtL]; simp
 | t :: r, c, h => by
  rw [AllRL] at h
  rw [txtL, ndL]
  have h1 := txt_len t h.1
  have h2 := txtL_len r true h.2
  cases c
  ·simp only [List.length_append, List.length_nil, Bool.false_eq_true, if_false]; omega
  ·simp only [List.length_append, List.length_cons, List.length_nil, if_true]; omega
end

theorem right_len {t : VT} (h : right t = true) (hr : AllR t) : (txt t).length ≤ 10240 := by
 have := txt_len t hr
 unfold right at h
 rw [small_nd, Bool.and_eq_true, decide_eq_true_eq] at h
 omega
theorem newB (w : World) : IsBl w.heap.size w.heap.size [] (w.alloc (.cells #[.pointer none, .slice none 0 0] 186)) := Lib.IsBuilderF.of (Lib.fresh_isBuilder _ _ w)
theorem IsB.lower {B B' b : Nat} {bs : List Value} {w : World} (h : IsB B b bs w) (hB : B' ≤ B) : IsB B' b bs w := by
 have key : ∀ p, Lib.BuilderAtF 186 5 B b p bs w → Lib.BuilderAtF 186 5 B' b p bs w := by
  rintro p ⟨h0, v, hbk, ⟨h1, h2⟩, hne⟩
  refine ⟨by omega, v, hbk, ⟨h1, ?_⟩, hne⟩
  rcases h2 with h2 | ⟨g, cap, cur, fz, e1, e2, e3, e4⟩
  ·exact .inl h2
  ·exact .inr ⟨g, cap, cur, fz, e1, by omega, e3, e4⟩
 exact h.imp (key _) (key _)
theorem IsBl.lower {B B' b : Nat} {l : List UInt8} {w : World} (h : IsBl B b l w) (hB : B' ≤ B) : IsBl B' b l w := IsB.lower h hB
theorem toStr (B b : Nat) (l : List UInt8) (w : World) (h : IsBl B b l w) (hBw : B ≤ w.heap.size) :
  Calls Tryz.prog 117 #[.pointer (some ⟨b, 0, none⟩)] w fun e w' => e = .returned (.string ⟨l.toArray⟩) ∧ Below B w w' := by
 refine (Tryz.Builder_String_any_k B b l w h hBw).mono ?_
 rintro e w' ⟨rfl, _, h2, _⟩
 exact ⟨rfl, h2⟩

/-- A value's text, or an error. -/
def textV (t : VT) : Value := if right t then .tuple #[.string ⟨(txt t).toArray⟩, .int .i64 0] else .tuple #[.string ⟨#[]⟩, .int .i64 40]

set_option maxHeartbeats 1000000 in
theorem Text_any (t : VT) (v : Value) (w : World) (hv : IsV (· < w.heap.size) w t v) (hE : Env w) :
  Calls Tryz.prog 84 #[v] w fun e w' => e = .returned (textV t) ∧ Below w.heap.size w w' := by
 obtain ⟨k, n, a, len, cap, rfl⟩ := hv.form
 have hrg := hv.rng
 have hck := fun w1 (hb : Below w.heap.size w w1) => Check_any t _ w1 (hv.later hb)
 cases hr : right t
 ·have HR := Lib.hid hr
  clear hr
  have HK := Lib.hid hck
  clear hck
  go_enter Tryz.func84, Tryz.ntmps84
  go_wp2_with fail
  refine (HK.out _ (below_alloc _ _)).mono ?_
  rw [HR.out]
  rintro e w1 ⟨rfl, hb1⟩
  simp only [Bool.false_eq_true, if_false]
  go_wp2_with fail
  go_ret2
  exact ⟨by rw [textV, HR.out]; rfl, (below_alloc _ _).trans (hb1.mono (by simp))⟩
 ·have hlen := right_len hr hrg
  have hsh : shps t = true := by unfold right at hr; rw [Bool.and_eq_true] at hr; exact hr.2
  have HSH := Lib.hid hsh
  have HR := Lib.hid hr
  have HK := Lib.hid hck
  clear hr hsh hck
  go_enter Tryz.func84, Tryz.ntmps84
  go_wp2_with fail
  refine (HK.out _ (below_alloc _ _)).mono ?_
  rw [HR.out]
  rintro e w1 ⟨rfl, hb1⟩
  have hbx := (Bx.new w 27 (.int .i64 k) (.int .i64 n) (.slice a len cap)).belowAll hb1
  have hb : Below w.heap.size w w1 := (below_alloc _ _).trans (hb1.mono (by simp))
  have hsz := hb.size
  have hbl := hbx.lt
  have q0 := hbx.c0
  have q1 := hbx.c1
  have q2 := hbx.c2
  simp only [if_true]
  go_wp2_with fail
  have hb2 := hb.trans ((below_alloc w1 (.cells #[.pointer none, .slice none 0 0] 186)).mono hsz)
  refine (write_any _ t _ w.heap.size w1.heap.size [] _ (Nat.le_refl _) (hv.below hb2) HSH.out ((newB w1).lower hsz) (by simp; omega) hE.size (hE.belowAll hb2)).mono ?_
  rintro e w3 ⟨rfl, hB3, hlo3, hok3⟩
  rw [List.nil_append] at hB3
  have hb3 := hb2.trans hlo3
  go_wp2_with fail
  refine (toStr _ _ _ _ hB3 hb3.size).mono ?_
  rintro e w4 ⟨rfl, hb4⟩
  go_wp2_with fail
  go_ret2
  exact ⟨by rw [textV, HR.out]; rfl, hb3.trans hb4⟩

end Go.Proofs.YtjldbbcdhdfliaaGreatDoor
