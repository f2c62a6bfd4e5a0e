/-
  Package source's writer: its builder (copyCheck, WriteByte, WriteString, String), after the kit's worked proofs, over the writer's block.
-/
import Derived.Test.YtjendlnicbieoaaGreatDoorLySz
import Derived.Test.YtjendlnicbieoaaGreatDoorShelf
import Derived.Shelf.Strings.BuilderK
import Derived.Lib.FrozenHead2
import Derived.Lib.OthersKept
import Derived.Deep.RegionWith
namespace Go.Proofs.YtjendlnicbieoaaGreatDoor
open Go.RowKit Go.Sort

theorem sizeBuilder : (Tryz.prog.info? 67).map (·.size) = some 2 := by kernel_rfl
theorem liesBuilder : liesAt Tryz.prog Tryz.prog.depth 69 (2 / Tryz.prog.cellsOf 69) 0 67 1 = true := by kernel_rfl
theorem infoByte : (Tryz.prog.info? 5).map (fun i => (i.zero, i.size, i.bytes)) = some (some (.int .u8 0), 1, 1) := by kernel_rfl

set_option maxHeartbeats 1000000 in
set_option maxRecDepth 100000 in
theorem copyCheck_used (b : Nat) (w : World) (h0 : w.cell? ⟨b, 0, none⟩ = some (.pointer (some ⟨b, 0, none⟩))) :
    Calls Tryz.prog 49 #[.pointer (some ⟨b, 0, none⟩)] w fun e w' => e = .returned (.tuple #[]) ∧ w' = w := by
  obtain ⟨j, hj, hjs⟩ := Option.map_eq_some_iff.1 sizeBuilder
  have hne := fun wx => Lib.run_neq_ptr_same (P := Tryz.prog) wx ⟨b, 0, none⟩ Tryz.underlying65 hj
  go_enter Tryz.func49, Tryz.ntmps49
  go_wp2
  go_end0
  exact ⟨rfl, rfl⟩

set_option maxHeartbeats 1000000 in
set_option maxRecDepth 100000 in
theorem copyCheck_fresh (b : Nat) (w : World) (h0 : w.cell? ⟨b, 0, none⟩ = some (.pointer none)) (hsh : w.shape? b = some (69, 2)) (hfz : w.frozen? ⟨b, 0, none⟩ = false) :
    Calls Tryz.prog 49 #[.pointer (some ⟨b, 0, none⟩)] w fun e w' => e = .returned (.tuple #[]) ∧ w' = w.setCell ⟨b, 0, none⟩ (.pointer (some ⟨b, 0, none⟩)) := by
  obtain ⟨j, hj, hjs⟩ := Option.map_eq_some_iff.1 sizeBuilder
  go_enter Tryz.func49, Tryz.ntmps49
  go_wp2
  rw [Lib.run_to_unsafe w ⟨b, 0, none⟩ Tryz.underlying65 Tryz.underlying144 hj (by rw [hjs]; decide) hsh (Nat.zero_lt_succ 1)]
  simp only [Result.andThen]
  rw [Oper.upon_value]
  go_wp2
  rw [run_callFunc_extern Tryz.func78 (by kernel_rfl) (by kernel_rfl) (by kernel_rfl) (e := Extern.AbiNoEscape.same) (by kernel_rfl)]
  rw [Lib.run_noEscape]
  simp only [Result.andThen]
  rw [Oper.upon_value]
  go_wp2
  rw [Lib.run_from_unsafe w ⟨b, 0, none⟩ Tryz.underlying144 Tryz.underlying65 hj hsh liesBuilder]
  simp only [Result.andThen]
  rw [Oper.upon_value]
  go_wp2
  go_end0
  exact ⟨rfl, rfl⟩

/-- A builder of the call's own. -/
abbrev IsB (B b : Nat) (bs : List Value) (w : World) : Prop := Lib.IsBuilderF 69 5 B b bs w
abbrev OK8 (b : Nat) (w w' : World) : Prop := Lib.OthersKept 5 (some b) w w'

theorem copyCheck_k (B b : Nat) (bs : List Value) (w : World) (h : IsB B b bs w) :
    Calls Tryz.prog 49 #[.pointer (some ⟨b, 0, none⟩)] w fun e w' => e = .returned (.tuple #[]) ∧ (Lib.BuilderAtF 69 5 B b (.pointer (some ⟨b, 0, none⟩)) bs w' ∧ Below B w w' ∧ OK8 b w w') := by
  rcases h with h | h
  · refine (copyCheck_fresh b w h.cell0 h.shape h.frozen0).mono ?_
    rintro e w' ⟨rfl, rfl⟩
    exact ⟨rfl, h.used _, (Below.refl B w).setCell (p := ⟨b, 0, none⟩) h.1 _, (Lib.OthersKept.refl _ _ w).setCell ⟨b, 0, none⟩ rfl _⟩
  · refine (copyCheck_used b w h.cell0).mono ?_
    rintro e w' ⟨rfl, rfl⟩
    exact ⟨rfl, h, Below.refl B _, Lib.OthersKept.refl _ _ _⟩

set_option maxHeartbeats 2000000 in
set_option maxRecDepth 100000 in
theorem WriteByte_k (B b : Nat) (bs : List Value) (c : Int) (w : World) (h : IsB B b bs w) (hlen : bs.length + 1 ≤ 140737488355328) (hBw : B ≤ w.heap.size) :
    Calls Tryz.prog 26 #[.pointer (some ⟨b, 0, none⟩), .int .u8 c] w fun e w' => e = .returned .nilIface ∧ (IsB B b (bs ++ [.int .u8 c]) w' ∧ Below B w w' ∧ OK8 b w w') := by
  obtain ⟨i0, hi, hz0, hz1, hz2⟩ := info_partsS infoByte
  go_enter Tryz.func26, Tryz.ntmps26
  go_wp2_with (go_at_call 49; refine (copyCheck_k B b bs _ h).mono ?_)
  rintro e w1 ⟨rfl, h1, hb1, hk1⟩
  obtain ⟨hB, v, hbk, hown, hne⟩ := h1
  have c0 : w1.cell? ⟨b, 0, none⟩ = some (.pointer (some ⟨b, 0, none⟩)) := by rw [Lib.cell_of_heap hbk]; rfl
  have c1 : w1.cell? ⟨b, 1, none⟩ = some v := by rw [Lib.cell_of_heap hbk]; rfl
  go_wp2_with (at_builtin; refine wpList_append_ownF _ rfl _ _ 50 rfl B 5 i0 (.int .u8 0) 1 1 Tryz.underlying50 hi hz0 hz1 hz2 rfl (by decide) _ _ _ rfl (hown.alloc _) ⟨w1.heap.size, 0, none⟩ 1 1 [.int .u8 c] rfl rfl ?c1 ?c2 ?c3 ?c4 ?c5 ?_)
  case c1 =>
    intro j u hj
    match j, hj with
    | 0, hj => simp at hj; subst hj; simp [Addr.add]
  case c2 => intro u hu; simp at hu; subst hu; rfl
  case c3 => unfold maxLen; omega
  case c4 => omega
  case c5 => have := hb1.size; simp; omega
  intro v' w2 hown' hgrow _
  have hlt : b < w1.heap.size := lt_of_heap hbk
  have hb2 : w2.heap[b]? = some (.cells #[.pointer (some ⟨b, 0, none⟩), v] 69 (0, 0)) := by
    rw [hgrow.block b (by simp; omega) (fun e => hne e.symm), Lib.alloc_old w1 _ b hlt]
    exact hbk
  have d0 : w2.cell? ⟨b, 0, none⟩ = some (.pointer (some ⟨b, 0, none⟩)) := by rw [Lib.cell_of_heap hb2]; rfl
  have d1 : w2.cell? ⟨b, 1, none⟩ = some v := by rw [Lib.cell_of_heap hb2]; rfl
  have f1 : w2.frozen? ⟨b, 1, none⟩ = false := Lib.frozen_of_heap hb2 1
  obtain ⟨g, cap, rfl⟩ : ∃ g cap, v' = .slice (some ⟨g, 0, none⟩) (bs.length + 1) cap := by
    rcases hown'.2 with ⟨_, h0⟩ | ⟨g, cap, cur, fz, hv, _⟩
    · omega
    · exact ⟨g, cap, hv⟩
  go_wp2
  go_ret
  refine ⟨rfl, .inr ?_, ?_, ((hk1.alloc _).grown hgrow (Lib.ownsRowF_kind (hown.alloc _))).setCell ⟨b, 1, none⟩ rfl _⟩
  · exact Lib.BuilderAtF.put (T := 69) (e := 5) hB hb2 (bs' := bs ++ [.int .u8 c]) (by simpa using hown') (by decide)
  · exact ((hb1.alloc (by have := hb1.size; omega) _).grown hgrow (by have := hb1.size; simp; omega) (fun k hk => (hown.lt k hk).1)).setCell (p := ⟨b, 1, none⟩) hB _

set_option maxHeartbeats 2000000 in
set_option maxRecDepth 100000 in
theorem WriteString_k (B b : Nat) (bs : List Value) (s : ByteArray) (w : World) (h : IsB B b bs w) (hlen : bs.length + s.size ≤ 140737488355328) (hBw : B ≤ w.heap.size) :
    Calls Tryz.prog 24 #[.pointer (some ⟨b, 0, none⟩), .string s] w fun e w' => e = .returned (.tuple #[.int .i64 s.size, .nilIface]) ∧ (IsB B b (bs ++ Lib.strCells s) w' ∧ Below B w w' ∧ OK8 b w w') := by
  obtain ⟨i0, hi, hz0, hz1, hz2⟩ := info_partsS infoByte
  go_enter Tryz.func24, Tryz.ntmps24
  go_wp2_with (go_at_call 49; refine (copyCheck_k B b bs _ h).mono ?_)
  rintro e w1 ⟨rfl, h1, hb1, hk1⟩
  obtain ⟨hB, v, hbk, hown, hne⟩ := h1
  have c0 : w1.cell? ⟨b, 0, none⟩ = some (.pointer (some ⟨b, 0, none⟩)) := by rw [Lib.cell_of_heap hbk]; rfl
  have c1 : w1.cell? ⟨b, 1, none⟩ = some v := by rw [Lib.cell_of_heap hbk]; rfl
  go_wp2_with (at_builtin; refine Lib.wpList_append_own_stringF _ rfl _ _ 50 9 rfl B 5 i0 Tryz.underlying50 Tryz.underlying9 hi hz0 hz1 hz2 _ _ _ rfl hown s rfl ?c3 ?c4 ?c5 ?_)
  case c3 => unfold maxLen; omega
  case c4 => omega
  case c5 => have := hb1.size; omega
  intro v' w2 hown' hgrow _
  have hlt : b < w1.heap.size := lt_of_heap hbk
  have hb2 : w2.heap[b]? = some (.cells #[.pointer (some ⟨b, 0, none⟩), v] 69 (0, 0)) := by
    rw [hgrow.block b hlt (fun e => hne e.symm)]
    exact hbk
  have d0 : w2.cell? ⟨b, 0, none⟩ = some (.pointer (some ⟨b, 0, none⟩)) := by rw [Lib.cell_of_heap hb2]; rfl
  have d1 : w2.cell? ⟨b, 1, none⟩ = some v := by rw [Lib.cell_of_heap hb2]; rfl
  have f1 : w2.frozen? ⟨b, 1, none⟩ = false := Lib.frozen_of_heap hb2 1
  obtain ⟨ao, n', cap, rfl⟩ : ∃ ao n' cap, v' = .slice ao n' cap := by
    rcases hown'.2 with ⟨hv, _⟩ | ⟨g, cap, cur, fz, hv, _⟩
    · exact ⟨_, _, _, hv⟩
    · exact ⟨_, _, _, hv⟩
  go_wp2
  go_ret2
  refine ⟨rfl, .inr ?_, ?_, (hk1.grown hgrow (Lib.ownsRowF_kind hown)).setCell ⟨b, 1, none⟩ rfl _⟩
  · exact Lib.BuilderAtF.put (T := 69) (e := 5) hB hb2 (bs' := bs ++ Lib.strCells s) (by simpa [Lib.strCells_length] using hown') (by decide)
  · exact (hb1.grown hgrow (by have := hb1.size; omega) (fun k hk => (hown.lt k hk).1)).setCell (p := ⟨b, 1, none⟩) hB _
/-- What the package-level variables hold. -/
structure EnvS (w : World) : Prop where
  p : EnvP w
  tab : Lib.TabIs Tryz.prog w "internal/strconv.uint64pow10" .u64 Lib.pow10Tab
  size : 5 ≤ w.heap.size
theorem gPow : Tryz.prog.globalNamed "internal/strconv.uint64pow10" = some 1 := by kernel_rfl
theorem EnvS.below {B : Nat} {w w' : World} (h : EnvS w) (hb : Below B w w') (hB : 5 ≤ B) : EnvS w' := by
  have hsz := hb.size
  have h5 := h.size
  refine ⟨?_, var?_below hb gPow (by omega) h.tab, by omega⟩
  obtain ⟨ev, h1, h2⟩ := h.p.era
  exact ⟨ev, (hb.cell (p := ⟨3, 0, none⟩) (by show 3 < B; omega)).trans h1, h2⟩
theorem EnvS.belowAll {w w' : World} (h : EnvS w) (hb : Below w.heap.size w w') : EnvS w' := h.below hb h.size

/-- A builder that holds bytes. -/
def IsBl (B b : Nat) (l : List UInt8) (w : World) : Prop := IsB B b (Lib.byteCells l) w
theorem IsB.keepAll {B b : Nat} {bs : List Value} {w w' : World} (h : IsB B b bs w) (hb : Below w.heap.size w w') : IsB B b bs w' := by
  have key : ∀ p, Lib.BuilderAtF 69 5 B b p bs w → Lib.BuilderAtF 69 5 B b p bs w' := by
    rintro p ⟨hB, v, hbk, ⟨h1, h2⟩, hne⟩
    refine ⟨hB, v, (hb.block b (lt_of_heap hbk)).trans hbk, ⟨h1, ?_⟩, hne⟩
    rcases h2 with h2 | ⟨g, cap, cur, fz, e1, e2, e3, e4⟩
    · exact .inl h2
    · exact .inr ⟨g, cap, cur, fz, e1, e2, (hb.block g (lt_of_heap e3)).trans e3, e4⟩
  exact h.imp (key _) (key _)
theorem IsBl.keepAll {B b : Nat} {l : List UInt8} {w w' : World} (h : IsBl B b l w) (hb : Below w.heap.size w w') : IsBl B b l w' := IsB.keepAll h hb
theorem IsBl.lt {B b : Nat} {l : List UInt8} {w : World} (h : IsBl B b l w) : B ≤ b ∧ b < w.heap.size := by
  rcases h with ⟨hB, v, hbk, _⟩ | ⟨hB, v, hbk, _⟩ <;> exact ⟨hB, lt_of_heap hbk⟩
theorem OK8.ofAll {b : Nat} {w w' : World} (hb : Below w.heap.size w w') : OK8 b w w' := fun k _o hk _ _ => (hb.block k (lt_of_heap hk)).trans hk
theorem Blk.ok8 {b g : Nat} {w w' : World} {t : TypeId} {cs : List Value} (h : Blk w g t cs) (hk : OK8 b w w') (hg : g ≠ b) (ht : t ≠ 5) : Blk w' g t cs :=
  hk g _ h (fun e => hg (by injection e)) (fun c fz e => ht (by injection e))

theorem writeS (B b : Nat) (l : List UInt8) (s : ByteArray) (w : World) (h : IsBl B b l w) (hlen : l.length + s.size ≤ 140737488355328) (hBw : B ≤ w.heap.size) :
    Calls Tryz.prog 24 #[.pointer (some ⟨b, 0, none⟩), .string s] w fun e w' => e = .returned (.tuple #[.int .i64 s.size, .nilIface]) ∧ IsBl B b (l ++ s.data.toList) w' ∧ Below B w w' ∧ OK8 b w w' := by
  refine (WriteString_k B b _ s w h (by rw [Lib.byteCells_length]; exact hlen) hBw).mono ?_
  rintro e w' ⟨rfl, h1, h2, h3⟩
  refine ⟨rfl, ?_, h2, h3⟩
  unfold IsBl
  rw [Lib.byteCells_append, ← Lib.strCells_eq]
  exact h1
theorem writeC (B b : Nat) (l : List UInt8) (c : UInt8) (ci : Int) (hc : (c.toNat : Int) = ci) (w : World) (h : IsBl B b l w) (hlen : l.length + 1 ≤ 140737488355328) (hBw : B ≤ w.heap.size) :
    Calls Tryz.prog 26 #[.pointer (some ⟨b, 0, none⟩), .int .u8 ci] w fun e w' => e = .returned .nilIface ∧ IsBl B b (l ++ [c]) w' ∧ Below B w w' ∧ OK8 b w w' := by
  subst hc
  refine (WriteByte_k B b _ _ w h (by rw [Lib.byteCells_length]; exact hlen) hBw).mono ?_
  rintro e w' ⟨rfl, h1, h2, h3⟩
  refine ⟨rfl, ?_, h2, h3⟩
  unfold IsBl
  rw [Lib.byteCells_append]
  exact h1
theorem below_growN (w : World) (k : Nat) (os : Array Obj) : Below w.heap.size w (Sort.grow (w.drewN k) os) :=
  ⟨rfl, rfl, rfl, by show w.heap.size ≤ (w.heap ++ os).size; rw [Array.size_append]; omega, fun j hj => by
    show (w.heap ++ os)[j]? = _
    rw [Array.getElem?_append_left hj]⟩
theorem fmtInt (n : Int) (hn : Rng n) (w : World) (hE : EnvS w) :
    Calls Tryz.prog 51 #[.int .i64 n, .int .i64 10] w fun e w' => e = .returned (.string ⟨(Lib.itoa n).toArray⟩) ∧ Below w.heap.size w w' := by
  refine (Tryz.strconv_FormatInt_10 n hn.1 hn.2 w hE.tab).mono ?_
  rintro e w' ⟨rfl, k, os, rfl⟩
  exact ⟨rfl, below_growN w k os⟩

set_option maxHeartbeats 2000000 in
set_option maxRecDepth 100000 in
/-- (*strings.Builder).String, of a writer that holds something. -/
theorem stringW (B b : Nat) (l : List UInt8) (w : World) (h : IsBl B b l w) (h0 : l ≠ []) :
    Calls Tryz.prog 28 #[.pointer (some ⟨b, 0, none⟩)] w fun e w' => e = .returned (.string ⟨l.toArray⟩) ∧ Below B w w' := by
  obtain ⟨p, hAt⟩ : ∃ p, Lib.BuilderAtF 69 5 B b p (Lib.byteCells l) w := by
    rcases h with h | h
    · exact ⟨_, h⟩
    · exact ⟨_, h⟩
  obtain ⟨hB, v, hbk, hown, hne⟩ := hAt
  have hl0 : l.length ≠ 0 := by simpa using h0
  rw [Lib.byteCells_length] at hown
  obtain ⟨g, cap, cur, fz, rfl, hbg, hg, hfz, hnc, hcm, hcs, htake⟩ : ∃ g cap cur fz, v = .slice (some ⟨g, 0, none⟩) l.length cap ∧ B ≤ g ∧ w.heap[g]? = some (.cells cur 5 fz) ∧ fz.2 ≤ l.length * 1 ∧ l.length ≤ cap ∧ cap ≤ maxLen ∧ cur.size = cap * 1 ∧ cur.toList.take (l.length * 1) = Lib.byteCells l := by
    rcases hown.2 with ⟨_, hz⟩ | ⟨g, cap, cur, fz, hv, r⟩
    · exact absurd hz hl0
    · exact ⟨g, cap, cur, fz, hv, r⟩
  have c1 : w.drew.cell? ⟨b, 1, none⟩ = some (.slice (some ⟨g, 0, none⟩) l.length cap) := by
    have : w.drew.heap[b]? = some (.cells #[p, .slice (some ⟨g, 0, none⟩) l.length cap] 69 (0, 0)) := hbk
    rw [Lib.cell_of_heap this]; rfl
  have hSD : (Builtin.unsafeSliceData_ #[50] 114 #[.slice (some ⟨g, 0, none⟩) l.length cap]).run Tryz.prog w.drew = .ok (.pointer (some ⟨g, 0, none⟩)) w.drew :=
    Lib.run_unsafeSliceData_row _ _ _ _ _ _ (by omega)
  have hUS : (Builtin.unsafeString_ #[114, 3] 9 #[.pointer (some ⟨g, 0, none⟩), .int .i64 l.length]).run Tryz.prog w.drew = .ok (.string ⟨l.toArray⟩) (w.drew.freeze ⟨g, 0, none⟩ l.length) := by
    refine Lib.run_unsafeString_row w.drew 114 3 9 5 Tryz.underlying114 (by kernel_rfl) g cur.size (by have hg' : w.drew.heap[g]? = some (.cells cur 5 fz) := hg; simp [World.shape?, hg']) l h0 (by omega) (by unfold maxLen at hcm; omega) ?_
    intro j x hx
    exact hown.cells (g := g) rfl j (.int .u8 x.toNat) (by simp [Lib.byteCells, hx])
  have mixed : Tryz.prog.follows Departure.mixedOrders = true := by kernel_rfl
  go_enter Tryz.func28, Tryz.ntmps28
  go_wp2
  go_region_o
  all_goals (go_wp2; go_ret; exact ⟨rfl, Lib.below_freeze (Below.drew (Below.refl B w)) (p := ⟨g, 0, none⟩) hbg _⟩)
end Go.Proofs.YtjendlnicbieoaaGreatDoor
/-
  Package source's writer: called.
-/
namespace Go.Proofs.YtjendlnicbieoaaGreatDoor
open Go.RowKit Go.Sort

/-- How a call of the writer ends: so much more is written. -/
def WrE (B b : Nat) (l : List UInt8) (w : World) (e : Ending) (w' : World) : Prop := e = .returned (.tuple #[]) ∧ IsBl B b l w' ∧ Below B w w' ∧ OK8 b w w'
theorem itoaW (n : Int) (hn : Rng n) (w : World) (hE : EnvS w) :
    Calls Tryz.prog 50 #[.int .i64 n] w fun e w' => e = .returned (.string ⟨(Lib.itoa n).toArray⟩) ∧ Below w.heap.size w w' := by
  refine (Tryz.strconv_Itoa n hn.1 hn.2 w hE.tab).mono ?_
  rintro e w' ⟨rfl, k, os, rfl⟩
  exact ⟨rfl, below_growN w k os⟩
theorem OK8.trans {b : Nat} {w w1 w2 : World} (h : OK8 b w w1) (h' : OK8 b w1 w2) : OK8 b w w2 := Lib.OthersKept.trans h h'
set_option maxRecDepth 100000 in
set_option maxHeartbeats 2000000 in
theorem called_any (B b : Nat) (l : List UInt8) (c : UInt8) (ci : Int) (hc : (c.toNat : Int) = ci) (n : Int) (hn : Rng n) (w : World) (h : IsBl B b l w) (hlen : l.length + 100 ≤ 140737488355328) (hB5 : 5 ≤ B) (hE : EnvS w) :
    Calls Tryz.prog 25 #[.pointer (some ⟨b, 0, none⟩), .int .u8 ci, .int .i64 n] w (WrE B b (l ++ c :: Lib.itoa n) w) := by
  obtain ⟨hBb, hbw⟩ := h.lt
  have hW1 := writeC B b l c ci hc w h (by omega) (by omega)
  have hil : (Lib.itoa n).length ≤ 21 := Lib.itoa_length_le n hn.1 hn.2
  have hsz : (⟨(Lib.itoa n).toArray⟩ : ByteArray).size = (Lib.itoa n).length := by simp [ByteArray.size]
  go_enter Tryz.func25, Tryz.ntmps25
  go_upto_region 1 with (go_at_call 26; refine hW1.mono ?_; rintro e w1 ⟨rfl, h1, hb1, hk1⟩)
  have hE1 := hE.below hb1 hB5
  have hz1 := hb1.size
  have hI := itoaW n hn w1.drew (hE1.belowAll (Below.refl _ _).drew)
  go_region_with (first
    | (go_at_call 50; refine hI.mono ?_; rintro e w2 ⟨rfl, hb2⟩; have hb2 : Below w1.heap.size w1 w2 := (Below.refl w1.heap.size w1).drew.trans hb2)
    | (go_at_call 24; refine (writeS B b (l ++ [c]) ⟨(Lib.itoa n).toArray⟩ w2 (h1.keepAll hb2) (by rw [hsz, List.length_append, List.length_cons, List.length_nil]; omega) (by have := hb2.size; omega)).mono ?_; rintro e w3 ⟨rfl, h3, hb3, hk3⟩))
  all_goals
    go_wp2_with fail
    go_end0
    exact ⟨rfl, by simpa using h3, hb1.trans ((hb2.mono (by omega)).trans hb3), (hk1.trans (OK8.ofAll hb2)).trans hk3⟩
end Go.Proofs.YtjendlnicbieoaaGreatDoor
/-
  Package source's writer: list, where expression writes what it shall.
-/
namespace Go.Proofs.YtjendlnicbieoaaGreatDoor
open Go.RowKit Go.Sort

/-- What the writer asks of nodes. -/
def okW : Fo → Prop
  | .nil => True
  | .cons _ op n k r => 0 ≤ op ∧ op ≤ 100 ∧ (op = 4 → 2 ≤ cntF k) ∧ (op = 5 → 3 ≤ cntF k) ∧ Rng n ∧ okW k ∧ okW r
/-- expression writes what it shall, for trees of at most that size. -/
def ExW (m : Nat) : Prop := ∀ (f : Fn) (na : Option Addr) (cap : Nat) (c : Nat) (op n : Int) (k : Fo) (d : Int) (B b : Nat) (l : List UInt8) (w : World),
  1 + sizeF k ≤ m → RdF f.ns [(c : Int)] (.cons c op n k .nil) → okW (.cons c op n k .nil) → FnAt (· < B) w f na cap → IsBl B b l w → 0 ≤ d → d + (1 + sizeF k) ≤ 1000000 → l.length + (txN op n (txF k d) (txF k (d + 1)) d).length + 300 ≤ 140737488355328 → 5 ≤ B → EnvS w →
  Calls Tryz.prog 27 #[.pointer (some ⟨b, 0, none⟩), fnV f na cap, .int .i64 (c : Nat), .int .i64 d] w (WrE B b (l ++ txN op n (txF k d) (txF k (d + 1)) d) w)
theorem RdF.cons_inv {ns : List Nd} {l : List Int} {c : Nat} {op n : Int} {k r : Fo} (h : RdF ns l (.cons c op n k r)) : ∃ x l', l = (c : Int) :: l' ∧ ns[c]? = some x ∧ x.op = op ∧ x.n = n ∧ RdF ns x.l k ∧ RdF ns l' r := by
  cases h with
  | cons h1 h2 h3 => exact ⟨_, _, rfl, h1, rfl, rfl, h2, h3⟩
/-- The trees from one on. -/
def dropF : Nat → Fo → Fo
  | 0, t => t
  | _ + 1, .nil => .nil
  | j + 1, .cons _ _ _ _ r => dropF j r
theorem txF_drop : ∀ (j : Nat) (t : Fo) (d : Int), txF (dropF j t) d = (txF t d).drop j
  | 0, t, d => rfl
  | j + 1, .nil, d => by simp [dropF, txF]
  | j + 1, .cons _ _ _ _ r, d => by rw [dropF, txF_drop j r d]; rfl
theorem rdF_len {ns : List Nd} {l : List Int} {t : Fo} (h : RdF ns l t) : l.length = cntF t := by
  induction h with
  | nil => rfl
  | cons _ _ _ _ ih => simp [cntF, ih]; omega
/-- The j-th of a forest's trees. -/
theorem rdF_at {ns : List Nd} {l : List Int} {t : Fo} (h : RdF ns l t) : ∀ (j : Nat), j < l.length → okW t → ∃ (c : Nat) (op n : Int) (k r : Fo), l[j]? = some (c : Int) ∧ dropF j t = .cons c op n k r ∧ RdF ns [(c : Int)] (.cons c op n k .nil) ∧ okW (.cons c op n k .nil) ∧ 1 + sizeF k ≤ sizeF t ∧ dropF (j + 1) t = r := by
  induction h with
  | nil => intro j hj; simp at hj
  | @cons c x l k r hx hk hl ih1 ih2 =>
    intro j hj ho
    obtain ⟨h1, h2, h3, h4, h5, h6, h7⟩ := ho
    cases j with
    | zero => exact ⟨c, x.op, x.n, k, r, rfl, rfl, .cons hx hk .nil, ⟨h1, h2, h3, h4, h5, h6, trivial⟩, by simp [sizeF], rfl⟩
    | succ j =>
      obtain ⟨c2, op2, n2, k2, r2, e1, e2, e3, e4, e5, e6⟩ := ih2 j (by simpa using hj) h7
      exact ⟨c2, op2, n2, k2, r2, by simpa using e1, e2, e3, e4, by simp only [sizeF]; omega, e6⟩
theorem joinC_drop {c : Bool} {x : Bs} {r : List Bs} : joinC c (x :: r) = (if c = true then [44, 32] else []) ++ (x ++ joinC true r) := rfl
set_option maxRecDepth 100000 in
set_option maxHeartbeats 4000000 in
theorem wlist_any (m : Nat) (hX : ExW m) (f : Fn) (na : Option Addr) (cap : Nat) (ks : List Int) (la : Option Addr) (lc : Nat) (t : Fo) (d : Int) (B b : Nat) (l : List UInt8) (w : World)
    (hm : sizeF t ≤ m) (hr : RdF f.ns ks t) (ho : okW t) (hf : FnAt (· < B) w f na cap) (hki : IsI (· < B) w ks la) (hkc : ks.length ≤ lc) (hlc : lc ≤ maxLen) (hb : IsBl B b l w) (hd0 : 0 ≤ d) (hd : d + sizeF t ≤ 1000000) (hlen : l.length + (brk (txF t d)).length + 300 ≤ 140737488355328) (hB5 : 5 ≤ B) (hE : EnvS w) :
    Calls Tryz.prog 52 #[.pointer (some ⟨b, 0, none⟩), fnV f na cap, .slice la ks.length lc, .int .i64 d] w (WrE B b (l ++ brk (txF t d)) w) := by
  obtain ⟨hBb, hbw⟩ := hb.lt
  have hbf := Blk.new w 46 [.int .i64 f.ps, .slice na f.ns.length cap]
  have hw1 := below_new w (.cells #[.int .i64 f.ps, .slice na f.ns.length cap] 46)
  have hb1 := hb.keepAll hw1
  have hE1 := hE.belowAll hw1
  have hlo1 : Below B w (w.alloc (.cells #[.int .i64 f.ps, .slice na f.ns.length cap] 46)) := hw1.mono (by omega)
  have hok1 : OK8 b w (w.alloc (.cells #[.int .i64 f.ps, .slice na f.ns.length cap] 46)) := OK8.ofAll hw1
  have hz1 := hw1.size
  unfold fnV
  have hkl := rdF_len hr
  obtain ⟨J, hJ⟩ : ∃ J, brk (txF t d) = J := ⟨_, rfl⟩
  rw [hJ] at hlen ⊢
  have HJ : Hid (J = 40 :: (joinC false (txF t d) ++ [41])) := hJ.symm
  have HX := Lib.hid hX
  have HR := Lib.hid hr
  have HO := Lib.hid ho
  unfold maxLen at hlc
  clear hX hr ho hJ hkl
  have hjl : J.length = (joinC false (txF t d)).length + 2 := by rw [HJ.out]; simp
  go_enter Tryz.func52, Tryz.ntmps52
  go_upto_region 1 with fail
  generalize w.alloc (.cells #[.int .i64 f.ps, .slice na f.ns.length cap] 46) = w1 at *
  have hW1 := writeC B b l 40 40 (by decide) w1 hb1 (by omega) (by omega)
  go_upto_region 2 with (go_at_call 26; refine hW1.mono ?_; rintro e w2 ⟨rfl, hb2, hlo2, hok2⟩)
  have hbf2 := hbf.ok8 hok2 (by omega) (by decide)
  have hE2 := hE1.below hlo2 hB5
  have hloA := hlo1.trans hlo2
  have hokA := hok1.trans hok2
  have hz2 := hlo2.size
  go_wp2_with fail
  go_loopw [8, 9, 16] (fun _ _ jv wr => ∃ (j : Nat) (tx : List UInt8), jv = .int .i64 (j : Nat) ∧ j ≤ ks.length ∧ Blk wr w.heap.size 46 [.int .i64 f.ps, .slice na f.ns.length cap] ∧ IsBl B b ((l ++ [40]) ++ tx) wr ∧ tx ++ joinC (decide (0 < j)) ((txF t d).drop j) = joinC false (txF t d) ∧ Below B w wr ∧ OK8 b w wr) (fun _ _ jv _ => ks.length - (intOf jv).toNat)
  case atStart => exact ⟨0, [], rfl, Nat.zero_le _, hbf2, by simpa using hb2, rfl, hloA, hokA⟩
  case round =>
    clear hbf hbf2 hb1 hb2 hE1 hE2 hlo2 hok2 hloA hokA hlo1 hok1 hW1 hw1
    obtain ⟨j, tx, rfl, hj, hbr, hbl, htx, hlo, hok⟩ := hrel
    have hzr := hlo.size
    have hEr := hE.below hlo hB5
    have htl : tx.length ≤ (joinC false (txF t d)).length := by rw [← htx]; simp
    by_cases hlt : j < ks.length
    case' neg =>
      have hdj : decide ((j : Int) < ks.length) = false := by simp; omega
      have hdr : (txF t d).drop j = [] := List.drop_eq_nil_of_le (by
        have h1 := rdF_len HR.out
        have h2 : ∀ (t : Fo) (d : Int), (txF t d).length = cntF t := fun t d => by
          induction t with
          | nil => rfl
          | cons _ _ _ _ r _ ih => simp [txF, cntF, ih]; omega
        rw [h2]
        omega)
      rw [hdr] at htx
      have HT : Hid (l ++ J = (l ++ [40] ++ tx) ++ [41]) := by
        show _ = _
        rw [HJ.out, ← htx]
        simp [joinC]
      have hW9 := writeC B b _ 41 41 (by decide) wr hbl (by simp; omega) (by omega)
      clear htx hdr
      go_wp2_with (go_at_call 26; refine hW9.mono ?_; rintro e w3 ⟨rfl, hb3, hlo3, hok3⟩)
      go_end0
      exact ⟨rfl, by rw [HT.out]; exact hb3, hlo.trans hlo3, hok.trans hok3⟩
    case' pos =>
      have hdj : decide ((j : Int) < ks.length) = true := by simp; omega
      obtain ⟨c, op, n, k, r, e1, e2, e3, e4, e5, e6⟩ := rdF_at HR.out j hlt HO.out
      have hdr : (txF t d).drop j = txN op n (txF k d) (txF k (d + 1)) d :: (txF t d).drop (j + 1) := by
        rw [← txF_drop, ← txF_drop, e2, e6]
        rfl
      rw [hdr] at htx
      obtain ⟨X, hXe⟩ : ∃ X, txN op n (txF k d) (txF k (d + 1)) d = X := ⟨_, rfl⟩
      rw [hXe] at htx
      obtain ⟨g, o, rfl, hg, q0, hrc⟩ := hki j _ e1
      have y0 := (hlo.cell (p := ⟨g, o + j, none⟩) hg).trans q0
      have f0 := hbr.c 0 rfl
      have f1 := hbr.c 1 rfl
      have hfr : FnAt (· < B) wr f na cap := hf.below hlo
      have HXE := Lib.hid hXe
      clear q0 hXe
      have hXl := congrArg List.length htx
      rw [joinC_drop] at htx hXl
      simp only [List.length_append] at hXl
      have hd64 : d + (1 + sizeF k) ≤ 1000000 := by omega
      by_cases h0 : j = 0
      case' pos =>
        have hj0 : decide ((j : Int) > 0) = false := by simp; omega
        have hjd : decide (0 < j) = false := by simp; omega
        rw [hjd] at htx hXl
        have HTX : Hid ((tx ++ X) ++ joinC (decide (0 < j + 1)) ((txF t d).drop (j + 1)) = joinC false (txF t d)) := by
          show _ = _
          rw [← htx]
          simp
        have hXc := HX.out f na cap c op n k d B b (l ++ [40] ++ tx) wr (by omega) e3 e4 hfr hbl hd0 hd64 (by rw [HXE.out]; simp only [List.length_append, List.length_cons, List.length_nil]; omega) hB5 hEr
        rw [HXE.out] at hXc
        unfold fnV at hXc
        clear htx hXl hdr e2 e6 h0
        go_wp2_with (go_at_call 27; refine hXc.mono ?_; rintro e w4 ⟨rfl, hb4, hlo4, hok4⟩)
        have hbr4 := hbr.ok8 hok4 (by omega) (by decide)
        go_roundw
        case' rel => exact ⟨j + 1, tx ++ X, by go_num, by omega, hbr4, by simpa using hb4, HTX.out, hlo.trans hlo4, hok.trans hok4⟩
        case' measure =>
          show ks.length - ((j : Int) + 1).toNat < ks.length - ((j : Nat) : Int).toNat
          omega
      case' neg =>
        have hj0 : decide ((j : Int) > 0) = true := by simp; omega
        have hjd : decide (0 < j) = true := by simp; omega
        rw [hjd] at htx hXl
        simp only [if_true, List.length_cons, List.length_nil] at hXl
        have HTX : Hid ((tx ++ [44, 32] ++ X) ++ joinC (decide (0 < j + 1)) ((txF t d).drop (j + 1)) = joinC false (txF t d)) := by
          show _ = _
          rw [← htx]
          simp
        have hWs := writeS B b (l ++ [40] ++ tx) ⟨#[44, 32]⟩ wr hbl (by simp only [List.length_append, List.length_cons, List.length_nil]; show _ + 2 ≤ _; omega) (by omega)
        clear htx hdr e2 e6 h0
        go_upto_region 7 with (go_at_call 24; refine hWs.mono ?_; rintro e w3 ⟨rfl, hb3, hlo3, hok3⟩)
        have hbr3 := hbr.ok8 hok3 (by omega) (by decide)
        have hE3 := hEr.below hlo3 hB5
        have hz3 := hlo3.size
        have hfr3 : FnAt (· < B) w3 f na cap := hfr.below hlo3
        have hXc := HX.out f na cap c op n k d B b (l ++ [40] ++ tx ++ [44, 32]) w3 (by omega) e3 e4 hfr3 hb3 hd0 hd64 (by rw [HXE.out]; simp only [List.length_append, List.length_cons, List.length_nil]; omega) hB5 hE3
        rw [HXE.out] at hXc
        unfold fnV at hXc
        clear f0 f1 hXl
        have g0 := hbr3.c 0 rfl
        have g1 := hbr3.c 1 rfl
        go_wp2_with (go_at_call 27; refine hXc.mono ?_; rintro e w4 ⟨rfl, hb4, hlo4, hok4⟩)
        have hbr4 := hbr3.ok8 hok4 (by omega) (by decide)
        go_roundw
        case' rel => exact ⟨j + 1, tx ++ [44, 32] ++ X, by go_num, by omega, hbr4, by simpa using hb4, HTX.out, (hlo.trans hlo3).trans hlo4, (hok.trans hok3).trans hok4⟩
        case' measure =>
          show ks.length - ((j : Int) + 1).toNat < ks.length - ((j : Nat) : Int).toNat
          omega
end Go.Proofs.YtjendlnicbieoaaGreatDoor
