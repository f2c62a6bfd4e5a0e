/-
  Package source: ordered.
-/
import Derived.Test.YtjendlnicbieoaaGreatDoorBwWl
import Derived.Test.YtjendlnicbieoaaGreatDoorNoXp
namespace Go.Proofs.YtjendlnicbieoaaGreatDoor
open Go.RowKit Go.Sort
attribute [local go_sem] Oper.semAt_some

/-- A row of nodes behind a pointer. -/
structure SO (w : World) (lo nb : Nat) (ns : List NA) (vD : Value) : Prop where
  b : Blk w nb 44 [vD]
  rn : w.ownsRow lo 59 3 vD ns.length (ns.flatMap NA.cs)
  kids : ∀ x ∈ ns, x.Ok w lo
def Sy (nb : Nat) (vD : Value) (k : Nat) : Prop := k = nb ∨ vD.ownBlock = some k
/-- What a call of ordered leaves. -/
def OrE (t : Fo) (lo nb : Nat) (ns : List NA) (vD : Value) (w : World) (e : Ending) (w' : World) : Prop :=
  e = .returned (.int .i64 (ns.length : Nat)) ∧ Fr (Sy nb vD) w w' ∧ ∃ (ns' : List NA) (vD' : Value), ns'.map NA.nd = flat ns.length t ∧ SO w' lo nb (ns ++ ns') vD' ∧ Own2 w vD vD' ∧ ∀ x ∈ ns', ∀ q, x.sl.ownBlock = some q → w.heap.size ≤ q
/-- ordered does what it shall, for trees of at most that size. -/
def OrC (m : Nat) : Prop := ∀ (f : Fn) (na : Option Addr) (cap c : Nat) (op n : Int) (k : Fo) (lo nb : Nat) (ns : List NA) (vD : Value) (B : Nat) (w : World),
  1 + sizeF k ≤ m → RdF f.ns [(c : Int)] (.cons c op n k .nil) → FnAt (· < B) w f na cap → SO w lo nb ns vD → B ≤ nb → nb < lo → lo ≤ w.heap.size → ns.length + (1 + sizeF k) ≤ 1000000 →
  Calls Tryz.prog 32 #[.pointer (some ⟨nb, 0, none⟩), fnV f na cap, .int .i64 (c : Nat)] w (OrE (.cons c op n k .nil) lo nb ns vD w)
/-- The first trees. -/
def takeF : Nat → Fo → Fo
  | 0, _ => .nil
  | _ + 1, .nil => .nil
  | j + 1, .cons c op n k r => .cons c op n k (takeF j r)
theorem takeF_all : ∀ (t : Fo) (j : Nat), cntF t ≤ j → takeF j t = t
  | .nil, 0, _ => rfl
  | .nil, _ + 1, _ => rfl
  | .cons _ _ _ _ r, 0, h => by simp [cntF] at h
  | .cons _ _ _ _ r, j + 1, h => by rw [takeF, takeF_all r j (by simp [cntF] at h; omega)]
theorem takeF_size : ∀ (t : Fo) (j : Nat), sizeF (takeF j t) ≤ sizeF t
  | .nil, 0 => Nat.le_refl _
  | .nil, _ + 1 => Nat.le_refl _
  | .cons _ _ _ _ r, 0 => by simp [takeF, sizeF]
  | .cons _ _ _ k r, j + 1 => by have := takeF_size r j; simp only [takeF, sizeF]; omega
theorem rdF_take {ns : List Nd} {l : List Int} {t : Fo} (h : RdF ns l t) : ∀ (j : Nat), j < l.length → ∃ (c : Nat) (op n : Int) (k : Fo), l[j]? = some (c : Int) ∧ takeF (j + 1) t = (takeF j t).app (.cons c op n k .nil) ∧ RdF ns [(c : Int)] (.cons c op n k .nil) ∧ sizeF (takeF j t) + (1 + sizeF k) ≤ sizeF t := by
  induction h with
  | nil => intro j hj; simp at hj
  | @cons c x l k r hx hk hl ih1 ih2 =>
    intro j hj
    cases j with
    | zero => exact ⟨c, x.op, x.n, k, rfl, rfl, .cons hx hk .nil, by simp only [takeF, sizeF]; omega⟩
    | succ j =>
      obtain ⟨c2, op2, n2, k2, e1, e2, e3, e5⟩ := ih2 j (by simpa using hj)
      exact ⟨c2, op2, n2, k2, by simpa using e1, by rw [takeF, e2]; rfl, e3, by simp only [takeF, sizeF]; omega⟩
theorem rdF_cnt {ns : List Nd} {l : List Int} {t : Fo} (h : RdF ns l t) : l.length = cntF t := by
  induction h with
  | nil => rfl
  | cons _ _ _ _ ih => simp [cntF, ih]; omega
theorem set_l (x y : NA) (h1 : y.nd.op = x.nd.op) (h2 : y.nd.n = x.nd.n) (ns r : List NA) : ((ns ++ y :: r).flatMap NA.cs).set (ns.length * 3 + 2) x.sl = (ns ++ x :: r).flatMap NA.cs := by
  rw [List.flatMap_append, List.flatMap_append, List.set_append_right (h := by rw [cs_len]; omega), cs_len, Nat.add_sub_cancel_left, List.flatMap_cons, List.flatMap_cons]
  simp [NA.cs, NA.sl, h1, h2]
section
variable {w w2 : World} {lo nb : Nat} {ns : List NA} {vD : Value}
theorem SO.below (h : SO w lo nb ns vD) (hb : Below w.heap.size w w2) : SO w2 lo nb ns vD :=
  ⟨h.b.belowAll hb, row_keep h.rn fun q _ hq => hb.block q hq, fun x hx => ⟨row_keep (h.kids x hx).1 fun q _ hq => hb.block q hq, (h.kids x hx).2⟩⟩
/-- Only a row of numbers turns that is none of the nodes'. -/
theorem SO.ints (h : SO w lo nb ns vD) (hnl : nb < lo) {n : Nat} {v : Value} {xs : List Value} (hv : w.ownsRow lo 3 1 v n xs) (hf : Fr (fun q => v.ownBlock = some q) w w2) (hk : ∀ x ∈ ns, ∀ q, x.sl.ownBlock = some q → ¬ v.ownBlock = some q) : SO w2 lo nb ns vD :=
  ⟨h.b.fr hf fun e => by have := row_base hv nb e; omega, row_keep h.rn fun q hq hq2 => hf.block q hq2 (rows_ne h.rn hv (by decide) q hq), fun x hx => (h.kids x hx).fr hf (hk x hx)⟩
theorem SO.ints_no (h : SO w lo nb ns vD) (hnl : nb < lo) {n : Nat} {v : Value} {xs : List Value} (hv : w.ownsRow lo 3 1 v n xs) (q : Nat) (hq : v.ownBlock = some q) : ¬ Sy nb vD q := by
  rintro (e | e)
  · have := row_base hv q hq; omega
  · exact rows_ne h.rn hv (by decide) q e hq
/-- A node has been appended. -/
theorem SO.pushed (h : SO w lo nb ns vD) (hnl : nb < lo) {op n : Int} (hop : Rng op) (hn : Rng n) {g cap : Nat} (hf : Fr (fun q => vD.ownBlock = some q) w w2)
    (hrow : w2.ownsRow lo 59 3 (.slice (some ⟨g, 0, none⟩) (ns.length + 1) cap) (ns.length + 1) (ns.flatMap NA.cs ++ [.int .i64 op, .int .i64 n, .slice none 0 0])) :
    Fr (Sy nb vD) w (w2.setCell ⟨nb, 0, none⟩ (.slice (some ⟨g, 0, none⟩) (ns.length + 1) cap)) ∧ SO (w2.setCell ⟨nb, 0, none⟩ (.slice (some ⟨g, 0, none⟩) (ns.length + 1) cap)) lo nb (ns ++ [⟨⟨op, n, []⟩, none, 0⟩]) (.slice (some ⟨g, 0, none⟩) (ns.length + 1) cap) := by
  have hF : Fr (Sy nb vD) w (w2.setCell ⟨nb, 0, none⟩ (.slice (some ⟨g, 0, none⟩) (ns.length + 1) cap)) := (hf.more fun _ _ e => .inr e).same (Fr.set (.inl (.inl rfl)))
  have hsR : Fr (fun q => q = nb) w2 (w2.setCell ⟨nb, 0, none⟩ (.slice (some ⟨g, 0, none⟩) (ns.length + 1) cap)) := Fr.set (.inl rfl)
  refine ⟨hF, (h.b.fr hf fun e => by have := row_base h.rn nb e; omega).set 0 _, ?_, fun x hx => ?_⟩
  · have := row_keep hrow fun q hq hq2 => hsR.block q hq2 (by have := row_base hrow q hq; omega)
    simpa [NA.cs] using this
  · rcases List.mem_append.1 hx with hx | hx
    · refine (h.kids x hx).fr hF fun q hq e => ?_
      have hr := (h.kids x hx).1
      rcases e with e | e
      · have := row_base hr q hq; omega
      · exact rows_ne hr h.rn (by decide) q hq e
    · rw [List.mem_singleton.1 hx]
      exact ⟨row_none _ _ _ _, hop, hn, fun y hy => by cases hy⟩
/-- A node's children's row is stored. -/
theorem SO.setL {g cap : Nat} {y : NA} {ns2 : List NA} (h : SO w lo nb (ns ++ y :: ns2) (.slice (some ⟨g, 0, none⟩) (ns ++ y :: ns2).length cap)) (hnl : nb < lo) (x : NA) (hx : x.Ok w lo) (h1 : y.nd.op = x.nd.op) (h2 : y.nd.n = x.nd.n) :
    SO (w.setCell ⟨g, ns.length * 3 + 2, none⟩ x.sl) lo nb (ns ++ x :: ns2) (.slice (some ⟨g, 0, none⟩) (ns ++ y :: ns2).length cap) := by
  have hfin : Fr (fun q => q = g) w (w.setCell ⟨g, ns.length * 3 + 2, none⟩ x.sl) := Fr.set (.inl rfl)
  have hg := h.rn
  have hgl := row_base hg g rfl
  have h3 := (hg.stored (ns.length * 3 + 2) x.sl).1
  rw [set_l x y h1 h2] at h3
  have hle : (ns ++ y :: ns2).length = (ns ++ x :: ns2).length := by simp
  refine ⟨h.b.fr hfin (by omega), by rw [hle] at h3 ⊢; exact h3, fun z hz => ?_⟩
  have hok : z.Ok w lo := by
    rcases List.mem_append.1 hz with hz | hz
    · exact h.kids z (List.mem_append_left _ hz)
    · rcases List.mem_cons.1 hz with rfl | hz
      · exact hx
      · exact h.kids z (List.mem_append_right _ (List.mem_cons_of_mem _ hz))
  exact hok.fr hfin fun q hq e => by
    subst e
    exact rows_ne hok.1 hg (by decide) _ hq rfl
end
/-- The state of ordered's loop: the trees done so far. -/
structure OrI (a j : Nat) (k d : Fo) (nx : List NA) (na1 : NA) (la : Option Addr) (lc lo nb : Nat) (ns : List NA) (vD vD' : Value) (w wr : World) : Prop where
  dj : d = takeF j k
  fr : Fr (Sy nb vD) w wr
  nd : nx.map NA.nd = flat (a + 1) d
  row : wr.ownsRow lo 3 1 (.slice la (roots (a + 1) d).length lc) (roots (a + 1) d).length (intsV (roots (a + 1) d))
  so : SO wr lo nb (ns ++ na1 :: nx) vD'
  oD : Own2 w vD vD'
  on : ∀ q, (Value.slice la (roots (a + 1) d).length lc).ownBlock = some q → w.heap.size ≤ q ∧ ∀ x ∈ nx, ¬ x.sl.ownBlock = some q
  kn : ∀ x ∈ nx, ∀ q, x.sl.ownBlock = some q → w.heap.size ≤ q
set_option maxRecDepth 100000 in
set_option maxHeartbeats 4000000 in
theorem ordered_step (m : Nat) (hC : OrC m) : OrC (m + 1) := by
  intro f na cap c op n k lo nb ns vD B w hm hr hf hS hBn hnl hll hz
  obtain ⟨x, l', e0, hx, hxo, hxn, hxk, -⟩ := hr.cons_inv
  obtain ⟨g, o, la, lc, rfl, hg, q0, q1, q2, hlc, hlm, hki, r1, r2⟩ := hf.ns c x hx
  have hcl : c < f.ns.length := (List.getElem?_eq_some_iff.1 hx).1
  rw [hxo] at q0 r1
  rw [hxn] at q1 r2
  obtain ⟨da, dc, rfl, -⟩ := row_form hS.rn
  have hnw := hS.b.lt
  have hb1 := below_new w (.cells #[.int .i64 f.ps, .slice (some ⟨g, o, none⟩) f.ns.length cap] 46)
  have y0 := (hb1.cell (p := ⟨g, o + c * 3, none⟩) (by dsimp only; omega)).trans q0
  have y1 := (hb1.cell (p := ⟨g, o + c * 3 + 1, none⟩) (by dsimp only; omega)).trans q1
  have y2 := (hb1.cell (p := ⟨g, o + c * 3 + 2, none⟩) (by dsimp only; omega)).trans q2
  have hbf := Blk.new w 46 [.int .i64 f.ps, .slice (some ⟨g, o, none⟩) f.ns.length cap]
  have f1 := hbf.c 1 rfl
  have hb2 := hb1.alloc hb1.size (.cells #[.int .i64 op, .int .i64 n, .slice la x.l.length lc] 59)
  have hbf2 := hbf.alloc (.cells #[.int .i64 op, .int .i64 n, .slice la x.l.length lc] 59)
  have hbn2 := Blk.new (w.alloc (.cells #[.int .i64 f.ps, .slice (some ⟨g, o, none⟩) f.ns.length cap] 46)) 59 [.int .i64 op, .int .i64 n, .slice la x.l.length lc]
  rw [World.size_alloc] at hbn2
  have b0 := (hS.b.belowAll hb1).c 0 rfl
  have b00 := hS.b.c 0 rfl
  unfold fnV
  go_enter Tryz.func32, Tryz.ntmps32
  go_upto_region 3 with fail
  have hz2 := hb2.size
  have hS2 := hS.below hb2
  have hf2 := hf.below (hb2.mono (show B ≤ w.heap.size by omega))
  clear y0 y1 y2 f1 q0 q1 q2 hbf hb1 b0 b00
  generalize (w.alloc (.cells #[.int .i64 f.ps, .slice (some ⟨g, o, none⟩) f.ns.length cap] 46)).alloc (.cells #[.int .i64 op, .int .i64 n, .slice la x.l.length lc] 59) = w2 at *
  have n0 := hbn2.c 0 rfl
  have n1 := hbn2.c 1 rfl
  have n2 := hbn2.c 2 rfl
  have c0 := hS2.b.c 0 rfl
  have hnl2 := hbn2.lt
  have hrN := hS2.rn
  have ag : (Value.slice da ns.length dc).ownBlock ≠ some nb := fun e => by have := row_base hrN nb e; omega
  obtain ⟨i0, hi0, hz0, hz1, hz3⟩ := info_partsS node_info
  have hcA : ((w2.alloc (.cells #[.int .i64 op, .int .i64 n, .slice none 0 0] 59)).drew).cell? ⟨nb, 0, none⟩ = some (.slice da ns.length dc) := (hS2.b.belowAll (below_new w2 (.cells #[.int .i64 op, .int .i64 n, .slice none 0 0] 59)).drew).c 0 rfl
  have hzA : ((w2.alloc (.cells #[.int .i64 op, .int .i64 n, .slice none 0 0] 59)).drew).frozen? ⟨nb, 0, none⟩ = false := (hS2.b.belowAll (below_new w2 (.cells #[.int .i64 op, .int .i64 n, .slice none 0 0] 59)).drew).fz 0
  have hnw2 : nb < w2.heap.size := hS2.b.lt
  go_cut [32] from 21 to 33 (fun _ wx => ∃ g3 cap3, Fr (Sy nb (.slice da ns.length dc)) w2 wx ∧ SO wx lo nb (ns ++ [⟨⟨op, n, []⟩, none, 0⟩]) (.slice (some ⟨g3, 0, none⟩) (ns.length + 1) cap3) ∧ Own2 w2 (.slice da ns.length dc) (.slice (some ⟨g3, 0, none⟩) (ns.length + 1) cap3))
  case first =>
    go_region_law
      ((refine step_append_lies _ (by rfl) _ _ _ (by rfl) lo 59 i0 _ 3 40 Tryz.underlying44 hi0 hz0 hz1 hz3 rfl (by omega) (.slice da ns.length dc) ns.length (ns.flatMap NA.cs) (by rfl) ((hrN.alloc _).drew)
          ⟨w2.heap.size, 0, none⟩ 1 1 [.int .i64 op, .int .i64 n, .slice none 0 0] (by rfl) (by rfl) (World.news_of_block (cs := #[.int .i64 op, .int .i64 n, .slice none 0 0]) (t := 59) (fr := (0, 0)) (heap_alloc_new w2 _)) (by simp [Value.oneCell'])
          (by omega) (by unfold maxLen; omega) (by omega) (by simp; omega) (w2.heap.size + 1) (by simp) ?_; intro gg capg w3 hown3 hgrow hat hlt; have hz3 : w3.frozen? ⟨nb, 0, none⟩ = false := (hgrow.frozen_far ⟨nb, 0, none⟩ (by simp; omega) (Ne.symm ag)).trans hzA; have hc3 : w3.cell? ⟨nb, 0, none⟩ = some (.slice da ns.length dc) := (hgrow.cell_far ⟨nb, 0, none⟩ (by simp; omega) (Ne.symm ag)).trans hcA))
    all_goals
      obtain ⟨hfA, hSA⟩ := hS2.pushed hnl r1 r2 (((Fr.alloc _).same Fr.drew).same (Fr.grown hgrow fun g hg => .inl hg)) hown3
      go_wp2_with fail
      go_meet
      refine ⟨gg, capg, hfA, hSA, fun q hq => ?_⟩
      simp only [Value.ownBlock, Option.some.injEq] at hq
      subst hq
      rcases hat with e | e
      · exact .inl e
      · exact .inr (by rw [e]; simp)
  case rest =>
    obtain ⟨g3, cap3, hfA, hSA, oA⟩ := hcut
    have hzA2 := hfA.size
    have hown : ∀ q, (Value.slice da ns.length dc).ownBlock = some q → q < w.heap.size := fun q hq => (hS.rn.lt q hq).2
    have hbn3 := hbn2.fr hfA (by rintro (e | e); (omega); have := hown _ e; omega)
    have m2 := hbn3.c 2 rfl
    have HC := Lib.hid hC
    have HR := Lib.hid hxk
    have HKL := Lib.hid (rdF_cnt hxk)
    unfold maxLen at hlm
    obtain ⟨na1, hna⟩ : ∃ z : NA, z = ⟨⟨op, n, []⟩, none, 0⟩ := ⟨_, rfl⟩
    obtain ⟨hna1, hna2, hna3⟩ : na1.nd.op = op ∧ na1.nd.n = n ∧ ∀ q, ¬ na1.sl.ownBlock = some q := by rw [hna]; exact ⟨rfl, rfl, fun q h => by cases h⟩
    have HN1 := Lib.hid hna1
    have HN2 := Lib.hid hna2
    rw [← hna] at hSA
    clear hna1 hna2 hC hr hxk hx hna n0 n1 n2 c0 hcA hzA hrN i0 hi0 hz0 hz1 hz3 hf
    go_wp2_with fail
    go_loopw [9, 11, 36] (fun lv _ jv wr => ∃ (j : Nat) (d : Fo) (nx : List NA) (la1 : Option Addr) (lc1 : Nat) (vD' : Value), jv = .int .i64 (j : Nat) ∧ j ≤ x.l.length ∧ lv = .slice la1 (roots (ns.length + 1) d).length lc1 ∧ OrI ns.length j k d nx na1 la1 lc1 lo nb ns (.slice da ns.length dc) vD' w2 wr) (fun _ _ jv _ => x.l.length - (intOf jv).toNat)
    case atStart => exact ⟨0, .nil, [], none, 0, _, rfl, Nat.zero_le _, rfl, ⟨rfl, hfA, rfl, row_none _ _ _ _, hSA, oA, fun q hq => (by cases hq), fun x hx => (by cases hx)⟩⟩
    case round =>
      obtain ⟨j, d, nx, la1, lc1, vD', rfl, hj, rfl, hI⟩ := hrel
      have hzr := hI.fr.size
      have hfB : Below B w2 wr := hI.fr.toBelow B (by rintro q hq (e | e); (omega); have := row_base hS.rn q e; omega) (by omega)
      have hlo : Below B w wr := (hb2.mono (by omega)).trans hfB
      have hbfr := hbf2.fr hI.fr (by rintro (e | e); (omega); have := hown _ e; omega)
      have hnl' : nx.length = sizeF d := by have := congrArg List.length hI.nd; rwa [List.length_map, flat_length] at this
      by_cases hlt : j < x.l.length
      case' neg =>
        have hjd : decide ((j : Int) < x.l.length) = false := by simp; omega
        have hdk : d = k := by rw [hI.dj]; exact takeF_all k j (by have := HKL.out; omega)
        subst hdk
        have hSr := hI.so
        obtain ⟨da9, dc9, rfl, hdc9, hdm9, hcD⟩ := row_form hSr.rn
        have hgt : ((ns ++ na1 :: nx).flatMap NA.cs)[ns.length * 3 + 2]? = some na1.sl := by
          rw [List.flatMap_append, List.getElem?_append_right (by rw [cs_len]; omega), cs_len, Nat.add_sub_cancel_left, List.flatMap_cons, List.getElem?_append_left (by simp [NA.cs])]
          rfl
        obtain ⟨g9, rfl, hlo9, hlt9, d2⟩ := hcD (ns.length * 3 + 2) _ hgt
        have z2 := row_fz hSr.rn (ns.length * 3 + 2)
        have c9 := hSr.b.c 0 rfl
        have hlen : ns.length < (ns ++ na1 :: nx).length := by simp
        have hok : (NA.mk ⟨op, n, roots (ns.length + 1) d⟩ la1 lc1).Ok wr lo := ⟨hI.row, r1, r2, fun y hy => by
          obtain ⟨h1, h2⟩ := roots_mem d (ns.length + 1) y hy
          exact ⟨by omega, by omega⟩⟩
        have hS9 := hSr.setL hnl (NA.mk ⟨op, n, roots (ns.length + 1) d⟩ la1 lc1) hok HN1.out HN2.out
        have hfin : Fr (fun q => q = g9) wr (wr.setCell ⟨g9, ns.length * 3 + 2, none⟩ (NA.mk ⟨op, n, roots (ns.length + 1) d⟩ la1 lc1).sl) := Fr.set (.inl rfl)
        unfold NA.sl at d2 hS9 hfin
        go_wp2_with fail
        go_ret
        have hf9 : Fr (Sy nb (.slice da ns.length dc)) w2 (wr.setCell ⟨g9, ns.length * 3 + 2, none⟩ (.slice la1 (roots (ns.length + 1) d).length lc1)) := hI.fr.trans hfin fun q hq e => by
          subst e
          rcases hI.oD q rfl with h | h
          · exact .inr h
          · omega
        refine ⟨rfl, (Fr.belowAll hb2).trans hf9 fun _ _ e => e, (NA.mk ⟨op, n, roots (ns.length + 1) d⟩ la1 lc1) :: nx, _, ?_, hS9, fun q hq => ?_, fun y hy q hq => ?_⟩
        · rw [List.map_cons, hI.nd]
          simp [flat]
        · rcases hI.oD q hq with h | h
          · exact .inl h
          · exact .inr (by omega)
        · rcases List.mem_cons.1 hy with rfl | hy
          · have := (hI.on q hq).1; omega
          · have := hI.kn y hy q hq; omega
      case' pos =>
        have hjd : decide ((j : Int) < x.l.length) = true := by simp; omega
        obtain ⟨c2, op2, n2, k2, e1, e2, e3, e4⟩ := rdF_take HR.out j hlt
        rw [← hI.dj] at e2 e4
        obtain ⟨g2, o2, rfl, hg2, s0, -⟩ := hki j _ e1
        have y0 := (hlo.cell (p := ⟨g2, o2 + j, none⟩) hg2).trans s0
        have f0 := hbfr.c 0 rfl
        have f1 := hbfr.c 1 rfl
        have hlen2 : (ns ++ na1 :: nx).length = ns.length + 1 + sizeF d := by simp [hnl']; omega
        have hCal := HC.out f (some ⟨g, o, none⟩) cap c2 op2 n2 k2 lo nb (ns ++ na1 :: nx) vD' B wr (by omega) e3 (hf2.below hfB) hI.so hBn hnl (by omega) (by omega)
        unfold OrE fnV at hCal
        rw [hlen2] at hCal
        have hro : roots (ns.length + 1) (d.app (.cons c2 op2 n2 k2 .nil)) = roots (ns.length + 1) d ++ [((ns.length + 1 + sizeF d : Nat) : Int)] := by rw [roots_app]; rfl
        have hrl := roots_le d (ns.length + 1)
        clear s0 e3
        go_upto_region 9 with first
          | (go_at_call 32; refine hCal.mono ?_; rintro e w3 ⟨rfl, hf3, ny, vD3, hnd3, hS3, oD3, kn3⟩; have hrow3 := row_keep hI.row fun q hq hq2 => hf3.block q hq2 (hI.so.ints_no hnl hI.row q hq); have hz3 := hf3.size; have hnw3 := heap_alloc_new w3 (.cells #[.int .i64 ((ns.length + 1 + sizeF d : Nat) : Int)] 3))
          | (at_builtin; refine wpList_row _ rfl (.tmp 40) (.tmp 45) 57 3 _ 1 8 Tryz.underlying57 int_info rfl (by decide) (by decide) rfl lo (.slice la1 (roots (ns.length + 1) d).length lc1) (roots (ns.length + 1) d).length (intsV (roots (ns.length + 1) d)) rfl (hrow3.alloc _) w3.heap.size [.int .i64 ((ns.length + 1 + sizeF d : Nat) : Int)] rfl hnw3 rfl (by intro u hu; simp at hu; subst hu; rfl) (by omega) (by simp only [World.size_alloc]; omega) ?_; intro g' cap' w5 hr5 hg5 ha5)
        have hfr5 : Fr (fun q => (Value.slice la1 (roots (ns.length + 1) d).length lc1).ownBlock = some q) w3 w5 := (Fr.alloc _).same (Fr.grown hg5 fun g hg => .inl hg)
        have hlo1 := hI.on
        have hll1 := hI.row.lt
        have hS5 := hS3.ints hnl hrow3 hfr5 (by
          intro y hy q hq hq2
          rcases List.mem_append.1 hy with hy | hy
          · rcases List.mem_append.1 hy with hy | hy
            · have h1 := ((hS2.kids y hy).1.lt q hq).2
              have h2 := (hlo1 q hq2).1
              omega
            · rcases List.mem_cons.1 hy with rfl | hy
              · exact hna3 q hq
              · exact (hlo1 q hq2).2 y hy hq
          · have h1 := kn3 y hy q hq
            have h2 := (hll1 q hq2).2
            omega)
        have hrow5 : w5.ownsRow lo 3 1 (.slice (some ⟨g', 0, none⟩) (roots (ns.length + 1) (takeF (j + 1) k)).length cap') (roots (ns.length + 1) (takeF (j + 1) k)).length (intsV (roots (ns.length + 1) (takeF (j + 1) k))) := by
          rw [e2, hro]
          simpa [intsV] using hr5
        have hon5 : ∀ q, (Value.slice (some ⟨g', 0, none⟩) (roots (ns.length + 1) (takeF (j + 1) k)).length cap').ownBlock = some q → w2.heap.size ≤ q ∧ ∀ y ∈ nx ++ ny, ¬ y.sl.ownBlock = some q := by
          intro q hq
          simp only [Value.ownBlock, Option.some.injEq] at hq
          subst hq
          rcases ha5 with ha | ha
          · refine ⟨(hlo1 _ ha).1, fun y hy hq => ?_⟩
            rcases List.mem_append.1 hy with hy | hy
            · exact (hlo1 _ ha).2 y hy hq
            · have h1 := kn3 y hy _ hq
              have h2 := (hll1 _ ha).2
              omega
          · simp only [World.size_alloc] at ha
            refine ⟨by omega, fun y hy hq => ?_⟩
            have h1 := ((hS3.kids y (by simp only [List.mem_append, List.mem_cons] at hy ⊢; rcases hy with hy | hy; (exact .inl (.inr (.inr hy))); exact .inr hy)).1.lt _ hq).2
            omega
        have hsy : ∀ q, q < w2.heap.size → Sy nb vD' q → Sy nb (.slice da ns.length dc) q := fun q hq e => by
          rcases e with e | e
          · exact .inl e
          · rcases hI.oD q e with h | h
            · exact .inr h
            · omega
        have hfrA : Fr (Sy nb (.slice da ns.length dc)) w2 w5 := (hI.fr.trans hf3 hsy).trans hfr5 fun q hq e => by have := (hlo1 q e).1; omega
        have hndA : (nx ++ ny).map NA.nd = flat (ns.length + 1) (takeF (j + 1) k) := by rw [List.map_append, hI.nd, hnd3, e2, flat_app]
        have hknA : ∀ y ∈ nx ++ ny, ∀ q, y.sl.ownBlock = some q → w2.heap.size ≤ q := fun y hy q hq => by
          rcases List.mem_append.1 hy with hy | hy
          · exact hI.kn y hy q hq
          · exact Nat.le_trans hzr (kn3 y hy q hq)
        have hRL : (roots (ns.length + 1) (takeF (j + 1) k)).length = (roots (ns.length + 1) d).length + 1 := by rw [e2, hro]; simp
        have HRL := Lib.hid hRL
        have hmid : ns ++ na1 :: nx ++ ny = ns ++ na1 :: (nx ++ ny) := by simp
        rw [hmid] at hS5
        have hOI : OrI ns.length (j + 1) k (takeF (j + 1) k) (nx ++ ny) na1 (some ⟨g', 0, none⟩) cap' lo nb ns (.slice da ns.length dc) vD3 w2 w5 := ⟨rfl, hfrA, hndA, hrow5, hS5, hI.oD.trans oD3 hzr, hon5, hknA⟩
        clear e2 hro hRL hmid hlen2
        go_wp2_with fail
        go_roundw
        case' rel => exact ⟨j + 1, _, _, _, _, _, by go_num, by omega, by rw [HRL.out], hOI⟩
        case' measure =>
          show x.l.length - ((j : Int) + 1).toNat < x.l.length - ((j : Nat) : Int).toNat
          omega
/-- ordered, for trees of whatever size. -/
theorem ordered_all : ∀ m, OrC m
  | 0 => fun f na cap c op n k lo nb ns vD B w hm => by omega
  | m + 1 => ordered_step m (ordered_all m)
end Go.Proofs.YtjendlnicbieoaaGreatDoor
