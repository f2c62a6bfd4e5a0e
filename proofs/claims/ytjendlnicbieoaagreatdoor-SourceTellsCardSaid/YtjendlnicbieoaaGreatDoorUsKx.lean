/-
  Package source's reader: use: the statement 'r.uses = append(r.uses, use{..})', in whatever order: by an invariant. Printed by gen_us.py.
-/
import Derived.Test.YtjendlnicbieoaaGreatDoorRsRa
namespace Go.Proofs.YtjendlnicbieoaaGreatDoor
open Go.RowKit Go.Sort

theorem use_info : (Tryz.prog.info? 152).map (fun i => (i.zero, i.size, i.bytes)) = some (some (.agg #[.int .i64 0, .int .i64 0, .int .i64 0, .string ⟨#[]⟩]), 4, 40) := by kernel_rfl
def UsK : List Key := [(some 4, .move (.tmp 0), none),
    (some 5, .move (.tmp 0), none),
    (some 6, .nilCheck (.tmp 5), none),
    (some 7, .fieldAddr 124 (.tmp 6) 5, none),
    (some 8, .load 122 (.tmp 7), none),
    (some 9, .move (.tmp 0), none),
    (some 10, .nilCheck (.tmp 9), none),
    (some 11, .fieldAddr 124 (.tmp 10) 4, none),
    (some 12, .load 22 (.tmp 11), none),
    (some 13, .call { callee := .builtin .len, args := #[.tmp 12], argTypes := #[22] }, none),
    (some 14, .move (.tmp 1), none),
    (some 15, .move (.tmp 0), none),
    (some 16, .nilCheck (.tmp 15), none),
    (some 17, .fieldAddr 124 (.tmp 16) 1, none),
    (some 18, .fieldAddr 106 (.tmp 17) 2, none),
    (some 19, .load 3 (.tmp 18), none),
    (some 20, .move (.tmp 0), none),
    (some 21, .call { callee := .value (.func 85), args := #[.tmp 20], argTypes := #[121] }, none),
    (some 22, .build 152 #[(0, .tmp 13), (1, .tmp 14), (2, .tmp 19), (3, .tmp 21)], none),
    (some 23, .buildSlice 122 1 #[(0, .tmp 22)], none),
    (some 24, .call { callee := .builtin .append, args := #[.tmp 8, .tmp 23], argTypes := #[122, 122] }, none),
    (some 25, .nilCheck (.tmp 4), none),
    (some 26, .fieldAddr 124 (.tmp 25) 5, none),
    (none, .store 122 (.tmp 26) (.tmp 24), none)]
def UsD : List (List Nat) := [[], [], [1], [2], [3], [], [5], [6], [7], [8], [], [], [11], [12], [13], [14], [], [16], [9, 10, 15, 17], [18], [4, 19, 17], [0, 0, 1, 2, 3, 4, 5, 6, 7, 8, 9, 10, 11, 12, 13, 14, 15, 16, 17, 18, 19, 20], [21, 0, 1, 2, 3, 4, 5, 6, 7, 8, 9, 10, 11, 12, 13, 14, 15, 16, 17, 18, 19, 20], [22, 20, 20, 0, 1, 2, 3, 4, 5, 6, 7, 8, 9, 10, 11, 12, 13, 14, 15, 16, 17, 18, 19, 20]]
def UsT (R : Nat) (ts : List Tk) (fa : Option Addr) (fi fc : Nat) (ua : Option Addr) (un uc : Nat) (at_ : Nat) : List (Nat × Nat × Value) := [(0, 4, .pointer (some ⟨R, 0, none⟩)), (1, 5, .pointer (some ⟨R, 0, none⟩)), (2, 6, .pointer (some ⟨R, 0, none⟩)), (3, 7, .pointer (some ⟨R, 11, none⟩)), (4, 8, .slice ua un uc), (5, 9, .pointer (some ⟨R, 0, none⟩)), (6, 10, .pointer (some ⟨R, 0, none⟩)), (7, 11, .pointer (some ⟨R, 10, none⟩)), (8, 12, .slice fa fi fc), (9, 13, .int .i64 (fi : Nat)), (10, 14, .int .i64 (at_ : Nat)), (11, 15, .pointer (some ⟨R, 0, none⟩)), (12, 16, .pointer (some ⟨R, 0, none⟩)), (13, 17, .pointer (some ⟨R, 3, none⟩)), (14, 18, .pointer (some ⟨R, 5, none⟩)), (15, 19, .int .i64 ((hd ts).ln : Nat)), (16, 20, .pointer (some ⟨R, 0, none⟩)), (17, 21, .string ⟨(hd ts).s.toArray⟩), (18, 22, .agg #[.int .i64 (fi : Nat), .int .i64 (at_ : Nat), .int .i64 ((hd ts).ln : Nat), .string ⟨(hd ts).s.toArray⟩]), (21, 25, .pointer (some ⟨R, 0, none⟩)), (22, 26, .pointer (some ⟨R, 11, none⟩))]
/-- What stands after some of the operations. -/
structure UsI (a0 : Act) (lo R : Nat) (s : ByteArray) (ts : List Tk) (vN : Value) (fa : Option Addr) (fi fc : Nat) (ua : Option Addr) (un uc : Nat) (xs : List Value) (vD vV : Value) (at_ : Nat) (w : World) (D : Nat → Bool) (a : Act) (W : World) : Prop where
  fr : Upd a0 a 4 23
  sl : Slots (UsT R ts fa fi fc ua un uc at_) D a
  ft : Fr (fun k => k = R ∨ (Value.slice ua un uc).ownBlock = some k) w W
  e19 : D 20 = true → D 19 = true
  e23 : D 23 = true → D 20 = true
  e18 : D 19 = true → D 18 = true
  b18 : D 18 = true → D 9 = true ∧ D 15 = true ∧ D 17 = true
  b9 : D 9 = true → D 8 = true
  isn : D 17 = true → isN ts = true
  b20 : D 20 = true → ∀ i, i < 20 → i = 4 ∨ i = 8 ∨ i = 15 ∨ i = 17 → D i = true
  rd : D 23 = false → Rdr W R s ts [vN, .slice fa fi fc, .slice ua un uc, vD, vV]
  row : D 20 = false → W.ownsRow lo 152 4 (.slice ua un uc) un xs
  bs : D 19 = true → D 20 = false → ∃ g, a.eval (.tmp 23) = .slice (some ⟨g, 0, none⟩) 1 1 ∧ W.heap[g]? = some (.cells (List.toArray [.int .i64 (fi : Nat), .int .i64 (at_ : Nat), .int .i64 ((hd ts).ln : Nat), .string ⟨(hd ts).s.toArray⟩]) 152 (0, 0)) ∧ lo ≤ g
  ap : D 20 = true → ∃ g cap, a.eval (.tmp 24) = .slice (some ⟨g, 0, none⟩) (un + 1) cap ∧ W.ownsRow lo 152 4 (.slice (some ⟨g, 0, none⟩) (un + 1) cap) (un + 1) (xs ++ [.int .i64 (fi : Nat), .int .i64 (at_ : Nat), .int .i64 ((hd ts).ln : Nat), .string ⟨(hd ts).s.toArray⟩]) ∧ ((Value.slice ua un uc).ownBlock = some g ∨ w.heap.size ≤ g) ∧
    (D 23 = true → Rdr W R s ts [vN, .slice fa fi fc, .slice (some ⟨g, 0, none⟩) (un + 1) cap, vD, vV])
section
variable {a0 a : Act} {lo R : Nat} {s : ByteArray} {ts : List Tk} {vN : Value} {fa : Option Addr} {fi fc : Nat} {ua : Option Addr} {un uc : Nat} {xs : List Value} {vD vV : Value} {at_ : Nat} {w W : World} {D : Nat → Bool}
/-- An operation that only sets a slot. -/
theorem UsI.step (h : UsI a0 lo R s ts vN fa fi fc ua un uc xs vD vV at_ w D a W) (q t : Nat) (v : Value) (h19 : q ≠ 19) (h20 : q ≠ 20) (h23 : q ≠ 23) (h17 : q ≠ 17) (g18 : q = 18 → D 9 = true ∧ D 15 = true ∧ D 17 = true) (g9 : q = 9 → D 8 = true) (h1 : 4 ≤ t) (h2 : t < 27) (ht : t ≠ 23) (ht2 : t ≠ 24) (hs : t < a.tmps.size) (hT : ∀ x ∈ UsT R ts fa fi fc ua un uc at_, (x.1 = q → x.2.1 = t ∧ x.2.2 = v) ∧ (x.1 ≠ q → x.2.1 ≠ t)) : UsI a0 lo R s ts vN fa fi fc ua un uc xs vD vV at_ w (upd D q) (a.put (some t) v) W := by
  have u19 : upd D q 19 = D 19 := upd_ne D (Ne.symm h19)
  have u20 : upd D q 20 = D 20 := upd_ne D (Ne.symm h20)
  have u23 : upd D q 23 = D 23 := upd_ne D (Ne.symm h23)
  refine ⟨h.fr.put (by omega) (by omega) v, h.sl.put q t v hs hT, h.ft, by rw [u20, u19]; exact h.e19, by rw [u23, u20]; exact h.e23, fun h5 => upd_mono (h.e18 (by rwa [u19] at h5)), fun h5 => ?_, fun h5 => ?_, fun h5 => h.isn (by rwa [upd_ne D (Ne.symm h17)] at h5), fun h5 i hi hi2 => upd_mono (h.b20 (by rwa [u20] at h5) i hi hi2), by rw [u23]; exact h.rd, by rw [u20]; exact h.row, ?_, ?_⟩
  · by_cases e : q = 18
    · obtain ⟨e1, e2, e3⟩ := g18 e
      exact ⟨upd_mono e1, upd_mono e2, upd_mono e3⟩
    · obtain ⟨e1, e2, e3⟩ := h.b18 (by rwa [upd_ne D (Ne.symm e)] at h5)
      exact ⟨upd_mono e1, upd_mono e2, upd_mono e3⟩
  · by_cases e : q = 9
    · exact upd_mono (g9 e)
    · exact upd_mono (h.b9 (by rwa [upd_ne D (Ne.symm e)] at h5))
  · rw [u19, u20]
    intro h3 h4
    obtain ⟨g, g1, g2⟩ := h.bs h3 h4
    exact ⟨g, by rw [eval_put_ne (Ne.symm ht)]; exact g1, g2⟩
  · rw [u20, u23]
    intro h3
    obtain ⟨g, cap, g1, g2⟩ := h.ap h3
    exact ⟨g, cap, by rw [eval_put_ne (Ne.symm ht2)]; exact g1, g2⟩
end
theorem notAgg_uses (w : World) : (isAgg 122).run Tryz.prog w = .ok false w := by kernel_rfl
theorem notAgg_funs (w : World) : (isAgg 22).run Tryz.prog w = .ok false w := by kernel_rfl
theorem notAgg_int (w : World) : (isAgg 3).run Tryz.prog w = .ok false w := by kernel_rfl
set_option maxRecDepth 100000 in
set_option maxHeartbeats 4000000 in
theorem use_region {ops : Array Oper} {Q : Exit → Act → World → Prop} {a0 : Act} {id lo R : Nat} {s : ByteArray} {ts : List Tk} {vN : Value} {fa : Option Addr} {fi fc : Nat} {ua : Option Addr} {un uc : Nat} {xs : List Value} {vD vV : Value} {at_ : Nat} {w : World} (hsh : Shape ops UsK UsD) (hsz : 27 ≤ a0.tmps.size) (h0 : a0.eval (.tmp 0) = .pointer (some ⟨R, 0, none⟩)) (h1 : a0.eval (.tmp 1) = .int .i64 (at_ : Nat))
    (hrd : Rdr w R s ts [vN, .slice fa fi fc, .slice ua un uc, vD, vV]) (hrow : w.ownsRow lo 152 4 (.slice ua un uc) un xs) (hun : un ≤ 100000) (hRl : R < lo) (hlo : lo ≤ w.heap.size)
    (hQ : ∀ a W g cap, Upd a0 a 4 23 → isN ts = true → Fr (fun k => k = R ∨ (Value.slice ua un uc).ownBlock = some k) w W → W.ownsRow lo 152 4 (.slice (some ⟨g, 0, none⟩) (un + 1) cap) (un + 1) (xs ++ [.int .i64 (fi : Nat), .int .i64 (at_ : Nat), .int .i64 ((hd ts).ln : Nat), .string ⟨(hd ts).s.toArray⟩]) → ((Value.slice ua un uc).ownBlock = some g ∨ w.heap.size ≤ g) →
      Rdr W R s ts [vN, .slice fa fi fc, .slice (some ⟨g, 0, none⟩) (un + 1) cap, vD, vV] → Q .normal a W)
    (hF : ∀ a W, a.defers = a0.defers → isN ts = false → Fr (fun k => k = R ∨ (Value.slice ua un uc).ownBlock = some k) w W → Q (.panic [{ v := .iface 119 (.int .i64 ((hd ts).ln : Nat)), recovered := false }]) a W) : (Code.region id ops true).wp Tryz.prog Q a0 w := by
  refine wp_region_inv (by kernel_rfl) (hsh.edged (by decide)) (UsI a0 lo R s ts vN fa fi fc ua un uc xs vD vV at_ w) ?_ ?_ ?_
  · exact ⟨Upd.refl _ _ _, fun x _ h => by simp at h, Fr.drew, fun h => by simp at h, fun h => by simp at h, fun h => by simp at h, fun h => by simp at h, fun h => by simp at h, fun h => by simp at h, fun h => by simp at h, fun _ => hrd.fr (S := fun _ => False) Fr.drew (fun h => h), fun _ => row_keep hrow fun _ _ _ => rfl, fun h => by simp at h, fun h => by simp at h⟩
  · rintro D a wr j o hI ho hD hdep
    have hk := hsh.key_at ho
    have hasz : a.tmps.size = a0.tmps.size := hI.fr.size
    have hwz := hI.ft.size
    have hj : j < 24 := by
      rcases Nat.lt_or_ge j 24 with hlt | hge
      · exact hlt
      · rw [List.getElem?_eq_none (by simpa [UsK] using hge)] at hk; cases hk
    have hdp := fun es => hsh.dep_at ho hdep (es := es)
    clear hdep
    have nb : ∀ i, D i = false → i < 20 → (i = 4 ∨ i = 8 ∨ i = 15 ∨ i = 17) → D 20 = false := fun i h h1 h2 => by
      cases h3 : D 20 with
      | false => rfl
      | true => rw [hI.b20 h3 i h1 h2] at h; cases h
    have n23 : D 20 = false → D 23 = false := fun h => by
      cases h3 : D 23 with
      | false => rfl
      | true => rw [hI.e23 h3] at h; cases h
    have hcases : j = 0 ∨ j = 1 ∨ j = 2 ∨ j = 3 ∨ j = 4 ∨ j = 5 ∨ j = 6 ∨ j = 7 ∨ j = 8 ∨ j = 9 ∨ j = 10 ∨ j = 11 ∨ j = 12 ∨ j = 13 ∨ j = 14 ∨ j = 15 ∨ j = 16 ∨ j = 17 ∨ j = 18 ∨ j = 19 ∨ j = 20 ∨ j = 21 ∨ j = 22 ∨ j = 23 := by omega
    rcases hcases with rfl | rfl | rfl | rfl | rfl | rfl | rfl | rfl | rfl | rfl | rfl | rfl | rfl | rfl | rfl | rfl | rfl | rfl | rfl | rfl | rfl | rfl | rfl | rfl
    · -- 0
      obtain ⟨odst, oop, oty, opos, oaft, ogd⟩ := o
      simp only [key, UsK, List.getElem?_cons_zero, Option.some.injEq, Prod.mk.injEq] at hk
      obtain ⟨rfl, rfl, rfl⟩ := hk
      exact wpOp_of ho rfl (op_move rfl ((hI.fr.eval (by omega)).trans h0) (hI.step 0 4 (.pointer (some ⟨R, 0, none⟩)) (by decide) (by decide) (by decide) (by decide) (by intro h; omega) (by intro h; omega) (by decide) (by decide) (by decide) (by decide) (by omega) (by simp [UsT])))
    · -- 1
      obtain ⟨odst, oop, oty, opos, oaft, ogd⟩ := o
      simp only [key, UsK, List.getElem?_cons_zero, List.getElem?_cons_succ, Option.some.injEq, Prod.mk.injEq] at hk
      obtain ⟨rfl, rfl, rfl⟩ := hk
      exact wpOp_of ho rfl (op_move rfl ((hI.fr.eval (by omega)).trans h0) (hI.step 1 5 (.pointer (some ⟨R, 0, none⟩)) (by decide) (by decide) (by decide) (by decide) (by intro h; omega) (by intro h; omega) (by decide) (by decide) (by decide) (by decide) (by omega) (by simp [UsT])))
    · -- 2
      obtain ⟨odst, oop, oty, opos, oaft, ogd⟩ := o
      simp only [key, UsK, List.getElem?_cons_zero, List.getElem?_cons_succ, Option.some.injEq, Prod.mk.injEq] at hk
      obtain ⟨rfl, rfl, rfl⟩ := hk
      have p1_ : D 1 = true := hdp _ rfl 1 (by decide)
      have s5 : a.eval (.tmp 5) = .pointer (some ⟨R, 0, none⟩) := hI.sl (1, 5, .pointer (some ⟨R, 0, none⟩)) (by simp [UsT]) p1_
      exact wpOp_of ho rfl (op_nilCheck rfl s5 (hI.step 2 6 (.pointer (some ⟨R, 0, none⟩)) (by decide) (by decide) (by decide) (by decide) (by intro h; omega) (by intro h; omega) (by decide) (by decide) (by decide) (by decide) (by omega) (by simp [UsT])))
    · -- 3
      obtain ⟨odst, oop, oty, opos, oaft, ogd⟩ := o
      simp only [key, UsK, List.getElem?_cons_zero, List.getElem?_cons_succ, Option.some.injEq, Prod.mk.injEq] at hk
      obtain ⟨rfl, rfl, rfl⟩ := hk
      have p2_ : D 2 = true := hdp _ rfl 2 (by decide)
      have s6 : a.eval (.tmp 6) = .pointer (some ⟨R, 0, none⟩) := hI.sl (2, 6, .pointer (some ⟨R, 0, none⟩)) (by simp [UsT]) p2_
      refine wpOp_of ho rfl (op_run (n := .value (.pointer (some ⟨R, 11, none⟩))) (w' := wr) ?_ (hI.step 3 7 (.pointer (some ⟨R, 11, none⟩)) (by decide) (by decide) (by decide) (by decide) (by intro h; omega) (by intro h; omega) (by decide) (by decide) (by decide) (by decide) (by omega) (by simp [UsT])))
      generalize a.eval = ev at *
      unfold execOp
      simp [go_sem, s6]
    · -- 4
      obtain ⟨odst, oop, oty, opos, oaft, ogd⟩ := o
      simp only [key, UsK, List.getElem?_cons_zero, List.getElem?_cons_succ, Option.some.injEq, Prod.mk.injEq] at hk
      obtain ⟨rfl, rfl, rfl⟩ := hk
      have p3_ : D 3 = true := hdp _ rfl 3 (by decide)
      have s7 : a.eval (.tmp 7) = .pointer (some ⟨R, 11, none⟩) := hI.sl (3, 7, .pointer (some ⟨R, 11, none⟩)) (by simp [UsT]) p3_
      have hR := hI.rd (n23 (nb 4 hD (by decide) (by decide)))
      exact wpOp_of ho rfl (op_load1 rfl s7 (notAgg_uses _) (hR.tl_ (q := 2) rfl) (hI.step 4 8 (.slice ua un uc) (by decide) (by decide) (by decide) (by decide) (by intro h; omega) (by intro h; omega) (by decide) (by decide) (by decide) (by decide) (by omega) (by simp [UsT])))
    · -- 5
      obtain ⟨odst, oop, oty, opos, oaft, ogd⟩ := o
      simp only [key, UsK, List.getElem?_cons_zero, List.getElem?_cons_succ, Option.some.injEq, Prod.mk.injEq] at hk
      obtain ⟨rfl, rfl, rfl⟩ := hk
      exact wpOp_of ho rfl (op_move rfl ((hI.fr.eval (by omega)).trans h0) (hI.step 5 9 (.pointer (some ⟨R, 0, none⟩)) (by decide) (by decide) (by decide) (by decide) (by intro h; omega) (by intro h; omega) (by decide) (by decide) (by decide) (by decide) (by omega) (by simp [UsT])))
    · -- 6
      obtain ⟨odst, oop, oty, opos, oaft, ogd⟩ := o
      simp only [key, UsK, List.getElem?_cons_zero, List.getElem?_cons_succ, Option.some.injEq, Prod.mk.injEq] at hk
      obtain ⟨rfl, rfl, rfl⟩ := hk
      have p5_ : D 5 = true := hdp _ rfl 5 (by decide)
      have s9 : a.eval (.tmp 9) = .pointer (some ⟨R, 0, none⟩) := hI.sl (5, 9, .pointer (some ⟨R, 0, none⟩)) (by simp [UsT]) p5_
      exact wpOp_of ho rfl (op_nilCheck rfl s9 (hI.step 6 10 (.pointer (some ⟨R, 0, none⟩)) (by decide) (by decide) (by decide) (by decide) (by intro h; omega) (by intro h; omega) (by decide) (by decide) (by decide) (by decide) (by omega) (by simp [UsT])))
    · -- 7
      obtain ⟨odst, oop, oty, opos, oaft, ogd⟩ := o
      simp only [key, UsK, List.getElem?_cons_zero, List.getElem?_cons_succ, Option.some.injEq, Prod.mk.injEq] at hk
      obtain ⟨rfl, rfl, rfl⟩ := hk
      have p6_ : D 6 = true := hdp _ rfl 6 (by decide)
      have s10 : a.eval (.tmp 10) = .pointer (some ⟨R, 0, none⟩) := hI.sl (6, 10, .pointer (some ⟨R, 0, none⟩)) (by simp [UsT]) p6_
      refine wpOp_of ho rfl (op_run (n := .value (.pointer (some ⟨R, 10, none⟩))) (w' := wr) ?_ (hI.step 7 11 (.pointer (some ⟨R, 10, none⟩)) (by decide) (by decide) (by decide) (by decide) (by intro h; omega) (by intro h; omega) (by decide) (by decide) (by decide) (by decide) (by omega) (by simp [UsT])))
      generalize a.eval = ev at *
      unfold execOp
      simp [go_sem, s10]
    · -- 8
      obtain ⟨odst, oop, oty, opos, oaft, ogd⟩ := o
      simp only [key, UsK, List.getElem?_cons_zero, List.getElem?_cons_succ, Option.some.injEq, Prod.mk.injEq] at hk
      obtain ⟨rfl, rfl, rfl⟩ := hk
      have p7_ : D 7 = true := hdp _ rfl 7 (by decide)
      have s11 : a.eval (.tmp 11) = .pointer (some ⟨R, 10, none⟩) := hI.sl (7, 11, .pointer (some ⟨R, 10, none⟩)) (by simp [UsT]) p7_
      have hR := hI.rd (n23 (nb 8 hD (by decide) (by decide)))
      exact wpOp_of ho rfl (op_load1 rfl s11 (notAgg_funs _) (hR.tl_ (q := 1) rfl) (hI.step 8 12 (.slice fa fi fc) (by decide) (by decide) (by decide) (by decide) (by intro h; omega) (by intro h; omega) (by decide) (by decide) (by decide) (by decide) (by omega) (by simp [UsT])))
    · -- 9
      obtain ⟨odst, oop, oty, opos, oaft, ogd⟩ := o
      simp only [key, UsK, List.getElem?_cons_zero, List.getElem?_cons_succ, Option.some.injEq, Prod.mk.injEq] at hk
      obtain ⟨rfl, rfl, rfl⟩ := hk
      have p8_ : D 8 = true := hdp _ rfl 8 (by decide)
      have s12 : a.eval (.tmp 12) = .slice fa fi fc := hI.sl (8, 12, .slice fa fi fc) (by simp [UsT]) p8_
      refine wpOp_of ho rfl (op_run (n := .value (.int .i64 (fi : Nat))) (w' := wr) ?_ (hI.step 9 13 (.int .i64 (fi : Nat)) (by decide) (by decide) (by decide) (by decide) (by intro h; omega) (fun _ => p8_) (by decide) (by decide) (by decide) (by decide) (by omega) (by simp [UsT])))
      generalize a.eval = ev at *
      unfold execOp
      simp [go_sem, s12]
    · -- 10
      obtain ⟨odst, oop, oty, opos, oaft, ogd⟩ := o
      simp only [key, UsK, List.getElem?_cons_zero, List.getElem?_cons_succ, Option.some.injEq, Prod.mk.injEq] at hk
      obtain ⟨rfl, rfl, rfl⟩ := hk
      exact wpOp_of ho rfl (op_move rfl ((hI.fr.eval (by omega)).trans h1) (hI.step 10 14 (.int .i64 (at_ : Nat)) (by decide) (by decide) (by decide) (by decide) (by intro h; omega) (by intro h; omega) (by decide) (by decide) (by decide) (by decide) (by omega) (by simp [UsT])))
    · -- 11
      obtain ⟨odst, oop, oty, opos, oaft, ogd⟩ := o
      simp only [key, UsK, List.getElem?_cons_zero, List.getElem?_cons_succ, Option.some.injEq, Prod.mk.injEq] at hk
      obtain ⟨rfl, rfl, rfl⟩ := hk
      exact wpOp_of ho rfl (op_move rfl ((hI.fr.eval (by omega)).trans h0) (hI.step 11 15 (.pointer (some ⟨R, 0, none⟩)) (by decide) (by decide) (by decide) (by decide) (by intro h; omega) (by intro h; omega) (by decide) (by decide) (by decide) (by decide) (by omega) (by simp [UsT])))
    · -- 12
      obtain ⟨odst, oop, oty, opos, oaft, ogd⟩ := o
      simp only [key, UsK, List.getElem?_cons_zero, List.getElem?_cons_succ, Option.some.injEq, Prod.mk.injEq] at hk
      obtain ⟨rfl, rfl, rfl⟩ := hk
      have p11_ : D 11 = true := hdp _ rfl 11 (by decide)
      have s15 : a.eval (.tmp 15) = .pointer (some ⟨R, 0, none⟩) := hI.sl (11, 15, .pointer (some ⟨R, 0, none⟩)) (by simp [UsT]) p11_
      exact wpOp_of ho rfl (op_nilCheck rfl s15 (hI.step 12 16 (.pointer (some ⟨R, 0, none⟩)) (by decide) (by decide) (by decide) (by decide) (by intro h; omega) (by intro h; omega) (by decide) (by decide) (by decide) (by decide) (by omega) (by simp [UsT])))
    · -- 13
      obtain ⟨odst, oop, oty, opos, oaft, ogd⟩ := o
      simp only [key, UsK, List.getElem?_cons_zero, List.getElem?_cons_succ, Option.some.injEq, Prod.mk.injEq] at hk
      obtain ⟨rfl, rfl, rfl⟩ := hk
      have p12_ : D 12 = true := hdp _ rfl 12 (by decide)
      have s16 : a.eval (.tmp 16) = .pointer (some ⟨R, 0, none⟩) := hI.sl (12, 16, .pointer (some ⟨R, 0, none⟩)) (by simp [UsT]) p12_
      refine wpOp_of ho rfl (op_run (n := .value (.pointer (some ⟨R, 3, none⟩))) (w' := wr) ?_ (hI.step 13 17 (.pointer (some ⟨R, 3, none⟩)) (by decide) (by decide) (by decide) (by decide) (by intro h; omega) (by intro h; omega) (by decide) (by decide) (by decide) (by decide) (by omega) (by simp [UsT])))
      generalize a.eval = ev at *
      unfold execOp
      simp [go_sem, s16]
    · -- 14
      obtain ⟨odst, oop, oty, opos, oaft, ogd⟩ := o
      simp only [key, UsK, List.getElem?_cons_zero, List.getElem?_cons_succ, Option.some.injEq, Prod.mk.injEq] at hk
      obtain ⟨rfl, rfl, rfl⟩ := hk
      have p13_ : D 13 = true := hdp _ rfl 13 (by decide)
      have s17 : a.eval (.tmp 17) = .pointer (some ⟨R, 3, none⟩) := hI.sl (13, 17, .pointer (some ⟨R, 3, none⟩)) (by simp [UsT]) p13_
      refine wpOp_of ho rfl (op_run (n := .value (.pointer (some ⟨R, 5, none⟩))) (w' := wr) ?_ (hI.step 14 18 (.pointer (some ⟨R, 5, none⟩)) (by decide) (by decide) (by decide) (by decide) (by intro h; omega) (by intro h; omega) (by decide) (by decide) (by decide) (by decide) (by omega) (by simp [UsT])))
      generalize a.eval = ev at *
      unfold execOp
      simp [go_sem, s17]
    · -- 15
      obtain ⟨odst, oop, oty, opos, oaft, ogd⟩ := o
      simp only [key, UsK, List.getElem?_cons_zero, List.getElem?_cons_succ, Option.some.injEq, Prod.mk.injEq] at hk
      obtain ⟨rfl, rfl, rfl⟩ := hk
      have p14_ : D 14 = true := hdp _ rfl 14 (by decide)
      have s18 : a.eval (.tmp 18) = .pointer (some ⟨R, 5, none⟩) := hI.sl (14, 18, .pointer (some ⟨R, 5, none⟩)) (by simp [UsT]) p14_
      have hR := hI.rd (n23 (nb 15 hD (by decide) (by decide)))
      exact wpOp_of ho rfl (op_load1 rfl s18 (notAgg_int _) (hR.ln) (hI.step 15 19 (.int .i64 ((hd ts).ln : Nat)) (by decide) (by decide) (by decide) (by decide) (by intro h; omega) (by intro h; omega) (by decide) (by decide) (by decide) (by decide) (by omega) (by simp [UsT])))
    · -- 16
      obtain ⟨odst, oop, oty, opos, oaft, ogd⟩ := o
      simp only [key, UsK, List.getElem?_cons_zero, List.getElem?_cons_succ, Option.some.injEq, Prod.mk.injEq] at hk
      obtain ⟨rfl, rfl, rfl⟩ := hk
      exact wpOp_of ho rfl (op_move rfl ((hI.fr.eval (by omega)).trans h0) (hI.step 16 20 (.pointer (some ⟨R, 0, none⟩)) (by decide) (by decide) (by decide) (by decide) (by intro h; omega) (by intro h; omega) (by decide) (by decide) (by decide) (by decide) (by omega) (by simp [UsT])))
    · -- 17
      obtain ⟨odst, oop, oty, opos, oaft, ogd⟩ := o
      simp only [key, UsK, List.getElem?_cons_zero, List.getElem?_cons_succ, Option.some.injEq, Prod.mk.injEq] at hk
      obtain ⟨rfl, rfl, rfl⟩ := hk
      have p16_ : D 16 = true := hdp _ rfl 16 (by decide)
      have s20 : a.eval (.tmp 20) = .pointer (some ⟨R, 0, none⟩) := hI.sl (16, 20, .pointer (some ⟨R, 0, none⟩)) (by simp [UsT]) p16_
      have h20 := nb 17 hD (by decide) (by decide)
      have hR := hI.rd (n23 h20)
      refine wpOp_of ho rfl (op_run (n := .enter 85 #[.pointer (some ⟨R, 0, none⟩)]) (w' := wr) ?_ ?_)
      · have e1 : a.eval (.func 85) = .func (.func 85) #[] #[] := rfl
        generalize a.eval = ev at *
        unfold execOp
        simp [go_sem, s20, e1]
      · refine (name_any R s ts _ wr hR).mono ?_
        rintro e w1 ⟨hb, he⟩
        have hfw : Fr (fun k => k = R ∨ (Value.slice ua un uc).ownBlock = some k) w w1 := hI.ft.same (Fr.belowAll hb)
        cases hn : isN ts with
        | false =>
          rw [hn, if_neg (by simp)] at he
          subst he
          exact hF a w1 hI.fr.defers hn hfw
        | true =>
          rw [hn, if_pos rfl] at he
          obtain ⟨S, rfl, hS, hR2⟩ := he
          obtain rfl := str_of hS
          have h19 : upd D 17 19 = D 19 := upd_ne D (by decide)
          have u20 : upd D 17 20 = D 20 := upd_ne D (by decide)
          have u23 : upd D 17 23 = D 23 := upd_ne D (by decide)
          refine ⟨hI.fr.put (by omega) (by omega) _, hI.sl.put 17 21 _ (by omega) (by simp [UsT]), hfw, fun h => (by rw [u20, h20] at h; cases h), fun h => (by rw [u23, n23 h20] at h; cases h), fun h => upd_mono (hI.e18 (by rwa [h19] at h)), fun h => (by obtain ⟨x1, x2, x3⟩ := hI.b18 (by rwa [upd_ne D (by decide)] at h); exact ⟨upd_mono x1, upd_mono x2, upd_mono x3⟩), fun h => upd_mono (hI.b9 (by rwa [upd_ne D (by decide)] at h)), fun _ => hn, fun h => (by rw [u20, h20] at h; cases h), fun _ => hR2, fun _ => row_keep (hI.row h20) fun g hg hg2 => hb.block g hg2, ?_, fun h => (by rw [u20, h20] at h; cases h)⟩
          rw [h19, u20]
          intro h3 h4
          obtain ⟨g, g1, g2, g3⟩ := hI.bs h3 h4
          exact ⟨g, by rw [eval_put_ne (by decide)]; exact g1, (hb.block g (lt_of_heap g2)).trans g2, g3⟩
    · -- 18
      obtain ⟨odst, oop, oty, opos, oaft, ogd⟩ := o
      simp only [key, UsK, List.getElem?_cons_zero, List.getElem?_cons_succ, Option.some.injEq, Prod.mk.injEq] at hk
      obtain ⟨rfl, rfl, rfl⟩ := hk
      have p9_ : D 9 = true := hdp _ rfl 9 (by decide)
      have s13 : a.eval (.tmp 13) = .int .i64 (fi : Nat) := hI.sl (9, 13, .int .i64 (fi : Nat)) (by simp [UsT]) p9_
      have p10_ : D 10 = true := hdp _ rfl 10 (by decide)
      have s14 : a.eval (.tmp 14) = .int .i64 (at_ : Nat) := hI.sl (10, 14, .int .i64 (at_ : Nat)) (by simp [UsT]) p10_
      have p15_ : D 15 = true := hdp _ rfl 15 (by decide)
      have s19 : a.eval (.tmp 19) = .int .i64 ((hd ts).ln : Nat) := hI.sl (15, 19, .int .i64 ((hd ts).ln : Nat)) (by simp [UsT]) p15_
      have p17_ : D 17 = true := hdp _ rfl 17 (by decide)
      have s21 : a.eval (.tmp 21) = .string ⟨(hd ts).s.toArray⟩ := hI.sl (17, 21, .string ⟨(hd ts).s.toArray⟩) (by simp [UsT]) p17_
      refine wpOp_of ho rfl (op_run (n := .value (.agg #[.int .i64 (fi : Nat), .int .i64 (at_ : Nat), .int .i64 ((hd ts).ln : Nat), .string ⟨(hd ts).s.toArray⟩])) (w' := wr) ?_ (hI.step 18 22 (.agg #[.int .i64 (fi : Nat), .int .i64 (at_ : Nat), .int .i64 ((hd ts).ln : Nat), .string ⟨(hd ts).s.toArray⟩]) (by decide) (by decide) (by decide) (by decide) (fun _ => ⟨p9_, p15_, p17_⟩) (by intro h; omega) (by decide) (by decide) (by decide) (by decide) (by omega) (by simp [UsT])))
      generalize a.eval = ev at *
      unfold execOp
      simp [go_sem, s13, s14, s19, s21]
    · -- 19
      obtain ⟨odst, oop, oty, opos, oaft, ogd⟩ := o
      simp only [key, UsK, List.getElem?_cons_zero, List.getElem?_cons_succ, Option.some.injEq, Prod.mk.injEq] at hk
      obtain ⟨rfl, rfl, rfl⟩ := hk
      have p18_ : D 18 = true := hdp _ rfl 18 (by decide)
      have s22 : a.eval (.tmp 22) = .agg #[.int .i64 (fi : Nat), .int .i64 (at_ : Nat), .int .i64 ((hd ts).ln : Nat), .string ⟨(hd ts).s.toArray⟩] := hI.sl (18, 22, .agg #[.int .i64 (fi : Nat), .int .i64 (at_ : Nat), .int .i64 ((hd ts).ln : Nat), .string ⟨(hd ts).s.toArray⟩]) (by simp [UsT]) p18_
      have h20 : D 20 = false := by
        cases h : D 20 with
        | false => rfl
        | true => rw [hI.e19 h] at hD; cases hD
      have hR := hI.rd (n23 h20)
      have hb := below_new wr (.cells #[.int .i64 (fi : Nat), .int .i64 (at_ : Nat), .int .i64 ((hd ts).ln : Nat), .string ⟨(hd ts).s.toArray⟩] 152)
      refine wpOp_of ho rfl (op_run (n := .value (.slice (some ⟨wr.heap.size, 0, none⟩) 1 1)) (w' := wr.alloc (.cells #[.int .i64 (fi : Nat), .int .i64 (at_ : Nat), .int .i64 ((hd ts).ln : Nat), .string ⟨(hd ts).s.toArray⟩] 152)) ?_ ?_)
      · generalize a.eval = ev at *
        unfold execOp
        simp [go_sem, s22]
      · have u20 : upd D 19 20 = D 20 := upd_ne D (by decide)
        have u23 : upd D 19 23 = D 23 := upd_ne D (by decide)
        refine ⟨hI.fr.put (by omega) (by omega) _, hI.sl.put 19 23 _ (by omega) (by simp [UsT]), hI.ft.same (Fr.alloc _), fun _ => upd_same D 19, fun h => (by rw [u23, n23 h20] at h; cases h), fun _ => upd_mono p18_, fun h => (by obtain ⟨x1, x2, x3⟩ := hI.b18 p18_; exact ⟨upd_mono x1, upd_mono x2, upd_mono x3⟩), fun h => upd_mono (hI.b9 (by rwa [upd_ne D (by decide)] at h)), fun h => hI.isn (by rwa [upd_ne D (by decide)] at h), fun h => (by rw [u20, h20] at h; cases h), fun _ => hR.belowAll hb, fun _ => row_keep (hI.row h20) fun g hg hg2 => hb.block g hg2, fun _ _ => ?_, fun h => (by rw [u20, h20] at h; cases h)⟩
        exact ⟨wr.heap.size, eval_put_same (by omega) _, heap_alloc_new _ _, by omega⟩
    · -- 20
      obtain ⟨odst, oop, oty, opos, oaft, ogd⟩ := o
      simp only [key, UsK, List.getElem?_cons_zero, List.getElem?_cons_succ, Option.some.injEq, Prod.mk.injEq] at hk
      obtain ⟨rfl, rfl, rfl⟩ := hk
      have p4_ : D 4 = true := hdp _ rfl 4 (by decide)
      have s8 : a.eval (.tmp 8) = .slice ua un uc := hI.sl (4, 8, .slice ua un uc) (by simp [UsT]) p4_
      have p19_ : D 19 = true := hdp _ rfl 19 (by decide)
      have h23 := n23 hD
      have hR := hI.rd h23
      obtain ⟨g, g1, g2, g3⟩ := hI.bs p19_ hD
      have hrw := hI.row hD
      obtain ⟨i0, hi0, hz0, hz1, hz2⟩ := info_partsS use_info
      refine wpOp_of ho rfl ?_
      refine wp_append_lies wr (.tmp 8) (.tmp 23) 122 rfl lo 152 i0 _ 4 40 Tryz.underlying122 hi0 hz0 hz1 hz2 rfl (by decide) (.slice ua un uc) un xs s8 hrw ⟨g, 0, none⟩ 1 1 [.int .i64 (fi : Nat), .int .i64 (at_ : Nat), .int .i64 ((hd ts).ln : Nat), .string ⟨(hd ts).s.toArray⟩] g1 rfl (fun j u hj => ?_) (by intro u hu; simp at hu; rcases hu with rfl | rfl | rfl | rfl <;> rfl) (by omega) (by unfold maxLen; omega) (by omega) (by omega) _ rfl ?_
      · have := Blk.c (t := 152) (cs := [.int .i64 (fi : Nat), .int .i64 (at_ : Nat), .int .i64 ((hd ts).ln : Nat), .string ⟨(hd ts).s.toArray⟩]) g2 j hj
        unfold Addr.add
        by_cases h : j = 0
        · subst h
          simpa using this
        · simpa [h] using this
      · intro g' cap w' k1 k2 k3 k4
        have u19 : upd D 20 19 = D 19 := upd_ne D (by decide)
        have u23 : upd D 20 23 = D 23 := upd_ne D (by decide)
        have hRo : some R ≠ (Value.slice ua un uc).ownBlock := fun e => by have := row_base hrw R e.symm; omega
        have hR2 : Rdr w' R s ts [vN, .slice fa fi fc, .slice ua un uc, vD, vV] := hR.fr (S := fun k => (Value.slice ua un uc).ownBlock = some k) (Fr.grown k2 fun q hq => .inl hq) fun e => hRo e.symm
        refine ⟨hI.fr.put (by omega) (by omega) _, hI.sl.put 20 24 _ (by omega) (by simp [UsT]), hI.ft.same (Fr.grown k2 fun q hq => .inl (.inr hq)), fun _ => by rw [u19]; exact p19_, fun _ => upd_same D 20, fun h => upd_mono (hI.e18 (by rwa [u19] at h)), fun h => (by obtain ⟨x1, x2, x3⟩ := hI.b18 (by rwa [upd_ne D (by decide)] at h); exact ⟨upd_mono x1, upd_mono x2, upd_mono x3⟩), fun h => upd_mono (hI.b9 (by rwa [upd_ne D (by decide)] at h)), fun h => hI.isn (by rwa [upd_ne D (by decide)] at h), fun _ i hi hi2 => upd_mono ?_, fun _ => hR2, fun h => (by rw [upd_same] at h; cases h), fun _ h => (by rw [upd_same] at h; cases h), fun _ => ?_⟩
        · obtain ⟨x1, x2, x3⟩ := hI.b18 (hI.e18 p19_)
          have x4 := hI.b9 x1
          rcases hi2 with rfl | rfl | rfl | rfl
          · exact p4_
          · exact x4
          · exact x2
          · exact x3
        · refine ⟨g', cap, eval_put_same (by omega) _, k1, ?_, fun h => (by rw [u23, h23] at h; cases h)⟩
          rcases k3 with k3 | k3
          · exact .inl k3
          · exact .inr (by omega)
    · -- 21
      obtain ⟨odst, oop, oty, opos, oaft, ogd⟩ := o
      simp only [key, UsK, List.getElem?_cons_zero, List.getElem?_cons_succ, Option.some.injEq, Prod.mk.injEq] at hk
      obtain ⟨rfl, rfl, rfl⟩ := hk
      have p0_ : D 0 = true := hdp _ rfl 0 (by decide)
      have s4 : a.eval (.tmp 4) = .pointer (some ⟨R, 0, none⟩) := hI.sl (0, 4, .pointer (some ⟨R, 0, none⟩)) (by simp [UsT]) p0_
      exact wpOp_of ho rfl (op_nilCheck rfl s4 (hI.step 21 25 (.pointer (some ⟨R, 0, none⟩)) (by decide) (by decide) (by decide) (by decide) (by intro h; omega) (by intro h; omega) (by decide) (by decide) (by decide) (by decide) (by omega) (by simp [UsT])))
    · -- 22
      obtain ⟨odst, oop, oty, opos, oaft, ogd⟩ := o
      simp only [key, UsK, List.getElem?_cons_zero, List.getElem?_cons_succ, Option.some.injEq, Prod.mk.injEq] at hk
      obtain ⟨rfl, rfl, rfl⟩ := hk
      have p21_ : D 21 = true := hdp _ rfl 21 (by decide)
      have s25 : a.eval (.tmp 25) = .pointer (some ⟨R, 0, none⟩) := hI.sl (21, 25, .pointer (some ⟨R, 0, none⟩)) (by simp [UsT]) p21_
      refine wpOp_of ho rfl (op_run (n := .value (.pointer (some ⟨R, 11, none⟩))) (w' := wr) ?_ (hI.step 22 26 (.pointer (some ⟨R, 11, none⟩)) (by decide) (by decide) (by decide) (by decide) (by intro h; omega) (by intro h; omega) (by decide) (by decide) (by decide) (by decide) (by omega) (by simp [UsT])))
      generalize a.eval = ev at *
      unfold execOp
      simp [go_sem, s25]
    · -- 23
      obtain ⟨odst, oop, oty, opos, oaft, ogd⟩ := o
      simp only [key, UsK, List.getElem?_cons_zero, List.getElem?_cons_succ, Option.some.injEq, Prod.mk.injEq] at hk
      obtain ⟨rfl, rfl, rfl⟩ := hk
      have p22_ : D 22 = true := hdp _ rfl 22 (by decide)
      have s26 : a.eval (.tmp 26) = .pointer (some ⟨R, 11, none⟩) := hI.sl (22, 26, .pointer (some ⟨R, 11, none⟩)) (by simp [UsT]) p22_
      have p20_ : D 20 = true := hdp _ rfl 20 (by decide)
      obtain ⟨g, cap, g1, g2, g3, -⟩ := hI.ap p20_
      have hR := hI.rd hD
      have c2 := hR.tl_ (q := 2) rfl
      have f2 := hR.fz 11
      refine wpOp_of ho rfl (op_run (n := .skip) (w' := wr.setCell ⟨R, 11, none⟩ (.slice (some ⟨g, 0, none⟩) (un + 1) cap)) ?_ ?_)
      · generalize a.eval = ev at *
        unfold execOp
        simp [go_sem, s26, g1, c2, f2]
      · have u19 : upd D 23 19 = D 19 := upd_ne D (by decide)
        have u20 : upd D 23 20 = D 20 := upd_ne D (by decide)
        refine ⟨hI.fr, hI.sl.done 23 (by simp [UsT]), hI.ft.same (Fr.set (.inl (.inl rfl))), by rw [u20, u19]; exact hI.e19, fun _ => by rw [u20]; exact p20_, fun h => upd_mono (hI.e18 (by rwa [u19] at h)), fun h => (by obtain ⟨x1, x2, x3⟩ := hI.b18 (by rwa [upd_ne D (by decide)] at h); exact ⟨upd_mono x1, upd_mono x2, upd_mono x3⟩), fun h => upd_mono (hI.b9 (by rwa [upd_ne D (by decide)] at h)), fun h => hI.isn (by rwa [upd_ne D (by decide)] at h), fun _ i hi hi2 => upd_mono (hI.b20 p20_ i hi hi2), fun h => (by rw [upd_same] at h; cases h), fun h => (by rw [u20, p20_] at h; cases h), fun _ h => (by rw [u20, p20_] at h; cases h), fun _ => ?_⟩
        refine ⟨g, cap, g1, ?_, g3, fun _ => hR.setT 2 _⟩
        exact row_keep g2 fun q hq _ => Below.heap_setCell _ _ _ _ (by have := row_base g2 q hq; dsimp only; omega)
  · intro D a W hI hall
    obtain ⟨g, cap, g1, g2, g3, g4⟩ := hI.ap (hall 20 (by rw [hsh.size]; decide))
    exact hQ a W g cap hI.fr (hI.isn (hall 17 (by rw [hsh.size]; decide))) hI.ft g2 g3 (g4 (hall 23 (by rw [hsh.size]; decide)))
end Go.Proofs.YtjendlnicbieoaaGreatDoor
/-
  Package source's reader: use.
-/
namespace Go.Proofs.YtjendlnicbieoaaGreatDoor
open Go.RowKit Go.Sort

theorem us_shape : Shape (ropsS Tryz.f120 0) UsK UsD := ⟨by kernel_rfl, by kernel_rfl⟩
theorem list23 {us : List Value} (h : us.length = 23) : ∃ u0 u1 u2 u3 u4 u5 u6 u7 u8 u9 u10 u11 u12 u13 u14 u15 u16 u17 u18 u19 u20 u21 u22, us = [u0, u1, u2, u3, u4, u5, u6, u7, u8, u9, u10, u11, u12, u13, u14, u15, u16, u17, u18, u19, u20, u21, u22] := by
  match us, h with
  | [u0, u1, u2, u3, u4, u5, u6, u7, u8, u9, u10, u11, u12, u13, u14, u15, u16, u17, u18, u19, u20, u21, u22], _ => exact ⟨u0, u1, u2, u3, u4, u5, u6, u7, u8, u9, u10, u11, u12, u13, u14, u15, u16, u17, u18, u19, u20, u21, u22, rfl⟩
/-- The cells of a place at which a function is named. -/
def usC (u : Us) : List Value := [.int .i64 (u.fn : Nat), .int .i64 (u.nd : Nat), .int .i64 (u.ln : Nat), .string ⟨u.nm.toArray⟩]
/-- What use leaves: the place appended, the name passed by. -/
def UseE (lo R : Nat) (s : ByteArray) (ts : List Tk) (vN : Value) (fa : Option Addr) (fi fc : Nat) (vU : Value) (un : Nat) (xs : List Value) (vD vV : Value) (at_ : Nat) (w : World) (e : Ending) (w' : World) : Prop :=
  Fr (fun k => k = R ∨ vU.ownBlock = some k) w w' ∧ if isN ts = true then e = .returned (.tuple #[]) ∧ EnvP w' ∧ ∃ g cap, w'.ownsRow lo 152 4 (.slice (some ⟨g, 0, none⟩) (un + 1) cap) (un + 1) (xs ++ usC ⟨fi, at_, (hd ts).ln, (hd ts).s⟩) ∧ (vU.ownBlock = some g ∨ w.heap.size ≤ g) ∧
    Rdr w' R s (mv ts) [vN, .slice fa fi fc, .slice (some ⟨g, 0, none⟩) (un + 1) cap, vD, vV] else e = WrongS (hd ts).ln
set_option maxRecDepth 100000 in
set_option maxHeartbeats 2000000 in
theorem use_any (lo R : Nat) (s : ByteArray) (ts : List Tk) (vN : Value) (fa : Option Addr) (fi fc : Nat) (ua : Option Addr) (un uc : Nat) (xs : List Value) (vD vV : Value) (at_ : Nat) (w : World)
    (hrd : Rdr w R s ts [vN, .slice fa fi fc, .slice ua un uc, vD, vV]) (hrow : w.ownsRow lo 152 4 (.slice ua un uc) un xs) (hun : un ≤ 100000) (hRl : R < lo) (hlo : lo ≤ w.heap.size) (hs : s.size ≤ 4000000) (hE : EnvP w) (h3 : 3 < R) :
    Calls Tryz.prog 120 #[.pointer (some ⟨R, 0, none⟩), .int .i64 (at_ : Nat)] w (UseE lo R s ts vN fa fi fc (.slice ua un uc) un xs vD vV at_ w) := by
  have hub := row_base hrow
  go_enter Tryz.func120, Tryz.ntmps120
  go_upto_region 0 with fail
  refine use_region (at_ := at_) (lo := lo) (s := s) (ts := ts) (vN := vN) (fa := fa) (fi := fi) (fc := fc) (ua := ua) (un := un) (uc := uc) (xs := xs) (vD := vD) (vV := vV) (R := R) us_shape (by simp) rfl rfl hrd hrow hun hRl hlo ?_ ?_
  · intro a W g cap hU hn hf hrw hgg hR2
    obtain ⟨us, hus, rfl⟩ := hU.list (by simp)
    have hE2 : EnvP W := hE.fr hf fun h => by
      rcases h with h | h
      · omega
      · have := hub _ h; omega
    have hM := move_any R s ts _ W hR2 hs hE2 (by omega)
    obtain ⟨u0, u1, u2, u3, u4, u5, u6, u7, u8, u9, u10, u11, u12, u13, u14, u15, u16, u17, u18, u19, u20, u21, u22, rfl⟩ := list23 hus
    have HN := Lib.hid hn
    have HF := Lib.hid hf
    have HR := Lib.hid hrw
    have HG := Lib.hid hgg
    clear hus hU hn hf hrw hgg hE2 hR2
    simp only [List.take_succ_cons, List.take_zero, List.drop_succ_cons, List.drop_zero, List.cons_append, List.nil_append]
    go_wp2_with (go_at_call 59; refine hM.mono ?_; rintro e w3 ⟨rfl, hf3, hE3, hR3⟩)
    go_end0
    have hlt := hR3.lt
    refine ⟨HF.out.same (hf3.more fun k hk h => .inl h), ?_⟩
    rw [if_pos HN.out]
    refine ⟨rfl, hE3, g, cap, ?_, HG.out, hR3⟩
    exact row_keep HR.out fun q hq hq2 => hf3.block q hq2 (by have := row_base HR.out q hq; omega)
  · intro a W hd hn hf
    refine ⟨hd, hf, ?_⟩
    rw [if_neg (by rw [hn]; simp)]
    rfl
end Go.Proofs.YtjendlnicbieoaaGreatDoor
/-
  Package source's reader: keyword: the statement 'n.L = append(n.L, r.expression())', in whatever order: by an invariant. Printed by gen_kw.py.
-/
namespace Go.Proofs.YtjendlnicbieoaaGreatDoor
open Go.RowKit Go.Sort

def KwK (d : Nat) : List Key := [(some d, .fieldAddr 59 (.tmp 7) 2, none),
    (some (d + 1), .load 57 (.tmp d), none),
    (some (d + 2), .move (.tmp 0), none),
    (some (d + 3), .call { callee := .value (.func 89), args := #[.tmp (d + 2)], argTypes := #[121] }, none),
    (some (d + 4), .buildSlice 57 1 #[(0, .tmp (d + 3))], none),
    (some (d + 5), .call { callee := .builtin .append, args := #[.tmp (d + 1), .tmp (d + 4)], argTypes := #[57, 57] }, none),
    (some (d + 6), .fieldAddr 59 (.tmp 7) 2, none),
    (none, .store 57 (.tmp (d + 6)) (.tmp (d + 5)), none)]
def KwD : List (List Nat) := [[], [0], [], [2], [3], [1, 4, 3], [0, 1, 2, 3, 4, 5], [6, 5, 5, 0, 1, 2, 3, 4, 5]]
def KwT (d R nb : Nat) (la : Option Addr) (ln lc : Nat) : List (Nat × Nat × Value) := [(0, d, .pointer (some ⟨nb, 2, none⟩)), (1, d + 1, .slice la ln lc), (2, d + 2, .pointer (some ⟨R, 0, none⟩)), (6, d + 6, .pointer (some ⟨nb, 2, none⟩))]
/-- What stands after some of the operations. -/
structure KwI (a0 : Act) (d lo R nb : Nat) (S : Nat → Prop) (la : Option Addr) (ln lc : Nat) (xs : List Value) (c0 c1 : Value) (Pr : Nat → World → Prop) (w : World) (D : Nat → Bool) (a : Act) (W : World) : Prop where
  fr : Upd a0 a d 7
  sl : Slots (KwT d R nb la ln lc) D a
  e4 : D 4 = true → D 3 = true
  e5 : D 5 = true → D 4 = true
  e7 : D 7 = true → D 5 = true
  b5 : D 5 = true → D 1 = true
  s0 : D 3 = false → W = w.drew
  s1 : D 3 = true → ∃ (k : Nat) (W3 : World), Pr k W3 ∧ Fr S w W3 ∧ a.eval (.tmp (d + 3)) = .int .i64 (k : Nat) ∧ (D 4 = false → W = W3) ∧
    (D 4 = true → D 5 = false → ∃ g, a.eval (.tmp (d + 4)) = .slice (some ⟨g, 0, none⟩) 1 1 ∧ W.heap[g]? = some (.cells #[.int .i64 (k : Nat)] 3 (0, 0)) ∧ Fr (fun _ => False) W3 W) ∧
    (D 5 = true → ∃ g cap, a.eval (.tmp (d + 5)) = .slice (some ⟨g, 0, none⟩) (ln + 1) cap ∧ W.ownsRow lo 3 1 (.slice (some ⟨g, 0, none⟩) (ln + 1) cap) (ln + 1) (xs ++ [.int .i64 (k : Nat)]) ∧ ((Value.slice la ln lc).ownBlock = some g ∨ W3.heap.size ≤ g) ∧
      (D 7 = false → Fr (fun q => (Value.slice la ln lc).ownBlock = some q) W3 W) ∧ (D 7 = true → Fr (fun q => q = nb ∨ (Value.slice la ln lc).ownBlock = some q) W3 W ∧ Blk W nb 59 [c0, c1, .slice (some ⟨g, 0, none⟩) (ln + 1) cap]))
section
variable {a0 a : Act} {d lo R nb : Nat} {S : Nat → Prop} {la : Option Addr} {ln lc : Nat} {xs : List Value} {c0 c1 : Value} {Pr : Nat → World → Prop} {w W : World} {D : Nat → Bool}
theorem KwI.step (h : KwI a0 d lo R nb S la ln lc xs c0 c1 Pr w D a W) (q t : Nat) (v : Value) (h3 : q ≠ 3) (h4 : q ≠ 4) (h5 : q ≠ 5) (h7 : q ≠ 7) (h1 : d ≤ t) (h2 : t < d + 7) (ht : t ≠ d + 3) (ht2 : t ≠ d + 4) (ht3 : t ≠ d + 5) (hs : t < a.tmps.size) (hT : ∀ x ∈ KwT d R nb la ln lc, (x.1 = q → x.2.1 = t ∧ x.2.2 = v) ∧ (x.1 ≠ q → x.2.1 ≠ t)) : KwI a0 d lo R nb S la ln lc xs c0 c1 Pr w (upd D q) (a.put (some t) v) W := by
  have u3 : upd D q 3 = D 3 := upd_ne D (Ne.symm h3)
  have u4 : upd D q 4 = D 4 := upd_ne D (Ne.symm h4)
  have u5 : upd D q 5 = D 5 := upd_ne D (Ne.symm h5)
  have u7 : upd D q 7 = D 7 := upd_ne D (Ne.symm h7)
  refine ⟨h.fr.put h1 h2 v, h.sl.put q t v hs hT, by rw [u4, u3]; exact h.e4, by rw [u5, u4]; exact h.e5, by rw [u7, u5]; exact h.e7, fun h9 => upd_mono (h.b5 (by rwa [u5] at h9)), by rw [u3]; exact h.s0, ?_⟩
  rw [u3, u4, u5, u7, eval_put_ne (Ne.symm ht), eval_put_ne (Ne.symm ht2), eval_put_ne (Ne.symm ht3)]
  exact h.s1
end
set_option maxRecDepth 100000 in
set_option maxHeartbeats 4000000 in
theorem kw_region {ops : Array Oper} {Q : Exit → Act → World → Prop} {a0 : Act} {id d lo R nb : Nat} {S : Nat → Prop} {la : Option Addr} {ln lc : Nat} {xs : List Value} {c0 c1 : Value} {Pr : Nat → World → Prop} {Pn : List PanicEntry → World → Prop} {w : World} (hsh : Shape ops (KwK d) KwD) (hd8 : 8 ≤ d) (hsz : d + 7 ≤ a0.tmps.size) (h0 : a0.eval (.tmp 0) = .pointer (some ⟨R, 0, none⟩)) (h7 : a0.eval (.tmp 7) = .pointer (some ⟨nb, 0, none⟩))
    (hb : Blk w nb 59 [c0, c1, .slice la ln lc]) (hrow : w.ownsRow lo 3 1 (.slice la ln lc) ln xs) (hln : ln ≤ 1000) (hlo : lo ≤ w.heap.size) (hS : ¬ S nb) (hS2 : ∀ q, (Value.slice la ln lc).ownBlock = some q → ¬ S q) (hnl : nb < lo)
    (hC : Calls Tryz.prog 89 #[.pointer (some ⟨R, 0, none⟩)] w.drew fun e W' => (∃ ch, e = .panicked ch ∧ Pn ch W') ∨ (∃ k : Nat, e = .returned (.int .i64 (k : Nat)) ∧ Pr k W' ∧ Fr S w W'))
    (hQ : ∀ a W (k : Nat) W3 g cap, Upd a0 a d 7 → Pr k W3 → Fr S w W3 → Fr (fun q => q = nb ∨ (Value.slice la ln lc).ownBlock = some q) W3 W → Blk W nb 59 [c0, c1, .slice (some ⟨g, 0, none⟩) (ln + 1) cap] → W.ownsRow lo 3 1 (.slice (some ⟨g, 0, none⟩) (ln + 1) cap) (ln + 1) (xs ++ [.int .i64 (k : Nat)]) → ((Value.slice la ln lc).ownBlock = some g ∨ W3.heap.size ≤ g) → Q .normal a W)
    (hF : ∀ a W ch, a.defers = a0.defers → Pn ch W → Q (.panic ch) a W) : (Code.region id ops true).wp Tryz.prog Q a0 w := by
  refine wp_region_inv (by kernel_rfl) (hsh.edged (by decide)) (KwI a0 d lo R nb S la ln lc xs c0 c1 Pr w) ?_ ?_ ?_
  · exact ⟨Upd.refl _ _ _, fun x _ h => by simp at h, fun h => by simp at h, fun h => by simp at h, fun h => by simp at h, fun h => by simp at h, fun _ => rfl, fun h => by simp at h⟩
  · rintro D a wr j o hI ho hD hdep
    have hk := hsh.key_at ho
    have hasz : a.tmps.size = a0.tmps.size := hI.fr.size
    have hj : j < 8 := by
      rcases Nat.lt_or_ge j 8 with hlt | hge
      · exact hlt
      · rw [List.getElem?_eq_none (by simpa [KwK] using hge)] at hk; cases hk
    have hdp := fun es => hsh.dep_at ho hdep (es := es)
    clear hdep
    have hcases : j = 0 ∨ j = 1 ∨ j = 2 ∨ j = 3 ∨ j = 4 ∨ j = 5 ∨ j = 6 ∨ j = 7 := by omega
    rcases hcases with rfl | rfl | rfl | rfl | rfl | rfl | rfl | rfl
    · -- 0
      obtain ⟨odst, oop, oty, opos, oaft, ogd⟩ := o
      simp only [key, KwK, List.getElem?_cons_zero, Option.some.injEq, Prod.mk.injEq] at hk
      obtain ⟨rfl, rfl, rfl⟩ := hk
      have e7 := (hI.fr.eval (t := 7) (by omega)).trans h7
      refine wpOp_of ho rfl (op_run (n := .value (.pointer (some ⟨nb, 2, none⟩))) (w' := wr) ?_ (hI.step 0 (d) (.pointer (some ⟨nb, 2, none⟩)) (by decide) (by decide) (by decide) (by decide) (by omega) (by omega) (by omega) (by omega) (by omega) (by omega) (by simp [KwT])))
      generalize a.eval = ev at *
      unfold execOp
      simp [go_sem, e7]
    · -- 1
      obtain ⟨odst, oop, oty, opos, oaft, ogd⟩ := o
      simp only [key, KwK, List.getElem?_cons_zero, List.getElem?_cons_succ, Option.some.injEq, Prod.mk.injEq] at hk
      obtain ⟨rfl, rfl, rfl⟩ := hk
      have p0_ : D 0 = true := hdp _ rfl 0 (by decide)
      have v0 : a.eval (.tmp (d)) = .pointer (some ⟨nb, 2, none⟩) := hI.sl (0, d, .pointer (some ⟨nb, 2, none⟩)) (by simp [KwT]) p0_
      have h5 : D 5 = false := by
        cases h : D 5 with
        | false => rfl
        | true => rw [hI.b5 h] at hD; cases hD
      have hc : wr.cell? ⟨nb, 2, none⟩ = some (.slice la ln lc) := by
        cases h3 : D 3 with
        | false => rw [hI.s0 h3]; exact hb.c 2 rfl
        | true =>
          obtain ⟨k, W3, g1, g2, g3, g4, g5, g6⟩ := hI.s1 h3
          have hb3 := hb.fr g2 hS
          cases h4 : D 4 with
          | false => rw [g4 h4]; exact hb3.c 2 rfl
          | true =>
            obtain ⟨g, -, -, q3⟩ := g5 h4 h5
            exact (hb3.fr q3 (fun h => h)).c 2 rfl
      exact wpOp_of ho rfl (op_load1 rfl v0 (by kernel_rfl) hc (hI.step 1 (d + 1) (.slice la ln lc) (by decide) (by decide) (by decide) (by decide) (by omega) (by omega) (by omega) (by omega) (by omega) (by omega) (by simp [KwT])))
    · -- 2
      obtain ⟨odst, oop, oty, opos, oaft, ogd⟩ := o
      simp only [key, KwK, List.getElem?_cons_zero, List.getElem?_cons_succ, Option.some.injEq, Prod.mk.injEq] at hk
      obtain ⟨rfl, rfl, rfl⟩ := hk
      exact wpOp_of ho rfl (op_move rfl ((hI.fr.eval (by omega)).trans h0) (hI.step 2 (d + 2) (.pointer (some ⟨R, 0, none⟩)) (by decide) (by decide) (by decide) (by decide) (by omega) (by omega) (by omega) (by omega) (by omega) (by omega) (by simp [KwT])))
    · -- 3
      obtain ⟨odst, oop, oty, opos, oaft, ogd⟩ := o
      simp only [key, KwK, List.getElem?_cons_zero, List.getElem?_cons_succ, Option.some.injEq, Prod.mk.injEq] at hk
      obtain ⟨rfl, rfl, rfl⟩ := hk
      have p2_ : D 2 = true := hdp _ rfl 2 (by decide)
      have v2 : a.eval (.tmp (d + 2)) = .pointer (some ⟨R, 0, none⟩) := hI.sl (2, d + 2, .pointer (some ⟨R, 0, none⟩)) (by simp [KwT]) p2_
      have h4 : D 4 = false := by
        cases h : D 4 with
        | false => rfl
        | true => rw [hI.e4 h] at hD; cases hD
      have h5 : D 5 = false := by
        cases h : D 5 with
        | false => rfl
        | true => rw [hI.e5 h] at h4; cases h4
      have h7 : D 7 = false := by
        cases h : D 7 with
        | false => rfl
        | true => rw [hI.e7 h] at h5; cases h5
      obtain rfl := hI.s0 hD
      refine wpOp_of ho rfl (op_run (n := .enter 89 #[.pointer (some ⟨R, 0, none⟩)]) (w' := w.drew) ?_ ?_)
      · have e1 : a.eval (.func 89) = .func (.func 89) #[] #[] := rfl
        generalize a.eval = ev at *
        unfold execOp
        simp [go_sem, v2, e1]
      · refine hC.mono ?_
        rintro e w1 (⟨ch, rfl, hp⟩ | ⟨k, rfl, hp, hf⟩)
        · exact hF a w1 ch hI.fr.defers hp
        · have u4 : upd D 3 4 = D 4 := upd_ne D (by decide)
          have u5 : upd D 3 5 = D 5 := upd_ne D (by decide)
          have u7 : upd D 3 7 = D 7 := upd_ne D (by decide)
          refine ⟨hI.fr.put (by omega) (by omega) _, hI.sl.put 3 (d + 3) _ (by omega) (by simp [KwT]), fun _ => upd_same D 3, fun h => (by rw [u5, h5] at h; cases h), fun h => (by rw [u7, h7] at h; cases h), fun h => (by rw [u5, h5] at h; cases h), fun h => (by rw [upd_same] at h; cases h), fun _ => ?_⟩
          exact ⟨k, w1, hp, hf, eval_put_same (by omega) _, fun _ => rfl, fun h => (by rw [u4, h4] at h; cases h), fun h => (by rw [u5, h5] at h; cases h)⟩
    · -- 4
      obtain ⟨odst, oop, oty, opos, oaft, ogd⟩ := o
      simp only [key, KwK, List.getElem?_cons_zero, List.getElem?_cons_succ, Option.some.injEq, Prod.mk.injEq] at hk
      obtain ⟨rfl, rfl, rfl⟩ := hk
      have p3_ : D 3 = true := hdp _ rfl 3 (by decide)
      have h5 : D 5 = false := by
        cases h : D 5 with
        | false => rfl
        | true => rw [hI.e5 h] at hD; cases hD
      have h7 : D 7 = false := by
        cases h : D 7 with
        | false => rfl
        | true => rw [hI.e7 h] at h5; cases h5
      obtain ⟨k, W3, g1, g2, g3, g4, g5, g6⟩ := hI.s1 p3_
      obtain rfl := g4 hD
      have g3' := g3
      refine wpOp_of ho rfl (op_run (n := .value (.slice (some ⟨wr.heap.size, 0, none⟩) 1 1)) (w' := wr.alloc (.cells #[.int .i64 (k : Nat)] 3)) ?_ ?_)
      · generalize a.eval = ev at *
        unfold execOp
        simp [go_sem, g3]
      · have u3 : upd D 4 3 = D 3 := upd_ne D (by decide)
        have u5 : upd D 4 5 = D 5 := upd_ne D (by decide)
        have u7 : upd D 4 7 = D 7 := upd_ne D (by decide)
        refine ⟨hI.fr.put (by omega) (by omega) _, hI.sl.put 4 (d + 4) _ (by omega) (by simp [KwT]), fun _ => by rw [u3]; exact p3_, fun h => (by rw [u5, h5] at h; cases h), fun h => (by rw [u7, h7] at h; cases h), fun h => (by rw [u5, h5] at h; cases h), fun h => (by rw [u3, p3_] at h; cases h), fun _ => ?_⟩
        exact ⟨k, wr, g1, g2, by rw [eval_put_ne (by omega)]; exact g3', fun h => (by rw [upd_same] at h; cases h), fun _ _ => ⟨wr.heap.size, eval_put_same (by omega) _, heap_alloc_new _ _, Fr.alloc _⟩, fun h => (by rw [u5, h5] at h; cases h)⟩
    · -- 5
      obtain ⟨odst, oop, oty, opos, oaft, ogd⟩ := o
      simp only [key, KwK, List.getElem?_cons_zero, List.getElem?_cons_succ, Option.some.injEq, Prod.mk.injEq] at hk
      obtain ⟨rfl, rfl, rfl⟩ := hk
      have p1_ : D 1 = true := hdp _ rfl 1 (by decide)
      have v1 : a.eval (.tmp (d + 1)) = .slice la ln lc := hI.sl (1, d + 1, .slice la ln lc) (by simp [KwT]) p1_
      have p4_ : D 4 = true := hdp _ rfl 4 (by decide)
      have p3_ : D 3 = true := hdp _ rfl 3 (by decide)
      have h7 : D 7 = false := by
        cases h : D 7 with
        | false => rfl
        | true => rw [hI.e7 h] at hD; cases hD
      obtain ⟨k, W3, g1, g2, g3, g4, g5, g6⟩ := hI.s1 p3_
      obtain ⟨g, q1, q2, q3⟩ := g5 p4_ hD
      have hz2 := g2.size
      have hz3 := q3.size
      have hrw : wr.ownsRow lo 3 1 (.slice la ln lc) ln xs := row_keep (row_keep hrow fun q hq hq2 => g2.block q hq2 (hS2 q hq)) fun q hq hq2 => q3.block q hq2 (fun h => h)
      obtain ⟨i0, hi0, hz0, hz1, hz2'⟩ := info_partsS int_info
      refine wpOp_of ho rfl ?_
      refine wp_append_lies wr (.tmp (d + 1)) (.tmp (d + 4)) 57 rfl lo 3 i0 _ 1 8 Tryz.underlying57 hi0 hz0 hz1 hz2' rfl (by decide) (.slice la ln lc) ln xs v1 hrw ⟨g, 0, none⟩ 1 1 [.int .i64 (k : Nat)] q1 rfl (World.news_of_block q2) (by intro u hu; simp at hu; subst hu; rfl) (by omega) (by unfold maxLen; omega) (by omega) (by omega) _ rfl ?_
      intro g' cap w' k1 k2 k3 k4
      have u3 : upd D 5 3 = D 3 := upd_ne D (by decide)
      have u4 : upd D 5 4 = D 4 := upd_ne D (by decide)
      have u7 : upd D 5 7 = D 7 := upd_ne D (by decide)
      refine ⟨hI.fr.put (by omega) (by omega) _, hI.sl.put 5 (d + 5) _ (by omega) (by simp [KwT]), by rw [u4, u3]; exact hI.e4, fun _ => by rw [u4]; exact p4_, fun _ => upd_same D 5, fun _ => upd_mono p1_, fun h => (by rw [u3, p3_] at h; cases h), fun _ => ?_⟩
      refine ⟨k, W3, g1, g2, by rw [eval_put_ne (by omega)]; exact g3, fun h => (by rw [u4, p4_] at h; cases h), fun _ h => (by rw [upd_same] at h; cases h), fun _ => ⟨g', cap, eval_put_same (by omega) _, k1, ?_, fun _ => ?_, fun h => (by rw [u7, h7] at h; cases h)⟩⟩
      · rcases k3 with k3 | k3
        · exact .inl k3
        · exact .inr (by omega)
      · exact (q3.more fun _ _ h => h.elim).same (Fr.grown k2 fun q hq => .inl hq)
    · -- 6
      obtain ⟨odst, oop, oty, opos, oaft, ogd⟩ := o
      simp only [key, KwK, List.getElem?_cons_zero, List.getElem?_cons_succ, Option.some.injEq, Prod.mk.injEq] at hk
      obtain ⟨rfl, rfl, rfl⟩ := hk
      have e7 := (hI.fr.eval (t := 7) (by omega)).trans h7
      refine wpOp_of ho rfl (op_run (n := .value (.pointer (some ⟨nb, 2, none⟩))) (w' := wr) ?_ (hI.step 6 (d + 6) (.pointer (some ⟨nb, 2, none⟩)) (by decide) (by decide) (by decide) (by decide) (by omega) (by omega) (by omega) (by omega) (by omega) (by omega) (by simp [KwT])))
      generalize a.eval = ev at *
      unfold execOp
      simp [go_sem, e7]
    · -- 7
      obtain ⟨odst, oop, oty, opos, oaft, ogd⟩ := o
      simp only [key, KwK, List.getElem?_cons_zero, List.getElem?_cons_succ, Option.some.injEq, Prod.mk.injEq] at hk
      obtain ⟨rfl, rfl, rfl⟩ := hk
      have p6_ : D 6 = true := hdp _ rfl 6 (by decide)
      have v6 : a.eval (.tmp (d + 6)) = .pointer (some ⟨nb, 2, none⟩) := hI.sl (6, d + 6, .pointer (some ⟨nb, 2, none⟩)) (by simp [KwT]) p6_
      have p5_ : D 5 = true := hdp _ rfl 5 (by decide)
      have p3_ : D 3 = true := hdp _ rfl 3 (by decide)
      obtain ⟨k, W3, g1, g2, g3, g4, g5, g6⟩ := hI.s1 p3_
      obtain ⟨g, cap, q1, q2, q3, q4, q5⟩ := g6 p5_
      have hfr := q4 hD
      have hown := row_base hrow
      have hb3 := (hb.fr g2 hS).fr hfr (fun h => by have := hown _ h; omega)
      have c2 := hb3.c 2 rfl
      have f2 := hb3.fz 2
      have q1' := q1
      refine wpOp_of ho rfl (op_run (n := .skip) (w' := wr.setCell ⟨nb, 2, none⟩ (.slice (some ⟨g, 0, none⟩) (ln + 1) cap)) ?_ ?_)
      · generalize a.eval = ev at *
        unfold execOp
        simp [go_sem, v6, q1, c2, f2]
      · have u3 : upd D 7 3 = D 3 := upd_ne D (by decide)
        have u4 : upd D 7 4 = D 4 := upd_ne D (by decide)
        have u5 : upd D 7 5 = D 5 := upd_ne D (by decide)
        refine ⟨hI.fr, hI.sl.done 7 (by simp [KwT]), by rw [u4, u3]; exact hI.e4, by rw [u5, u4]; exact hI.e5, fun _ => by rw [u5]; exact p5_, fun _ => upd_mono (hI.b5 p5_), fun h => (by rw [u3, p3_] at h; cases h), fun _ => ?_⟩
        refine ⟨k, W3, g1, g2, g3, fun h => (by rw [u4, hI.e5 p5_] at h; cases h), fun _ h => (by rw [u5, p5_] at h; cases h), fun _ => ⟨g, cap, q1', ?_, q3, fun h => (by rw [upd_same] at h; cases h), fun _ => ⟨?_, hb3.set 2 _⟩⟩⟩
        · exact row_keep q2 fun q hq _ => Below.heap_setCell _ _ _ _ (by have := row_base q2 q hq; dsimp only; omega)
        · exact (hfr.more fun q _ h => .inr h).same (Fr.set (.inl (.inl rfl)))
  · intro D a W hI hall
    obtain ⟨k, W3, g1, g2, g3, g4, g5, g6⟩ := hI.s1 (hall 3 (by rw [hsh.size]; simp [KwK]))
    obtain ⟨g, cap, q1, q2, q3, q4, q5⟩ := g6 (hall 5 (by rw [hsh.size]; simp [KwK]))
    obtain ⟨q6, q7⟩ := q5 (hall 7 (by rw [hsh.size]; simp [KwK]))
    exact hQ a W k W3 g cap hI.fr g1 g2 q6 q7 q2 q3
end Go.Proofs.YtjendlnicbieoaaGreatDoor
/-
  Package source's reader: keyword's and list's drawn statements have the shape of KwK.
-/
namespace Go.Proofs.YtjendlnicbieoaaGreatDoor
open Go.RowKit Go.Sort

theorem kw_shape10 : Shape (ropsS Tryz.f119 10) (KwK 31) KwD := ⟨by kernel_rfl, by kernel_rfl⟩
theorem kw_shape13 : Shape (ropsS Tryz.f119 13) (KwK 52) KwD := ⟨by kernel_rfl, by kernel_rfl⟩
theorem kw_shape16 : Shape (ropsS Tryz.f119 16) (KwK 75) KwD := ⟨by kernel_rfl, by kernel_rfl⟩
theorem kw_shape18 : Shape (ropsS Tryz.f119 18) (KwK 86) KwD := ⟨by kernel_rfl, by kernel_rfl⟩
theorem kw_shape20 : Shape (ropsS Tryz.f119 20) (KwK 97) KwD := ⟨by kernel_rfl, by kernel_rfl⟩
theorem kw_shape23 : Shape (ropsS Tryz.f119 23) (KwK 110) KwD := ⟨by kernel_rfl, by kernel_rfl⟩
theorem kw_shape27 : Shape (ropsS Tryz.f119 27) (KwK 127) KwD := ⟨by kernel_rfl, by kernel_rfl⟩
theorem kw_shape29 : Shape (ropsS Tryz.f119 29) (KwK 138) KwD := ⟨by kernel_rfl, by kernel_rfl⟩
end Go.Proofs.YtjendlnicbieoaaGreatDoor
