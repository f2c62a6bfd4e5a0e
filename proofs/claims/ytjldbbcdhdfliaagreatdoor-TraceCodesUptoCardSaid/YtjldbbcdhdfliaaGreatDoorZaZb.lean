/-
 Layer 23: what the statements' own functions call with closed arguments; num, wrong.
-/
import Derived.Test.YtjldbbcdhdfliaaGreatDoorMk
import Derived.Test.YtjldbbcdhdfliaaGreatDoorUcUh
import Derived.Test.YtjldbbcdhdfliaaGreatDoorTmTq
import Derived.Lib.QuietBelow
import Derived.Deep.QuietTactic
import Derived.BigQuiet
namespace Go.Proofs.YtjldbbcdhdfliaaGreatDoor
open Go.RowKit Go.Shelf Go.Sort

def evX : Ev := { k := 5, st := 5, th := 1, sy := 3, br := 0, pa := -1, n := 2, v := .mk 2 7 [] }
def evSp : Ev := { k := 1, st := 0, th := 0, sy := 0, br := 0, pa := 0, n := 1, v := zeroT }
def evOv : Ev := { k := 8, st := 4, th := 0, sy := 0, br := 0, pa := 0, n := 0, v := .mk 1 0 [] }
def evWr (n : Int) : Ev := { k := 9, st := n, th := 0, sy := 0, br := 0, pa := 0, n := 0, v := zeroT }
theorem tt_x : ttV evX = .tuple #[.string ⟨#[53, 32, 49, 32, 99, 111, 109, 109, 105, 116, 32, 51, 32, 48, 32, 45, 32, 50, 32, 55]⟩, .int .i64 0] := by kernel_rfl
theorem tt_s : ttV evSp = .tuple #[.string ⟨#[48, 32, 48, 32, 115, 112, 97, 119, 110, 32, 49]⟩, .int .i64 0] := by kernel_rfl
theorem pe_o : parseE ⟨#[52, 32, 48, 32, 111, 118, 101, 114, 32, 117, 110, 105, 116]⟩ = some evOv := by kernel_rfl
theorem pe_1 : parseE ⟨#[52, 32, 48, 32, 111, 118, 101, 114]⟩ = none := by kernel_rfl
theorem pe_2 : parseE ⟨#[52, 32, 48, 32, 32, 119, 114, 111, 110, 103]⟩ = none := by kernel_rfl
theorem pe_3 : parseE ⟨#[48, 52, 32, 48, 32, 119, 114, 111, 110, 103]⟩ = none := by kernel_rfl
theorem re_w : readE ⟨#[48, 32, 48, 32, 119, 114, 111, 110, 103, 10, 120]⟩ = .error 1 := by kernel_rfl
theorem ck_w : CkV [evWr 2, evWr 1] = .tuple #[.int .i64 1, .int .i64 230] := by kernel_rfl
theorem fw_w : firstW [evWr 2] = none := by kernel_rfl
theorem en_l : (encB [evWr 2]).length = 7 := by kernel_rfl
theorem en_0 : (Lib.byteCells (encB [evWr 2]))[0]? = some (.int .u8 9) := by kernel_rfl
theorem en_1 : (Lib.byteCells (encB [evWr 2]))[1]? = some (.int .u8 2) := by kernel_rfl
theorem en_2 : (Lib.byteCells (encB [evWr 2]))[2]? = some (.int .u8 0) := by kernel_rfl
theorem rng_s {n : Int} (h : -1000 ≤ n ∧ n ≤ 1000) : Rng n := by unfold Rng; omega
theorem rngE_s {x : Ev} (h : (-1000 ≤ x.k ∧ x.k ≤ 1000) ∧ (-1000 ≤ x.st ∧ x.st ≤ 1000) ∧ (-1000 ≤ x.th ∧ x.th ≤ 1000) ∧ (-1000 ≤ x.sy ∧ x.sy ≤ 1000) ∧ (-1000 ≤ x.br ∧ x.br ≤ 1000) ∧ (-1000 ≤ x.pa ∧ x.pa ≤ 1000) ∧ (-1000 ≤ x.n ∧ x.n ≤ 1000)) : RngE x := by
 obtain ⟨h1, h2, h3, h4, h5, h6, h7⟩ := h
 exact ⟨rng_s h1, rng_s h2, rng_s h3, rng_s h4, rng_s h5, rng_s h6, rng_s h7⟩
section
variable {ok : Nat → Prop} {w : World}
theorem isE_x : IsE ok w evX (.agg #[.int .i64 5, .int .i64 5, .int .i64 1, .int .i64 3, .int .i64 0, .int .i64 (-1), .int .i64 2, .int .i64 2, .int .i64 7, .slice none 0 0]) :=
 ⟨2, 7, none, 0, 0, rfl, isV_leaf (rng_s (by decide)) (rng_s (by decide)), rngE_s (by decide)⟩
theorem isE_s : IsE ok w evSp (.agg #[.int .i64 1, .int .i64 0, .int .i64 0, .int .i64 0, .int .i64 0, .int .i64 0, .int .i64 1, .int .i64 0, .int .i64 0, .slice none 0 0]) :=
 ⟨0, 0, none, 0, 0, rfl, isV_leaf (rng_s (by decide)) (rng_s (by decide)), rngE_s (by decide)⟩
theorem isE_o : IsE ok w evOv (.agg #[.int .i64 8, .int .i64 4, .int .i64 0, .int .i64 0, .int .i64 0, .int .i64 0, .int .i64 0, .int .i64 1, .int .i64 0, .slice none 0 0]) :=
 ⟨1, 0, none, 0, 0, rfl, isV_leaf (rng_s (by decide)) (rng_s (by decide)), rngE_s (by decide)⟩
theorem isEs_2 {g : Nat} {T : TypeId} {fr : Nat × Nat} (hg : ok g) (h : w.heap[g]? = some (.cells #[.int .i64 9, .int .i64 2, .int .i64 0, .int .i64 0, .int .i64 0, .int .i64 0, .int .i64 0, .int .i64 0, .int .i64 0, .slice none 0 0, .int .i64 9, .int .i64 1, .int .i64 0, .int .i64 0, .int .i64 0, .int .i64 0, .int .i64 0, .int .i64 0, .int .i64 0, .slice none 0 0] T fr)) : IsEs ok w [evWr 2, evWr 1] (some ⟨g, 0, none⟩) := by
 have hk : KidsE ok w [evWr 2, evWr 1] [.int .i64 9, .int .i64 2, .int .i64 0, .int .i64 0, .int .i64 0, .int .i64 0, .int .i64 0, .int .i64 0, .int .i64 0, .slice none 0 0, .int .i64 9, .int .i64 1, .int .i64 0, .int .i64 0, .int .i64 0, .int .i64 0, .int .i64 0, .int .i64 0, .int .i64 0, .slice none 0 0] :=
  ⟨0, 0, none, 0, 0, _, rfl, isV_leaf (rng_s (by decide)) (rng_s (by decide)), rngE_s (by decide), 0, 0, none, 0, 0, [], rfl, isV_leaf (rng_s (by decide)) (rng_s (by decide)), rngE_s (by decide), rfl⟩
 refine hk.row hg fun j u hu => ?_
 rw [Nat.zero_add]
 simp only [World.cell?, h]
 simpa using hu
theorem isEs_1 {g : Nat} {T : TypeId} {fr : Nat × Nat} (hg : ok g) (h : w.heap[g]? = some (.cells #[.int .i64 9, .int .i64 2, .int .i64 0, .int .i64 0, .int .i64 0, .int .i64 0, .int .i64 0, .int .i64 0, .int .i64 0, .slice none 0 0] T fr)) : IsEs ok w [evWr 2] (some ⟨g, 0, none⟩) := by
 have hk : KidsE ok w [evWr 2] [.int .i64 9, .int .i64 2, .int .i64 0, .int .i64 0, .int .i64 0, .int .i64 0, .int .i64 0, .int .i64 0, .int .i64 0, .slice none 0 0] :=
  ⟨0, 0, none, 0, 0, [], rfl, isV_leaf (rng_s (by decide)) (rng_s (by decide)), rngE_s (by decide), rfl⟩
 refine hk.row hg fun j u hu => ?_
 rw [Nat.zero_add]
 simp only [World.cell?, h]
 simpa using hu
end
set_option maxHeartbeats 400000 in
theorem num23_any (n : Int) (w : World) : Calls Tryz.prog 12 #[.int .i64 n] w fun e w' => e = .returned (.int .i64 n) ∧ w = w' := by
 go_enter Tryz.func12, Tryz.ntmps12
 go_wp2_with fail
 go_ret
 exact ⟨rfl, rfl⟩
set_option maxRecDepth 100000 in
set_option maxHeartbeats 400000 in
theorem wrong23_any (n : Int) (w : World) : Calls Tryz.prog 30 #[.int .i64 n] w fun e w' => e = .returned (.agg #[.int .i64 9, .int .i64 n, .int .i64 0, .int .i64 0, .int .i64 0, .int .i64 0, .int .i64 0, .int .i64 0, .int .i64 0, .slice none 0 0]) ∧ Below w.heap.size w w' := by
 go_enter Tryz.func30, Tryz.ntmps30
 go_wp2_with fail
 exact bodyPost_ret (v := .agg #[.int .i64 9, .int .i64 n, .int .i64 0, .int .i64 0, .int .i64 0, .int .i64 0, .int .i64 0, .int .i64 0, .int .i64 0, .slice none 0 0]) (by simp [results, Tryz.results30, go_sem]) rfl ⟨rfl, below_alloc _ _⟩
end Go.Proofs.YtjldbbcdhdfliaaGreatDoor
/-
 Layer 23: works. Printed by gen_zb.py.
-/
namespace Go.Proofs.YtjldbbcdhdfliaaGreatDoor
open Go.RowKit Go.Shelf Go.Sort
theorem tparse_o (w : World) (hE : EnvT w) : Calls Tryz.prog 9 #[.string ⟨#[52, 32, 48, 32, 111, 118, 101, 114, 32, 117, 110, 105, 116]⟩] w fun e w' => (∃ (kk nn : Int) (a : Option Addr) (len cap : Nat), e = .returned (.tuple #[.agg #[.int .i64 8, .int .i64 4, .int .i64 0, .int .i64 0, .int .i64 0, .int .i64 0, .int .i64 0, .int .i64 kk, .int .i64 nn, .slice a len cap], .int .i64 0]) ∧ IsE (· < w'.heap.size) w' evOv (.agg #[.int .i64 8, .int .i64 4, .int .i64 0, .int .i64 0, .int .i64 0, .int .i64 0, .int .i64 0, .int .i64 kk, .int .i64 nn, .slice a len cap])) ∧ Below w.heap.size w w' := by
 refine (TParse_any ⟨#[52, 32, 48, 32, 111, 118, 101, 114, 32, 117, 110, 105, 116]⟩ (by decide) w hE).mono ?_
 rw [pe_o]
 rintro e w5 ⟨⟨v, rfl, hv⟩, hb5⟩
 obtain ⟨kk, nn, a, len, cap, rfl, hv, hrg⟩ := hv
 exact ⟨⟨kk, nn, a, len, cap, rfl, kk, nn, a, len, cap, rfl, hv.more fun g hg => hg.2, hrg⟩, hb5⟩
theorem tparse_bad (s : ByteArray) (hs : s.size ≤ 10000000) (hp : parseE s = none) (w : World) (hE : EnvT w) : Calls Tryz.prog 9 #[.string s] w fun e w' => e = .returned (.tuple #[.agg #[.int .i64 0, .int .i64 0, .int .i64 0, .int .i64 0, .int .i64 0, .int .i64 0, .int .i64 0, .int .i64 0, .int .i64 0, .slice none 0 0], .int .i64 230]) ∧ Below w.heap.size w w' := by
 refine (TParse_any s hs w hE).mono ?_
 rw [hp]
 rintro e w5 ⟨h, hb5⟩
 exact ⟨h, hb5⟩
theorem tcheck_w (g : Nat) (w : World) (hg : w.heap[g]? = some (.cells #[.int .i64 9, .int .i64 2, .int .i64 0, .int .i64 0, .int .i64 0, .int .i64 0, .int .i64 0, .int .i64 0, .int .i64 0, .slice none 0 0, .int .i64 9, .int .i64 1, .int .i64 0, .int .i64 0, .int .i64 0, .int .i64 0, .int .i64 0, .int .i64 0, .int .i64 0, .slice none 0 0] 29 (0, 0))) : Calls Tryz.prog 14 #[.slice (some ⟨g, 0, none⟩) 2 2] w fun e w' => e = .returned (.tuple #[.int .i64 1, .int .i64 230]) ∧ Below w.heap.size w w' := by
 refine (TCheck_any [evWr 2, evWr 1] (by decide) (some ⟨g, 0, none⟩) 2 w (isEs_2 (lt_of_heap hg) hg)).mono ?_
 rw [ck_w]
 exact fun _ _ h => h
theorem tread_w (w : World) (hE : EnvT w) : Calls Tryz.prog 20 #[.string ⟨#[48, 32, 48, 32, 119, 114, 111, 110, 103, 10, 120]⟩] w fun e w' => e = .returned (.tuple #[.slice none 0 0, .int .i64 1, .int .i64 230]) ∧ Below w.heap.size w w' := by
 refine (Read_any ⟨#[48, 32, 48, 32, 119, 114, 111, 110, 103, 10, 120]⟩ (by decide) w hE).mono ?_
 rw [re_w]
 rintro e w5 ⟨h, hb5⟩
 exact ⟨h, hb5⟩
theorem tencode_w (g : Nat) (w : World) (hE : Env w) (hg : w.heap[g]? = some (.cells #[.int .i64 9, .int .i64 2, .int .i64 0, .int .i64 0, .int .i64 0, .int .i64 0, .int .i64 0, .int .i64 0, .int .i64 0, .slice none 0 0] 29 (0, 0))) : Calls Tryz.prog 24 #[.slice (some ⟨g, 0, none⟩) 1 1] w fun e w' => (∃ gd cap, e = .returned (.tuple #[.slice (some ⟨gd, 0, none⟩) 7 cap, .int .i64 0]) ∧ w'.cell? ⟨gd, 0, none⟩ = some (.int .u8 9) ∧ w'.cell? ⟨gd, 1, none⟩ = some (.int .u8 2) ∧ w'.cell? ⟨gd, 2, none⟩ = some (.int .u8 0)) ∧ Below w.heap.size w w' := by
 refine (TEncode_any [evWr 2] (by decide) (some ⟨g, 0, none⟩) 1 w (isEs_1 (lt_of_heap hg) hg) hE).mono ?_
 rintro e w5 ⟨h, hb5⟩
 refine ⟨?_, hb5⟩
 rw [fw_w] at h
 obtain ⟨v, rfl, hv⟩ := h
 have hl := en_l
 have h0 := en_0
 have h1 := en_1
 have h2 := en_2
 unfold Byt at hv
 generalize encB [evWr 2] = L at *
 have hv2 := hv.2
 rcases hv2 with ⟨_, h⟩ | ⟨gd, cap, cur, e1, _⟩
 ·omega
 ·subst e1
  rw [hl] at hv ⊢
  have c0 := World.ownsRow.cellAt hv 0 (by omega)
  have c1 := World.ownsRow.cellAt hv 1 (by omega)
  have c2 := World.ownsRow.cellAt hv 2 (by omega)
  exact ⟨gd, cap, rfl, c0.trans h0, c1.trans h1, c2.trans h2⟩
theorem rsame_o (v : Value) (w : World) (hv : IsE (· < w.heap.size) w evOv v) : Calls Tryz.prog 11 #[v, .agg #[.int .i64 8, .int .i64 4, .int .i64 0, .int .i64 0, .int .i64 0, .int .i64 0, .int .i64 0, .int .i64 1, .int .i64 0, .slice none 0 0]] w fun e w' => e = .returned (.bool true) ∧ Below w.heap.size w w' := rsame_self evOv v _ w hv isE_o (by decide)
set_option maxRecDepth 100000 in
set_option maxHeartbeats 16000000 in
theorem tworks_any (w : World) (hE : EnvT w) : Calls Tryz.prog 8 #[] w fun e w' => e = .returned (.bool true) ∧ Below w.heap.size w w' := by
 have nx : ∀ w : World, (binOp .neq 9 (.string ⟨#[53, 32, 49, 32, 99, 111, 109, 109, 105, 116, 32, 51, 32, 48, 32, 45, 32, 50, 32, 55]⟩) (.string ⟨#[53, 32, 49, 32, 99, 111, 109, 109, 105, 116, 32, 51, 32, 48, 32, 45, 32, 50, 32, 55]⟩)).run Tryz.prog w = .ok (.bool false) w := fun _ => by kernel_rfl
 have ns : ∀ w : World, (binOp .neq 9 (.string ⟨#[48, 32, 48, 32, 115, 112, 97, 119, 110, 32, 49]⟩) (.string ⟨#[48, 32, 48, 32, 115, 112, 97, 119, 110, 32, 49]⟩)).run Tryz.prog w = .ok (.bool false) w := fun _ => by kernel_rfl
 go_enter Tryz.func8, Tryz.ntmps8
 go_wp2_with fail
 refine (rInt_any 7 _).mono ?_
 rintro e w1 ⟨rfl, hb1⟩
 have hx : BE (w1.alloc (.cells #[.int .i64 5, .int .i64 5, .int .i64 1, .int .i64 3, .int .i64 0, .int .i64 (-1), .int .i64 2, .int .i64 2, .int .i64 7, .slice none 0 0] 29)) w1.heap.size #[.int .i64 5, .int .i64 5, .int .i64 1, .int .i64 3, .int .i64 0, .int .i64 (-1), .int .i64 2, .int .i64 2, .int .i64 7, .slice none 0 0] := heap_alloc_new _ _
 have hbw := hb1.trans ((below_alloc w1 (.cells #[.int .i64 5, .int .i64 5, .int .i64 1, .int .i64 3, .int .i64 0, .int .i64 (-1), .int .i64 2, .int .i64 2, .int .i64 7, .slice none 0 0] 29)).mono hb1.size)
 have hEn := hE.below hbw hE.env.size
 clear hb1 hE
 go_upto_region 2 with fail
 generalize w1.alloc (.cells #[.int .i64 5, .int .i64 5, .int .i64 1, .int .i64 3, .int .i64 0, .int .i64 (-1), .int .i64 2, .int .i64 2, .int .i64 7, .slice none 0 0] 29) = w2 at *
 generalize w1.heap.size = xb at *
 obtain ⟨c0, c1, c2, c3, c4, c5, c6, c7, c8, c9⟩ := hx.c
 go_wp2_with fail
 refine (TText_any evX _ _ isE_x hEn.env).mono ?_
 rw [tt_x]
 rintro e w3 ⟨rfl, hb3⟩
 have hx3 := hx.belowAll hb3
 have hbw3 := hbw.trans (hb3.mono hbw.size)
 have hEn3 := hEn.belowAll hb3
 clear c0 c1 c2 c3 c4 c5 c6 c7 c8 c9 hx hbw hEn hb3
 go_wp2_with fail
 refine (TText_any evSp _ _ isE_s hEn3.env).mono ?_
 rw [tt_s]
 rintro e w4 ⟨rfl, hb4⟩
 have hx4 := hx3.belowAll hb4
 have hbw4 := hbw3.trans (hb4.mono hbw3.size)
 have hEn4 := hEn3.belowAll hb4
 clear hx3 hbw3 hEn3 hb4
 go_wp2_with fail
 refine (tparse_o _ hEn4).mono ?_
 rintro e w5 ⟨⟨kk, nn, a, len, cap, rfl, hv⟩, hb5⟩
 have hx5 := hx4.belowAll hb5
 have hbw5 := hbw4.trans (hb5.mono hbw4.size)
 have hEn5 := hEn4.belowAll hb5
 clear hx4 hbw4 hEn4 hb5
 have hb6 := below_alloc w5 (.cells #[.int .i64 8, .int .i64 4, .int .i64 0, .int .i64 0, .int .i64 0, .int .i64 0, .int .i64 0, .int .i64 kk, .int .i64 nn, .slice a len cap] 29)
 have hc6 : BE (w5.alloc (.cells #[.int .i64 8, .int .i64 4, .int .i64 0, .int .i64 0, .int .i64 0, .int .i64 0, .int .i64 0, .int .i64 kk, .int .i64 nn, .slice a len cap] 29)) w5.heap.size #[.int .i64 8, .int .i64 4, .int .i64 0, .int .i64 0, .int .i64 0, .int .i64 0, .int .i64 0, .int .i64 kk, .int .i64 nn, .slice a len cap] := heap_alloc_new _ _
 have hx6 := hx5.belowAll hb6
 have hbw6 := hbw5.trans (hb6.mono hbw5.size)
 have hEn6 := hEn5.belowAll hb6
 have hv6 := hv.later hb6
 clear hx5 hbw5 hEn5 hb6 hv
 go_upto_region 6 with fail
 generalize w5.alloc (.cells #[.int .i64 8, .int .i64 4, .int .i64 0, .int .i64 0, .int .i64 0, .int .i64 0, .int .i64 0, .int .i64 kk, .int .i64 nn, .slice a len cap] 29) = w6 at *
 generalize w5.heap.size = cb at *
 go_wp2_with fail
 refine (wrong23_any 2 _).mono ?_
 rintro e w7 ⟨rfl, hb7⟩
 go_wp2_with fail
 refine (wrong23_any 1 _).mono ?_
 rintro e w8 ⟨rfl, hb8⟩
 have hb9 := (hb7.trans (hb8.mono hb7.size)).trans ((below_alloc w8 (.cells #[.int .i64 9, .int .i64 2, .int .i64 0, .int .i64 0, .int .i64 0, .int .i64 0, .int .i64 0, .int .i64 0, .int .i64 0, .slice none 0 0, .int .i64 9, .int .i64 1, .int .i64 0, .int .i64 0, .int .i64 0, .int .i64 0, .int .i64 0, .int .i64 0, .int .i64 0, .slice none 0 0] 29)).mono (hb7.trans (hb8.mono hb7.size)).size)
 have hg9 := heap_alloc_new w8 (.cells #[.int .i64 9, .int .i64 2, .int .i64 0, .int .i64 0, .int .i64 0, .int .i64 0, .int .i64 0, .int .i64 0, .int .i64 0, .slice none 0 0, .int .i64 9, .int .i64 1, .int .i64 0, .int .i64 0, .int .i64 0, .int .i64 0, .int .i64 0, .int .i64 0, .int .i64 0, .slice none 0 0] 29)
 have hx9 := hx6.belowAll hb9
 have hc9 := hc6.belowAll hb9
 have hv9 := hv6.later hb9
 have hbw9 := hbw6.trans (hb9.mono hbw6.size)
 have hEn9 := hEn6.belowAll hb9
 clear hx6 hc6 hv6 hbw6 hEn6 hb7 hb8 hb9
 go_wp2_with fail
 refine (tcheck_w _ _ hg9).mono ?_
 rintro e w10 ⟨rfl, hb10⟩
 have hx10 := hx9.belowAll hb10
 have hc10 := hc9.belowAll hb10
 have hv10 := hv9.later hb10
 have hbw10 := hbw9.trans (hb10.mono hbw9.size)
 have hEn10 := hEn9.belowAll hb10
 clear hx9 hc9 hv9 hbw9 hEn9 hb10 hg9
 go_wp2_with fail
 refine (wrong23_any 2 _).mono ?_
 rintro e w11 ⟨rfl, hb11⟩
 have hb12 := hb11.trans ((below_alloc w11 (.cells #[.int .i64 9, .int .i64 2, .int .i64 0, .int .i64 0, .int .i64 0, .int .i64 0, .int .i64 0, .int .i64 0, .int .i64 0, .slice none 0 0] 29)).mono hb11.size)
 have hg12 := heap_alloc_new w11 (.cells #[.int .i64 9, .int .i64 2, .int .i64 0, .int .i64 0, .int .i64 0, .int .i64 0, .int .i64 0, .int .i64 0, .int .i64 0, .slice none 0 0] 29)
 have hx12 := hx10.belowAll hb12
 have hc12 := hc10.belowAll hb12
 have hv12 := hv10.later hb12
 have hbw12 := hbw10.trans (hb12.mono hbw10.size)
 have hEn12 := hEn10.belowAll hb12
 clear hx10 hc10 hv10 hbw10 hEn10 hb11 hb12
 go_wp2_with fail
 refine (tencode_w _ _ hEn12.env hg12).mono ?_
 rintro e w13 ⟨⟨gd, capd, rfl, e0, e1, e2⟩, hb13⟩
 have hx13 := hx12.belowAll hb13
 have hc13 := hc12.belowAll hb13
 have hv13 := hv12.later hb13
 have hbw13 := hbw12.trans (hb13.mono hbw12.size)
 have hEn13 := hEn12.belowAll hb13
 clear hx12 hc12 hv12 hbw12 hEn12 hb13 hg12
 have HD := Lib.hid (And.intro e0 (And.intro e1 e2))
 clear e0 e1 e2
 go_wp2_with fail
 refine (tread_w _ hEn13).mono ?_
 rintro e w14 ⟨rfl, hb14⟩
 have hx14 := hx13.belowAll hb14
 have hc14 := hc13.belowAll hb14
 have hv14 := hv13.later hb14
 have hbw14 := hbw13.trans (hb14.mono hbw13.size)
 have hEn14 := hEn13.belowAll hb14
 have HD14 : Hid (w14.cell? ⟨gd, 0, none⟩ = some (.int .u8 9) ∧ w14.cell? ⟨gd, 1, none⟩ = some (.int .u8 2) ∧ w14.cell? ⟨gd, 2, none⟩ = some (.int .u8 0)) := by
  obtain ⟨e0, e1, e2⟩ := HD.out
  exact ⟨(hb14.cell (block_lt_of_cell e0)).trans e0, (hb14.cell (block_lt_of_cell e1)).trans e1, (hb14.cell (block_lt_of_cell e2)).trans e2⟩
 clear hx13 hc13 hv13 hbw13 hEn13 hb14 HD
 obtain ⟨c0, c1, c2, c3, c4, c5, c6, c7, c8, c9⟩ := hx14.c
 have hb15 := below_alloc w14 (.cells #[.int .i64 5, .int .i64 5, .int .i64 1, .int .i64 3, .int .i64 0, .int .i64 (-1), .int .i64 2, .int .i64 2, .int .i64 7, .slice none 0 0] 29)
 have hg15 := heap_alloc_new w14 (.cells #[.int .i64 5, .int .i64 5, .int .i64 1, .int .i64 3, .int .i64 0, .int .i64 (-1), .int .i64 2, .int .i64 2, .int .i64 7, .slice none 0 0] 29)
 have hx15 := hx14.belowAll hb15
 have hc15 := hc14.belowAll hb15
 have hv15 := hv14.later hb15
 have hbw15 := hbw14.trans (hb15.mono hbw14.size)
 have hEn15 := hEn14.belowAll hb15
 have HD15 : Hid ((w14.alloc (.cells #[.int .i64 5, .int .i64 5, .int .i64 1, .int .i64 3, .int .i64 0, .int .i64 (-1), .int .i64 2, .int .i64 2, .int .i64 7, .slice none 0 0] 29)).cell? ⟨gd, 0, none⟩ = some (.int .u8 9) ∧ (w14.alloc (.cells #[.int .i64 5, .int .i64 5, .int .i64 1, .int .i64 3, .int .i64 0, .int .i64 (-1), .int .i64 2, .int .i64 2, .int .i64 7, .slice none 0 0] 29)).cell? ⟨gd, 1, none⟩ = some (.int .u8 2) ∧ (w14.alloc (.cells #[.int .i64 5, .int .i64 5, .int .i64 1, .int .i64 3, .int .i64 0, .int .i64 (-1), .int .i64 2, .int .i64 2, .int .i64 7, .slice none 0 0] 29)).cell? ⟨gd, 2, none⟩ = some (.int .u8 0)) := by
  obtain ⟨e0, e1, e2⟩ := HD14.out
  exact ⟨(hb15.cell (block_lt_of_cell e0)).trans e0, (hb15.cell (block_lt_of_cell e1)).trans e1, (hb15.cell (block_lt_of_cell e2)).trans e2⟩
 clear hx14 hc14 hv14 hbw14 hEn14 hb15 HD14
 go_wp2_with fail
 refine (TMarks1 5 1 3 0 2 2 7 (rng_s (by decide)) (rng_s (by decide)) _ _ hg15).mono ?_
 rintro e w16 ⟨⟨gm, rfl, hm⟩, hb16⟩
 clear c0 c1 c2 c3 c4 c5 c6 c7 c8 c9
 have hc16 := hc15.belowAll hb16
 have hv16 := hv15.later hb16
 have hbw16 := hbw15.trans (hb16.mono hbw15.size)
 have hEn16 := hEn15.belowAll hb16
 have HD16 : Hid (w16.cell? ⟨gd, 0, none⟩ = some (.int .u8 9) ∧ w16.cell? ⟨gd, 1, none⟩ = some (.int .u8 2) ∧ w16.cell? ⟨gd, 2, none⟩ = some (.int .u8 0)) := by
  obtain ⟨e0, e1, e2⟩ := HD15.out
  exact ⟨(hb16.cell (block_lt_of_cell e0)).trans e0, (hb16.cell (block_lt_of_cell e1)).trans e1, (hb16.cell (block_lt_of_cell e2)).trans e2⟩
 clear hx15 hc15 hv15 hbw15 hEn15 hb16 HD15 hg15
 go_upto_region 10 with fail
 obtain ⟨b0, b1, b2, b3, b4, b5, b6, b7, b8, b9⟩ := BE.c hc16
 go_wp2_with fail
 refine (num23_any 0 _).mono ?_
 rintro e w17 ⟨rfl, rfl⟩
 go_wp2_with fail
 refine (num23_any 0 _).mono ?_
 rintro e w17 ⟨rfl, rfl⟩
 go_wp2_with fail
 refine (num23_any 0 _).mono ?_
 rintro e w17 ⟨rfl, rfl⟩
 go_wp2_with fail
 refine (num23_any 0 _).mono ?_
 rintro e w17 ⟨rfl, rfl⟩
 go_wp2_with fail
 refine (rsame_o _ _ hv16).mono ?_
 rintro e w17 ⟨rfl, hb17⟩
 have hbw17 := hbw16.trans (hb17.mono hbw16.size)
 have hEn17 := hEn16.belowAll hb17
 clear b0 b1 b2 b3 b4 b5 b6 b7 b8 b9 hc16 hv16
 have e0 := (hb17.cell (block_lt_of_cell HD16.out.1)).trans HD16.out.1
 have e1 := (hb17.cell (block_lt_of_cell HD16.out.2.1)).trans HD16.out.2.1
 have e2 := (hb17.cell (block_lt_of_cell HD16.out.2.2)).trans HD16.out.2.2
 have m0 : w17.cell? ⟨gm, 0, none⟩ = some (.int .i64 5) := (hb17.cell (p := ⟨gm, 0, none⟩) (lt_of_heap hm)).trans (by simp [World.cell?, hm])
 have m1 : w17.cell? ⟨gm, 1, none⟩ = some (.int .i64 1) := (hb17.cell (p := ⟨gm, 1, none⟩) (lt_of_heap hm)).trans (by simp [World.cell?, hm])
 have m3 : w17.cell? ⟨gm, 3, none⟩ = some (.int .i64 7) := (hb17.cell (p := ⟨gm, 3, none⟩) (lt_of_heap hm)).trans (by simp [World.cell?, hm])
 clear hb17 hbw16 hEn16 HD16 hm
 go_wp2_with fail
 refine (num23_any 230 _).mono ?_
 rintro e w18 ⟨rfl, rfl⟩
 go_wp2_with fail
 refine (num23_any 230 _).mono ?_
 rintro e w18 ⟨rfl, rfl⟩
 have hb18 := below_alloc w17 (.cells #[.string ⟨#[52, 32, 48, 32, 111, 118, 101, 114]⟩, .string ⟨#[52, 32, 48, 32, 32, 119, 114, 111, 110, 103]⟩, .string ⟨#[48, 52, 32, 48, 32, 119, 114, 111, 110, 103]⟩] 9)
 have hg18 := heap_alloc_new w17 (.cells #[.string ⟨#[52, 32, 48, 32, 111, 118, 101, 114]⟩, .string ⟨#[52, 32, 48, 32, 32, 119, 114, 111, 110, 103]⟩, .string ⟨#[48, 52, 32, 48, 32, 119, 114, 111, 110, 103]⟩] 9)
 have hbw18 := hbw17.trans (hb18.mono hbw17.size)
 have hEn18 := hEn17.belowAll hb18
 clear hbw17 hEn17 hb18
 go_upto_region 13 with fail
 clear e0 e1 e2 m0 m1 m3
 generalize w17.alloc (.cells #[.string ⟨#[52, 32, 48, 32, 111, 118, 101, 114]⟩, .string ⟨#[52, 32, 48, 32, 32, 119, 114, 111, 110, 103]⟩, .string ⟨#[48, 52, 32, 48, 32, 119, 114, 111, 110, 103]⟩] 9) = w18 at *
 generalize w17.heap.size = bb at *
 go_wp2_with fail
 go_loopw [18] (fun i wr => (i = .int .i64 0 ∨ i = .int .i64 1 ∨ i = .int .i64 2 ∨ i = .int .i64 3) ∧ Below w.heap.size w wr ∧ EnvT wr ∧ wr.heap[bb]? = some (.cells #[.string ⟨#[52, 32, 48, 32, 111, 118, 101, 114]⟩, .string ⟨#[52, 32, 48, 32, 32, 119, 114, 111, 110, 103]⟩, .string ⟨#[48, 52, 32, 48, 32, 119, 114, 111, 110, 103]⟩] 9 (0, 0))) (fun i _ => 3 - (intOf i).toNat)
 case atStart => exact ⟨.inl rfl, hbw18, hEn18, hg18⟩
 case round =>
  clear hbw18 hEn18 hg18
  obtain ⟨hi, hbwr, hEnr, hgr⟩ := hrel
  rcases hi with rfl | rfl | rfl | rfl
  ·have q : wr.cell? ⟨bb, 0, none⟩ = some (.string ⟨#[52, 32, 48, 32, 111, 118, 101, 114]⟩) := by simp [World.cell?, hgr]
   go_wp2_with fail
   refine (tparse_bad _ (by decide) pe_1 _ hEnr).mono ?_
   rintro e w20 ⟨rfl, hb20⟩
   have hb21 := hb20.trans ((below_alloc w20 (.cells #[.int .i64 0, .int .i64 0, .int .i64 0, .int .i64 0, .int .i64 0, .int .i64 0, .int .i64 0, .int .i64 0, .int .i64 0, .slice none 0 0] 29)).mono hb20.size)
   have hbw21 := hbwr.trans (hb21.mono hbwr.size)
   have hEn21 := hEnr.belowAll hb21
   have hg21 := (hb21.block bb (lt_of_heap hgr)).trans hgr
   clear hbwr hEnr hgr hb20 hb21 q
   go_wp2_with fail
   refine (num23_any 230 _).mono ?_
   rintro e w22 ⟨rfl, rfl⟩
   go_wp2_with fail
   go_roundw
   case rel => first | exact ⟨by simp, hbw21, hEn21, hg21⟩ | ((repeat apply Exists.intro); exact ⟨⟨by simp, hbw21, hEn21, hg21⟩, rfl⟩)
   case measure => simp [intOf]
  ·have q : wr.cell? ⟨bb, 1, none⟩ = some (.string ⟨#[52, 32, 48, 32, 32, 119, 114, 111, 110, 103]⟩) := by simp [World.cell?, hgr]
   go_wp2_with fail
   refine (tparse_bad _ (by decide) pe_2 _ hEnr).mono ?_
   rintro e w20 ⟨rfl, hb20⟩
   have hb21 := hb20.trans ((below_alloc w20 (.cells #[.int .i64 0, .int .i64 0, .int .i64 0, .int .i64 0, .int .i64 0, .int .i64 0, .int .i64 0, .int .i64 0, .int .i64 0, .slice none 0 0] 29)).mono hb20.size)
   have hbw21 := hbwr.trans (hb21.mono hbwr.size)
   have hEn21 := hEnr.belowAll hb21
   have hg21 := (hb21.block bb (lt_of_heap hgr)).trans hgr
   clear hbwr hEnr hgr hb20 hb21 q
   go_wp2_with fail
   refine (num23_any 230 _).mono ?_
   rintro e w22 ⟨rfl, rfl⟩
   go_wp2_with fail
   go_roundw
   case rel => first | exact ⟨by simp, hbw21, hEn21, hg21⟩ | ((repeat apply Exists.intro); exact ⟨⟨by simp, hbw21, hEn21, hg21⟩, rfl⟩)
   case measure => simp [intOf]
  ·have q : wr.cell? ⟨bb, 2, none⟩ = some (.string ⟨#[48, 52, 32, 48, 32, 119, 114, 111, 110, 103]⟩) := by simp [World.cell?, hgr]
   go_wp2_with fail
   refine (tparse_bad _ (by decide) pe_3 _ hEnr).mono ?_
   rintro e w20 ⟨rfl, hb20⟩
   have hb21 := hb20.trans ((below_alloc w20 (.cells #[.int .i64 0, .int .i64 0, .int .i64 0, .int .i64 0, .int .i64 0, .int .i64 0, .int .i64 0, .int .i64 0, .int .i64 0, .slice none 0 0] 29)).mono hb20.size)
   have hbw21 := hbwr.trans (hb21.mono hbwr.size)
   have hEn21 := hEnr.belowAll hb21
   have hg21 := (hb21.block bb (lt_of_heap hgr)).trans hgr
   clear hbwr hEnr hgr hb20 hb21 q
   go_wp2_with fail
   refine (num23_any 230 _).mono ?_
   rintro e w22 ⟨rfl, rfl⟩
   go_wp2_with fail
   go_roundw
   case rel => first | exact ⟨by simp, hbw21, hEn21, hg21⟩ | ((repeat apply Exists.intro); exact ⟨⟨by simp, hbw21, hEn21, hg21⟩, rfl⟩)
   case measure => simp [intOf]
  ·go_wp2_with fail
   go_ret
   exact ⟨rfl, hbwr⟩
end Go.Proofs.YtjldbbcdhdfliaaGreatDoor
