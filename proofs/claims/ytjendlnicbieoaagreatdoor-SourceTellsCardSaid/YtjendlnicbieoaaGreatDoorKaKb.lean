/-
  Layer 9's statements: num, wrong, few; the texts of works.
-/
import Derived.Test.YtjendlnicbieoaaGreatDoorWxWp
import Derived.Test.YtjendlnicbieoaaGreatDoorSs
namespace Go.Proofs.YtjendlnicbieoaaGreatDoor
open Go.RowKit Go.Sort

def ws_s1 : Bs := [102, 117, 110, 32, 109, 97, 105, 110, 40, 41, 32, 61, 32, 108, 101, 116, 32, 120, 32, 61, 32, 53, 32, 105, 110, 32, 97, 100, 100, 40, 120, 44, 32, 50, 41]
def ws_s2 : Bs := []
def ws_s3 : Bs := [102, 117, 110, 32, 97, 40, 41, 32, 61, 32, 98, 40, 49, 41, 32, 102, 117, 110, 32, 98, 40, 120, 41, 32, 61, 32, 108, 101, 116, 32, 120, 32, 61, 32, 120, 32, 105, 110, 32, 120]
def ws_s4 : Bs := [108, 101, 116, 32, 120, 49, 32, 35, 32, 121, 10, 61, 32, 45, 53]
def ws_s5 : Bs := [102, 117, 110, 32, 97, 40, 41, 32, 61, 32, 49, 32, 102, 117, 110, 32, 98, 40, 41, 32, 61, 32, 50]
def ws_x1 : Bs := [102, 117, 110, 32, 97, 40, 41, 32, 61, 32, 98]
def ws_x2 : Bs := [102, 117, 110, 32, 97, 40, 41, 32, 61, 32, 98, 40, 41]
def ws_x3 : Bs := [102, 117, 110, 32, 97, 40, 41, 32, 61, 10, 48, 49]
def ws_x4 : Bs := [102, 117, 110, 32, 97, 40, 10]
def ws_x5 : Bs := [102, 117, 110, 32, 97, 40, 41, 32, 61, 32, 98, 40, 49, 41, 32, 102, 117, 110, 32, 98, 40, 120, 44, 32, 120, 41, 32, 61, 32, 120]
def ws_t1 : Bs := [102, 117, 110, 32, 102, 48, 40, 41, 32, 61, 32, 108, 101, 116, 32, 118, 48, 32, 61, 32, 53, 32, 105, 110, 32, 97, 100, 100, 40, 118, 48, 44, 32, 50, 41, 10]
def fs1 : List Fn := [⟨0, [⟨4, 0, [1, 2]⟩, ⟨1, 5, []⟩, ⟨6, 0, [3, 4]⟩, ⟨3, 0, []⟩, ⟨1, 2, []⟩]⟩]
def fs3 : List Fn := [⟨0, [⟨13, 1, [1]⟩, ⟨1, 1, []⟩]⟩, ⟨1, [⟨4, 0, [1, 2]⟩, ⟨3, 0, []⟩, ⟨3, 1, []⟩]⟩]
def fs5 : List Fn := [⟨0, [⟨1, 1, []⟩]⟩, ⟨0, [⟨1, 2, []⟩]⟩]
def tr1 : List (Int × Fo) := [(0, .cons 0 4 0 (.cons 1 1 5 .nil (.cons 2 6 0 (.cons 3 3 0 .nil (.cons 4 1 2 .nil .nil)) .nil)) .nil)]
def tk4 : List Tk := [⟨2, [108, 101, 116], 0⟩, ⟨2, [120, 49], 0⟩, ⟨4, [61], 1⟩, ⟨3, [45, 53], 1⟩]
theorem src_1 : srcP ws_s1 = .ok fs1 [[109, 97, 105, 110]] := by kernel_rfl
theorem src_2 : srcP ws_s2 = .bad := by kernel_rfl
theorem src_3 : srcP ws_s3 = .ok fs3 [[97], [98]] := by kernel_rfl
theorem src_5 : srcP ws_s5 = .ok fs5 [[97], [98]] := by kernel_rfl
theorem src_x1 : srcP ws_x1 = .wrong 0 := by kernel_rfl
theorem src_x2 : srcP ws_x2 = .wrong 0 := by kernel_rfl
theorem src_x3 : srcP ws_x3 = .wrong 1 := by kernel_rfl
theorem src_x4 : srcP ws_x4 = .wrong 1 := by kernel_rfl
theorem src_x5 : srcP ws_x5 = .wrong 0 := by kernel_rfl
theorem lex_s4 : toksL ⟨ws_s4.toArray⟩ = tk4 := by kernel_rfl
theorem ok_1 : okP fs1 = true := by kernel_rfl
theorem txt_1 : txP 0 tr1 = ws_t1 := by kernel_rfl
theorem trs_1 : Trs fs1 tr1 := .cons (.cons (x := ⟨4, 0, [1, 2]⟩) rfl (.cons (x := ⟨1, 5, []⟩) rfl .nil (.cons (x := ⟨6, 0, [3, 4]⟩) rfl (.cons (x := ⟨3, 0, []⟩) rfl .nil (.cons (x := ⟨1, 2, []⟩) rfl .nil .nil)) .nil)) .nil) .nil
theorem rn_1 : ∀ f ∈ fs1, ∀ x ∈ f.ns, Rn x.n := by
  intro f hf x hx
  simp only [fs1, List.mem_cons, List.not_mem_nil, or_false] at hf
  subst hf
  simp only [List.mem_cons, List.not_mem_nil, or_false] at hx
  rcases hx with rfl | rfl | rfl | rfl | rfl <;> exact ⟨by decide, by decide⟩
set_option maxHeartbeats 400000 in
theorem num_any (e : Int) (w : World) : Calls Tryz.prog 13 #[.int .i64 e] w fun r w' => r = .returned (.int .i64 e) ∧ w = w' := by
  go_enter Tryz.func13, Tryz.ntmps13
  go_wp2_with fail
  go_ret
  exact ⟨rfl, rfl⟩
/-- Parse at a text that is known. -/
theorem parseC (S : ByteArray) {r : RdR} (h : srcP S.data.toList = r) (hs : S.size ≤ 4000000) {n : Nat} {ln no : Int} (hn : r.fs.length = n) (hl : (r.ln : Int) = ln) (ho : (r.no : Int) = no) (w : World) (hE : EnvS w) :
    Calls Tryz.prog 15 #[.string S] w fun e w' => ∃ pa pc, e = .returned (.tuple #[.agg #[.slice pa n pc], .int .i64 ln, .int .i64 no]) ∧ Below w.heap.size w w' ∧ PAt (fun g => w.heap.size ≤ g ∧ g < w'.heap.size) w' r.fs pa pc := by
  have h1 := Parse_any S hs w hE.p (by have := hE.size; omega)
  rw [h] at h1
  refine h1.mono ?_
  rintro e w' ⟨hb, pa, pc, rfl, hP⟩
  unfold prV
  rw [hn, hl, ho]
  exact ⟨pa, pc, rfl, hb, hP⟩
set_option maxRecDepth 100000 in
set_option maxHeartbeats 1000000 in
theorem wrong_any (S : ByteArray) {n : Nat} (h : srcP S.data.toList = .wrong n) (hs : S.size ≤ 4000000) (w : World) (hE : EnvS w) : Calls Tryz.prog 23 #[.string S, .int .i64 (n : Nat)] w fun e w' => e = .returned (.bool true) ∧ Below w.heap.size w w' := by
  have hP := parseC S h hs (n := 0) (ln := (n : Nat)) (no := 90) rfl rfl rfl w hE
  have hN := num_any 90
  clear h
  go_enter Tryz.func23, Tryz.ntmps23
  go_wp2_with first
    | (go_at_call 15; refine hP.mono ?_; rintro e w1 ⟨pa, pc, rfl, hb1, -⟩)
    | (go_at_call 13; refine (hN _).mono ?_; rintro e w2 ⟨rfl, rfl⟩)
  go_ret
  exact ⟨by simp, hb1.trans ((below_new _ _).mono hb1.size)⟩
/-- Rows that were built. -/
theorem isI_blk {ok : Nat → Prop} {w : World} {g : Nat} {l : List Int} (h : Blk w g 3 (intsV l)) (hl : ∀ y ∈ l, Rng y) (ho : ok g) : IsI ok w l (some ⟨g, 0, none⟩) := fun j x hx =>
  ⟨g, 0, rfl, ho, by rw [Nat.zero_add]; exact h.c j (by simp [intsV, hx]), hl x (List.mem_of_getElem? hx)⟩
theorem isI_nil (ok : Nat → Prop) (w : World) (a : Option Addr) : IsI ok w [] a := fun j x hx => by simp at hx
theorem isNs_blk {ok : Nat → Prop} {w : World} {g : Nat} {ns : List NA} (h : Blk w g 59 (ns.flatMap NA.cs)) (hk : ∀ x ∈ ns, IsI ok w x.nd.l x.la ∧ x.nd.l.length ≤ x.lc ∧ x.lc ≤ maxLen ∧ Rng x.nd.op ∧ Rng x.nd.n) (ho : ok g) : IsNs ok w (ns.map NA.nd) (some ⟨g, 0, none⟩) := by
  intro j y hy
  rw [List.getElem?_map] at hy
  obtain ⟨x, hx, rfl⟩ := Option.map_eq_some_iff.1 hy
  obtain ⟨k1, k2, k3, k4, k5⟩ := hk x (List.mem_of_getElem? hx)
  refine ⟨g, 0, x.la, x.lc, rfl, ho, ?_, ?_, ?_, k2, k3, k1, k4, k5⟩
  · have := h.c (j * 3 + 0) (na_at hx (j := 0) (v := .int .i64 x.nd.op) rfl)
    simpa using this
  · have := h.c (j * 3 + 1) (na_at hx (j := 1) (v := .int .i64 x.nd.n) rfl)
    simpa using this
  · have := h.c (j * 3 + 2) (na_at hx (j := 2) (v := .slice x.la x.nd.l.length x.lc) rfl)
    simpa using this
theorem isFs_blk {ok : Nat → Prop} {w : World} {g : Nat} {fas : List FA} (h : Blk w g 46 (fas.flatMap FA.cs)) (hk : ∀ x ∈ fas, IsNs ok w (x.ns.map NA.nd) x.da ∧ x.ns.length ≤ x.dc ∧ x.dc ≤ maxLen ∧ x.ps ≤ 9) (ho : ok g) : IsFs ok w (fas.map FA.fn) (some ⟨g, 0, none⟩) := by
  intro j y hy
  rw [List.getElem?_map] at hy
  obtain ⟨x, hx, rfl⟩ := Option.map_eq_some_iff.1 hy
  obtain ⟨k1, k2, k3, k4⟩ := hk x (List.mem_of_getElem? hx)
  have hln : x.fn.ns.length = x.ns.length := by simp [FA.fn]
  refine ⟨g, 0, x.da, x.dc, rfl, ho, ?_, ?_, by rw [hln]; exact k2, k3, k1, ⟨by show (-9223372036854775808 : Int) ≤ (x.ps : Nat); omega, by show ((x.ps : Nat) : Int) ≤ 9223372036854775807; omega⟩⟩
  · have := h.c (j * 2 + 0) (fa_at hx (j := 0) (v := .int .i64 (x.ps : Nat)) rfl)
    simpa [FA.fn] using this
  · have := h.c (j * 2 + 1) (fa_at hx (j := 1) (v := .slice x.da x.ns.length x.dc) rfl)
    rw [hln]
    simpa using this
end Go.Proofs.YtjendlnicbieoaaGreatDoor
/-
  Layer 9's statements: works.
-/
namespace Go.Proofs.YtjendlnicbieoaaGreatDoor
open Go.RowKit Go.Sort
attribute [local go_sem] Oper.semAt_some

def wantW (w : World) : World := ((((w.alloc (.cells #[.int .i64 1, .int .i64 2] 3)).alloc (.cells #[.int .i64 3, .int .i64 4] 3)).alloc
  (.cells #[.int .i64 4, .int .i64 0, .slice (some ⟨w.heap.size, 0, none⟩) 2 2, .int .i64 1, .int .i64 5, .slice none 0 0, .int .i64 6, .int .i64 0, .slice (some ⟨w.heap.size + 1, 0, none⟩) 2 2, .int .i64 3, .int .i64 0, .slice none 0 0, .int .i64 1, .int .i64 2, .slice none 0 0] 59)).alloc
  (.cells #[.int .i64 0, .slice (some ⟨w.heap.size + 1 + 1, 0, none⟩) 5 5] 46)).alloc (.cells #[.slice (some ⟨w.heap.size + 1 + 1 + 1, 0, none⟩) 1 1] 24)
theorem want_at (w : World) : Below w.heap.size w (wantW w) ∧ Blk (wantW w) (w.heap.size + 1 + 1 + 1 + 1) 24 [.slice (some ⟨w.heap.size + 1 + 1 + 1, 0, none⟩) 1 1] ∧ PAt (fun g => w.heap.size ≤ g ∧ g < (wantW w).heap.size) (wantW w) fs1 (some ⟨w.heap.size + 1 + 1 + 1, 0, none⟩) 1 := by
  have hz : (wantW w).heap.size = w.heap.size + 1 + 1 + 1 + 1 + 1 := by simp [wantW]
  have b1 := below_new w (.cells #[.int .i64 1, .int .i64 2] 3)
  have b2 := b1.alloc b1.size (.cells #[.int .i64 3, .int .i64 4] 3)
  have b3 := b2.alloc b2.size (.cells #[.int .i64 4, .int .i64 0, .slice (some ⟨w.heap.size, 0, none⟩) 2 2, .int .i64 1, .int .i64 5, .slice none 0 0, .int .i64 6, .int .i64 0, .slice (some ⟨w.heap.size + 1, 0, none⟩) 2 2, .int .i64 3, .int .i64 0, .slice none 0 0, .int .i64 1, .int .i64 2, .slice none 0 0] 59)
  have b4 := b3.alloc b3.size (.cells #[.int .i64 0, .slice (some ⟨w.heap.size + 1 + 1, 0, none⟩) 5 5] 46)
  have b5 := b4.alloc b4.size (.cells #[.slice (some ⟨w.heap.size + 1 + 1 + 1, 0, none⟩) 1 1] 24)
  have k1 : Blk (wantW w) w.heap.size 3 (intsV [1, 2]) := ((((Blk.new w 3 [.int .i64 1, .int .i64 2]).alloc _).alloc _).alloc _).alloc _
  have k2 : Blk (wantW w) (w.heap.size + 1) 3 (intsV [3, 4]) := by
    have := Blk.new (w.alloc (.cells #[.int .i64 1, .int .i64 2] 3)) 3 [.int .i64 3, .int .i64 4]
    simp only [World.size_alloc] at this
    exact ((this.alloc _).alloc _).alloc _
  have k3 : Blk (wantW w) (w.heap.size + 1 + 1) 59 (List.flatMap NA.cs [⟨⟨4, 0, [1, 2]⟩, some ⟨w.heap.size, 0, none⟩, 2⟩, ⟨⟨1, 5, []⟩, none, 0⟩, ⟨⟨6, 0, [3, 4]⟩, some ⟨w.heap.size + 1, 0, none⟩, 2⟩, ⟨⟨3, 0, []⟩, none, 0⟩, ⟨⟨1, 2, []⟩, none, 0⟩]) := by
    have := Blk.new ((w.alloc (.cells #[.int .i64 1, .int .i64 2] 3)).alloc (.cells #[.int .i64 3, .int .i64 4] 3)) 59 [.int .i64 4, .int .i64 0, .slice (some ⟨w.heap.size, 0, none⟩) 2 2, .int .i64 1, .int .i64 5, .slice none 0 0, .int .i64 6, .int .i64 0, .slice (some ⟨w.heap.size + 1, 0, none⟩) 2 2, .int .i64 3, .int .i64 0, .slice none 0 0, .int .i64 1, .int .i64 2, .slice none 0 0]
    simp only [World.size_alloc] at this
    exact (this.alloc _).alloc _
  have k4 : Blk (wantW w) (w.heap.size + 1 + 1 + 1) 46 (List.flatMap FA.cs [⟨0, [⟨⟨4, 0, [1, 2]⟩, some ⟨w.heap.size, 0, none⟩, 2⟩, ⟨⟨1, 5, []⟩, none, 0⟩, ⟨⟨6, 0, [3, 4]⟩, some ⟨w.heap.size + 1, 0, none⟩, 2⟩, ⟨⟨3, 0, []⟩, none, 0⟩, ⟨⟨1, 2, []⟩, none, 0⟩], some ⟨w.heap.size + 1 + 1, 0, none⟩, 5⟩]) := by
    have := Blk.new (((w.alloc (.cells #[.int .i64 1, .int .i64 2] 3)).alloc (.cells #[.int .i64 3, .int .i64 4] 3)).alloc (.cells #[.int .i64 4, .int .i64 0, .slice (some ⟨w.heap.size, 0, none⟩) 2 2, .int .i64 1, .int .i64 5, .slice none 0 0, .int .i64 6, .int .i64 0, .slice (some ⟨w.heap.size + 1, 0, none⟩) 2 2, .int .i64 3, .int .i64 0, .slice none 0 0, .int .i64 1, .int .i64 2, .slice none 0 0] 59)) 46 [.int .i64 0, .slice (some ⟨w.heap.size + 1 + 1, 0, none⟩) 5 5]
    simp only [World.size_alloc] at this
    exact this.alloc _
  have k5 : Blk (wantW w) (w.heap.size + 1 + 1 + 1 + 1) 24 [.slice (some ⟨w.heap.size + 1 + 1 + 1, 0, none⟩) 1 1] := by
    have := Blk.new ((((w.alloc (.cells #[.int .i64 1, .int .i64 2] 3)).alloc (.cells #[.int .i64 3, .int .i64 4] 3)).alloc (.cells #[.int .i64 4, .int .i64 0, .slice (some ⟨w.heap.size, 0, none⟩) 2 2, .int .i64 1, .int .i64 5, .slice none 0 0, .int .i64 6, .int .i64 0, .slice (some ⟨w.heap.size + 1, 0, none⟩) 2 2, .int .i64 3, .int .i64 0, .slice none 0 0, .int .i64 1, .int .i64 2, .slice none 0 0] 59)).alloc (.cells #[.int .i64 0, .slice (some ⟨w.heap.size + 1 + 1, 0, none⟩) 5 5] 46)) 24 [.slice (some ⟨w.heap.size + 1 + 1 + 1, 0, none⟩) 1 1]
    simp only [World.size_alloc] at this
    exact this
  refine ⟨b5, k5, ⟨?_, by decide, by unfold maxLen; decide⟩⟩
  have r12 : ∀ y ∈ ([1, 2] : List Int), Rng y := by intro y hy; simp only [List.mem_cons, List.not_mem_nil, or_false] at hy; rcases hy with rfl | rfl <;> exact ⟨by decide, by decide⟩
  have r34 : ∀ y ∈ ([3, 4] : List Int), Rng y := by intro y hy; simp only [List.mem_cons, List.not_mem_nil, or_false] at hy; rcases hy with rfl | rfl <;> exact ⟨by decide, by decide⟩
  have hR : ∀ n : Int, 0 ≤ n → n ≤ 10 → Rng n := fun n h1 h2 => ⟨by omega, by omega⟩
  have hM : ∀ n : Nat, n ≤ 10 → n ≤ maxLen := fun n h => by unfold maxLen; omega
  refine isFs_blk k4 (fun x hx => ?_) ⟨by omega, by omega⟩
  rw [List.mem_singleton.1 hx]
  refine ⟨isNs_blk k3 (fun y hy => ?_) ⟨by omega, by omega⟩, by simp, hM 5 (by omega), by simp⟩
  simp only [List.mem_cons, List.not_mem_nil, or_false] at hy
  rcases hy with rfl | rfl | rfl | rfl | rfl
  · exact ⟨isI_blk k1 r12 ⟨by omega, by omega⟩, by simp, hM 2 (by omega), hR 4 (by omega) (by omega), hR 0 (by omega) (by omega)⟩
  · exact ⟨isI_nil _ _ _, by simp, hM 0 (by omega), hR 1 (by omega) (by omega), hR 5 (by omega) (by omega)⟩
  · exact ⟨isI_blk k2 r34 ⟨by omega, by omega⟩, by simp, hM 2 (by omega), hR 6 (by omega) (by omega), hR 0 (by omega) (by omega)⟩
  · exact ⟨isI_nil _ _ _, by simp, hM 0 (by omega), hR 3 (by omega) (by omega), hR 0 (by omega) (by omega)⟩
  · exact ⟨isI_nil _ _ _, by simp, hM 0 (by omega), hR 1 (by omega) (by omega), hR 2 (by omega) (by omega)⟩
theorem PAt.to_ {B : Nat} {w w' : World} {p : List Fn} {pa : Option Addr} {cap : Nat} (h : PAt (fun g => B ≤ g ∧ g < w.heap.size) w p pa cap) (hb : Below w.heap.size w w') : PAt (fun g => B ≤ g ∧ g < w'.heap.size) w' p pa cap :=
  ⟨(h.fs.keep fun g hg o => hb.cell (p := ⟨g, o, none⟩) hg.2).more fun _ hg => ⟨hg.1, Nat.lt_of_lt_of_le hg.2 hb.size⟩, h.le, h.cap⟩
theorem PAt.all {B : Nat} {w : World} {p : List Fn} {pa : Option Addr} {cap : Nat} (h : PAt (fun g => B ≤ g ∧ g < w.heap.size) w p pa cap) : PAt (· < w.heap.size) w p pa cap := ⟨h.fs.more fun _ hg => hg.2, h.le, h.cap⟩
theorem tk4_cut {pre r : List Tk} {x : Tk} (h : tk4 = pre ++ x :: r) : (pre.length = 0 ∧ encT x = #[.int .i64 0, .string ⟨#[108, 101, 116]⟩]) ∨ (pre.length = 1 ∧ encT x = #[.int .i64 0, .string ⟨#[120, 49]⟩]) ∨ (pre.length = 2 ∧ encT x = #[.int .i64 1, .string ⟨#[61]⟩]) ∨ (pre.length = 3 ∧ encT x = #[.int .i64 1, .string ⟨#[45, 53]⟩]) := by
  rcases pre with _ | ⟨a, _ | ⟨b, _ | ⟨c, _ | ⟨d, pre⟩⟩⟩⟩ <;> simp [tk4] at h
  · exact .inl ⟨rfl, by rw [← h.1]; rfl⟩
  · exact .inr (.inl ⟨rfl, by rw [← h.2.1]; rfl⟩)
  · exact .inr (.inr (.inl ⟨rfl, by rw [← h.2.2.1]; rfl⟩))
  · exact .inr (.inr (.inr ⟨rfl, by rw [← h.2.2.2.1]; rfl⟩))
def wrB (S : ByteArray) (n : Int) : Bool := (match srcP S.data.toList with
  | .wrong k => decide ((k : Int) = n)
  | _ => false) && decide (S.size ≤ 4000000)
theorem wrong_gen (S : ByteArray) (n : Int) (h : wrB S n = true) (w : World) (hE : EnvS w) : Calls Tryz.prog 23 #[.string S, .int .i64 n] w fun e w' => e = .returned (.bool true) ∧ Below w.heap.size w w' := by
  unfold wrB at h
  rw [Bool.and_eq_true, decide_eq_true_eq] at h
  obtain ⟨h1, h2⟩ := h
  split at h1
  · rename_i k hk
    rw [← of_decide_eq_true h1]
    exact wrong_any S hk h2 w hE
  · cases h1
theorem fnilT (b : Nat) (w : World) : (binOp .eql 54 (.func (.func 47) #[] #[.pointer (some ⟨b, 0, none⟩)]) Value.nilFunc).run Tryz.prog w = .ok (.bool false) w := by kernel_rfl
set_option maxRecDepth 100000 in
set_option maxHeartbeats 8000000 in
theorem works_any (w : World) (hE : EnvS w) : Calls Tryz.prog 8 #[] w fun e w' => e = .returned (.bool true) ∧ Below w.heap.size w w' := by
  have hr0 := Blk.new w 4 [.bool false]
  have hw0 := below_new w (.cells #[.bool false] 4)
  have hE0 := hE.belowAll hw0
  have hP1 := parseC ⟨ws_s1.toArray⟩ src_1 (by decide) (n := 1) (ln := 0) (no := 0) rfl rfl rfl _ hE0
  refine callsIn_wide.1 (callsIn_of_wp_marks (n := 4) Tryz.func8 rfl trivial ?_ rfl)
  simp only [Tryz.ntmps8, List.size_toArray, List.length_nil, Nat.reduceSub, Array.replicate_succ, Array.replicate_zero, List.push_toArray, List.append_toArray, List.nil_append, List.cons_append]
  refine wpIn_wide.2 ?_
  unfold ws_s1 at hP1
  go_upto_region 2 with (go_at_call 15; refine hP1.mono ?_; rintro e w1 ⟨pa1, pc1, rfl, hb1, hA1⟩)
  have hbA := below_new w1 (.cells #[.slice pa1 1 pc1] 24)
  have hbpA := Blk.new w1 24 [.slice pa1 1 pc1]
  have hrA := (hr0.belowAll hb1).belowAll hbA
  have hwA := (hw0.trans (hb1.mono hw0.size)).trans (hbA.mono (by have := hb1.size; have := hw0.size; omega))
  have hA1A := hA1.to_ hbA
  have hzA : w1.heap.size < (w1.alloc (.cells #[.slice pa1 1 pc1] 24)).heap.size := by simp
  have hz1 : w.heap.size + 1 ≤ w1.heap.size := by have := hb1.size; simpa using this
  clear hP1 hr0 hw0 hE0
  generalize w1.alloc (.cells #[.slice pa1 1 pc1] 24) = wA at *
  clear hbA hb1 hA1
  generalize w1.heap.size = bp at *
  obtain ⟨hbB, hbpB, hPB⟩ := want_at wA
  go_upto_region 3 with fail
  unfold wantW at hbB hbpB hPB
  have hrB := hrA.belowAll hbB
  have hbpAB := hbpA.belowAll hbB
  have hwB := hwA.trans (hbB.mono hwA.size)
  have hA1B := hA1A.to_ hbB
  clear hrA hbpA hwA hA1A hbB
  generalize hWB : (World.alloc _ (.cells #[.slice (some ⟨wA.heap.size + 1 + 1 + 1, 0, none⟩) 1 1] 24)) = wB at *
  clear hWB
  generalize wA.heap.size = nA at *
-- TEXT
  have hEB := hE.belowAll hwB
  have hT : Calls Tryz.prog 9 #[.agg #[.slice pa1 1 pc1]] wB (TxtE ws_t1 0 wB) := by
    have := Text_yes fs1 ok_1 rn_1 tr1 trs_1 pa1 pc1 wB hA1B.all hEB
    rw [txt_1] at this
    exact this
  unfold TxtE at hT
  have c1 := hbpAB.c 0 rfl
  go_upto_region 4 with (go_at_call 9; refine hT.mono ?_; rintro e wC ⟨rfl, hbC⟩)
  have hEC := hEB.belowAll hbC
  have hrC := hrB.belowAll hbC
  have hbpC := hbpAB.belowAll hbC
  have hwC := hwB.trans (hbC.mono hwB.size)
  have hA1C := hA1B.to_ hbC
  have hwantC := hbpB.belowAll hbC
  have hPC := hPB.to_ hbC
  clear hEB hT c1 hrB hbpAB hwB hA1B hbpB hPB hbC
-- PARSE 2
  have hP2 := parseC ⟨ws_s2.toArray⟩ src_2 (by decide) (n := 0) (ln := 0) (no := 70) rfl rfl rfl _ hEC
  unfold ws_s2 at hP2
  go_upto_region 5 with (go_at_call 15; refine hP2.mono ?_; rintro e wD ⟨pa2, pc2, rfl, hbD, -⟩)
  have hbD2 := hbD.trans ((below_new wD (.cells #[.slice pa2 0 pc2] 24)).mono hbD.size)
  clear hbD hP2
  generalize wD.alloc (.cells #[.slice pa2 0 pc2] 24) = wE at *
  generalize wD.heap.size = bn at *
  have hEE := hEC.belowAll hbD2
  have hrE := hrC.belowAll hbD2
  have hbpE := hbpC.belowAll hbD2
  have hwE := hwC.trans (hbD2.mono hwC.size)
  have hA1E := hA1C.to_ hbD2
  have hwantE := hwantC.belowAll hbD2
  have hPE := hPC.to_ hbD2
  clear hEC hrC hbpC hwC hA1C hwantC hPC hbD2
-- PARSE 3
  have hP3 := parseC ⟨ws_s3.toArray⟩ src_3 (by decide) (n := 2) (ln := 0) (no := 0) rfl rfl rfl _ hEE
  unfold ws_s3 at hP3
  go_upto_region 6 with (go_at_call 15; refine hP3.mono ?_; rintro e wF ⟨pa3, pc3, rfl, hbF, hA3⟩)
  have hbF2 := hbF.trans ((below_new wF (.cells #[.slice pa3 2 pc3] 24)).mono hbF.size)
  have hqG := Blk.new wF 24 [.slice pa3 2 pc3]
  have hA3G := hA3.to_ (below_new wF (.cells #[.slice pa3 2 pc3] 24))
  clear hbF hA3 hP3
  generalize wF.alloc (.cells #[.slice pa3 2 pc3] 24) = wG at *
  generalize wF.heap.size = bq at *
  have hEG := hEE.belowAll hbF2
  have hrG := hrE.belowAll hbF2
  have hbpG := hbpE.belowAll hbF2
  have hwG := hwE.trans (hbF2.mono hwE.size)
  have hA1G := hA1E.to_ hbF2
  have hwantG := hwantE.belowAll hbF2
  have hPG := hPE.to_ hbF2
  have hf3 : IsFs (· < wG.heap.size) wG fs3 pa3 := hA3G.all.fs
  clear hEE hrE hbpE hwE hA1E hwantE hPE hbF2 hA3G
-- BIG
  have hSm : Calls Tryz.prog 14 #[.agg #[.slice pa1 1 pc1], .agg #[.slice (some ⟨nA + 1 + 1 + 1, 0, none⟩) 1 1]] wG fun e w' => e = .returned (.bool true) ∧ Below wG.heap.size wG w' :=
    rsame_self fs1 (by intro f hf; rw [List.mem_singleton.1 hf]; decide) (by decide) pa1 (some ⟨nA + 1 + 1 + 1, 0, none⟩) pc1 1 wG hA1G.all hPG.all
  have c1 := hbpG.c 0 rfl
  have c2 := hwantG.c 0 rfl
  clear hA1G hPG
  have hN := num_any
  go_upto_region 8 with first
    | (go_at_call 13; refine (hN _ _).mono ?_; rintro e w2 ⟨rfl, rfl⟩)
    | (go_at_call 14; refine hSm.mono ?_; rintro e wH ⟨rfl, hbH⟩; obtain ⟨g3, o3, na3, nc3, rfl, hg3, -, k3, hk1, hk2, hk3, -⟩ := hf3.cells hbH (j := 1) rfl; obtain ⟨g4, o4, la4, lc4, rfl, hg4, -, k4, -⟩ := hk3.cells (Below.refl _ _) (j := 2) rfl; have c3 := (hqG.belowAll hbH).c 0 rfl)
  clear hN hSm c1 c2 c3 k4 hk3 k3 hk1 hk2 hf3 hg3 hg4 hqG hwantG hbpG
  have hEH := hEG.belowAll hbH
  have hrH := hrG.belowAll hbH
  have hwH := hwG.trans (hbH.mono hwG.size)
  have hzH : w.heap.size < wH.heap.size := hrH.lt
  clear hEG hrG hwG hbH
-- TOKENS
  have hTk := Tokens_any ⟨ws_s4.toArray⟩ wH
  unfold ws_s4 at hTk
  go_upto_region 9 with (go_at_call 20; refine hTk.mono ?_; rintro e wI ⟨rfl, hbI, hsb⟩)
  clear hTk
  have hEI := hEH.belowAll hbI
  have hrI := hrH.belowAll hbI
  have hwI := hwH.trans (hbI.mono hwH.size)
  have hzI : wH.heap.size < wI.heap.size := hsb.lt
  clear hEH hrH hwH hbI
  generalize wH.heap.size = sb at *
  have hnf := fnilT
  go_upto_region 11 with fail
  clear hnf
-- ROW
  have hrow := (((Blk.new wI 9 [.string ⟨#[108, 101, 116]⟩, .string ⟨#[120, 49]⟩, .string ⟨#[61]⟩, .string ⟨#[45, 53]⟩]).alloc (.cells #[.slice (some ⟨wI.heap.size, 0, none⟩) 4 4] 60)).alloc (.cells #[.int .i64 0] 3))
  have hsl := ((Blk.new (wI.alloc (.cells #[.string ⟨#[108, 101, 116]⟩, .string ⟨#[120, 49]⟩, .string ⟨#[61]⟩, .string ⟨#[45, 53]⟩] 9)) 60 [.slice (some ⟨wI.heap.size, 0, none⟩) 4 4]).alloc (.cells #[.int .i64 0] 3))
  have hkk := Blk.new ((wI.alloc (.cells #[.string ⟨#[108, 101, 116]⟩, .string ⟨#[120, 49]⟩, .string ⟨#[61]⟩, .string ⟨#[45, 53]⟩] 9)).alloc (.cells #[.slice (some ⟨wI.heap.size, 0, none⟩) 4 4] 60)) 3 [.int .i64 0]
  have hbK : Below wI.heap.size wI (((wI.alloc (.cells #[.string ⟨#[108, 101, 116]⟩, .string ⟨#[120, 49]⟩, .string ⟨#[61]⟩, .string ⟨#[45, 53]⟩] 9)).alloc (.cells #[.slice (some ⟨wI.heap.size, 0, none⟩) 4 4] 60)).alloc (.cells #[.int .i64 0] 3)) := ((below_new _ _).alloc (by simp) _).alloc (by simp; omega) _
  simp only [World.size_alloc] at hsl hkk
  go_wp2_with fail
  have hrK := hrI.belowAll hbK
  have hsbK := hsb.belowAll hbK
  have hwK := hwI.trans (hbK.mono hwI.size)
  have hzK : wI.heap.size + 1 + 1 < (((wI.alloc (.cells #[.string ⟨#[108, 101, 116]⟩, .string ⟨#[120, 49]⟩, .string ⟨#[61]⟩, .string ⟨#[45, 53]⟩] 9)).alloc (.cells #[.slice (some ⟨wI.heap.size, 0, none⟩) 4 4] 60)).alloc (.cells #[.int .i64 0] 3)).heap.size := hkk.lt
  have hEK := hE.below hwK hE.size
  have hE5 := hE.size
  clear hEI hrI hsb hwI hbK
  generalize ((wI.alloc (.cells #[.string ⟨#[108, 101, 116]⟩, .string ⟨#[120, 49]⟩, .string ⟨#[61]⟩, .string ⟨#[45, 53]⟩] 9)).alloc (.cells #[.slice (some ⟨wI.heap.size, 0, none⟩) 4 4] 60)).alloc (.cells #[.int .i64 0] 3) = wK at *
  generalize wI.heap.size = rb at *
  have HW : Hid (∀ W, Fr (fun g => g = rb + 1 + 1 ∨ wK.heap.size ≤ g) wK W → Below w.heap.size w W) := fun W hf => hwK.trans (hf.toBelow w.heap.size (fun k hk => by omega) hwK.size)
  have HE := Lib.hid hE
  clear hEK hwK
  refine wpIn_wide.1 (wp_rangeP (n := 4) (gf := 47) (lb := #[.pointer (some ⟨sb, 0, none⟩)]) rfl (enters_of Tryz.func47 (by kernel_rfl) rfl) (tokens_iter _ ⟨ws_s4.toArray⟩ (by decide) sb wK (by show 3 < _; omega)) (fun _ => rfl)
    (fun pre W => Fr (fun g => g = rb + 1 + 1 ∨ wK.heap.size ≤ g) wK W ∧ Blk W (rb + 1 + 1) 3 [.int .i64 (pre.length : Nat)])
    (fun _ _ _ => False) ?_ ?_ ?_ ?_ ?_ ?_ ?_)
  · rintro pre W W' ⟨h1, h2⟩ hg
    exact ⟨h1.same (hg.more fun k _ e => .inr e), h2.fr hg (by omega)⟩
  · rintro c pre W W' h0 hg
    exact h0.elim
  · rintro pre W ⟨h1, h2⟩
    exact ⟨hsbK.fr h1 (by omega), (HE.out.below (HW.out W h1) HE.out.size).p⟩
  · intro W hg
    exact ⟨Fr.grown hg (fun g hg => by cases hg), hkk.fr (S := fun _ => False) (Fr.grown hg (fun g hg => by cases hg)) (fun h => h)⟩
  · rintro pre x W ⟨hf, hk⟩ hG hWl
    unfold GL at hG
    rw [lex_s4] at hG
    obtain ⟨r, hr⟩ := hG
    have HK := Lib.hid (tk4_cut hr)
    clear hr
    have hq : (pre ++ [x]).length = pre.length + 1 := by simp
    have HQ := Lib.hid hq
    rcases HK.out with ⟨h1, h2⟩ | ⟨h1, h2⟩ | ⟨h1, h2⟩ | ⟨h1, h2⟩
    all_goals
      rw [h1] at hk
      have H1 := Lib.hid h1
      rw [h2]
      clear h1 h2 hq HK
      gi_wp2
      refine ⟨World.grownBy.refl _ _, ?_⟩
      intro w3 hg3 hl3 hr3'
      have hf3 : Fr (fun g => g = rb + 1 + 1 ∨ wK.heap.size ≤ g) wK w3 := hf.same (Fr.grown hg3 (fun g hg => by injection hg with hg; exact .inl (.inr (by omega))))
      have hk3 := hk.fr (S := fun k => k = wK.heap.size + 1) (Fr.grown hg3 (fun g hg => by injection hg with hg; exact .inl hg.symm)) (by omega)
      have r0 := (hrow.fr hf3 (by omega)).c 0 rfl
      have r1 := (hrow.fr hf3 (by omega)).c 1 rfl
      have r2 := (hrow.fr hf3 (by omega)).c 2 rfl
      have r3 := (hrow.fr hf3 (by omega)).c 3 rfl
      have s0 := (hsl.fr hf3 (by omega)).c 0 rfl
      have k0 := hk3.c 0 rfl
      have k1 := hk3.fz 0
      have hz3 := hf3.size
      clear hr3' hg3 hf hk hWl
      gi_wp2
      refine ⟨?_, ?_, ?_⟩
      · exact Fr.set (.inl (by dsimp only; omega))
      · exact hf3.same (Fr.set (.inl (.inl rfl)))
      · rw [HQ.out, H1.out]
        exact hk3.set 0 _
-- DONE
  · rintro xs W hS ⟨hf, hk⟩ hD
    unfold SL at hS
    rw [lex_s4] at hS
    rw [hS] at hk
    have hk4 : Blk W (rb + 1 + 1) 3 [.int .i64 4] := hk
    have hrW := hrK.fr hf (by omega)
    have hbW := HW.out W hf
    have hEW := HE.out.below hbW HE.out.size
    have hdl : wK.heap.size < W.heap.size := lt_of_heap hD
    have hzW := hf.size
    clear hS hk hf HW hsbK hrow hsl hkk hrK
    generalize wK.heap.size = db at *
    have hN5 : Calls Tryz.prog 22 #[.string ⟨ws_s5.toArray⟩] W fun e w' => Below W.heap.size W w' ∧ ∃ na nc, e = .returned (.tuple #[.slice na 2 nc, .int .i64 0]) ∧ (∃ g o, na = some ⟨g, o, none⟩ ∧ g < w'.heap.size ∧ w'.cell? ⟨g, o, none⟩ = some (.string ⟨#[97]⟩) ∧ w'.cell? ⟨g, o + 1, none⟩ = some (.string ⟨#[98]⟩)) := by
      have := Names_any ⟨ws_s5.toArray⟩ (by decide) W hEW.p (by show 3 < _; have := hEW.size; omega)
      rw [src_5] at this
      refine this.mono ?_
      rintro e w' ⟨hb, na, nc, rfl, -, -, hs⟩
      refine ⟨hb, na, nc, rfl, ?_⟩
      obtain ⟨g, o, rfl, hg, h1⟩ := hs 0 [97] rfl
      obtain ⟨g', o', e2, -, h2⟩ := hs 1 [98] rfl
      injection e2 with e2
      injection e2 with e3 e4
      subst e3
      subst e4
      exact ⟨g, o, rfl, hg.2, h1, h2⟩
    unfold ws_s5 at hN5
    have hN := num_any
    go_wp2_with first
      | (go_at_call 22; refine hN5.mono ?_; rintro e wL ⟨hbL, na, nc, rfl, g, o, rfl, hg, n0, n1⟩; have hEL := hEW.belowAll hbL; have hk0 := (hk4.belowAll hbL).c 0 rfl)
      | (go_at_call 13; refine (hN _ _).mono ?_; rintro e w2 ⟨rfl, rfl⟩)
      | (go_at_call 23; refine (wrong_gen _ _ (by kernel_rfl) _ (by assumption)).mono ?_; rintro e wn ⟨rfl, hbn⟩; have hEn := EnvS.belowAll (by assumption) hbn; have hbq := Below.trans (by assumption : Below W.heap.size W _) (hbn.mono (Below.size (by assumption : Below W.heap.size W _))); have hrq := hrW.belowAll hbq; have hr0 := hrq.c 0 rfl; have hr1 := hrq.fz 0)
    have hlw := hrW.lt
    have hD9 : (wn.setCell ⟨w.heap.size, 0, none⟩ (.bool true)).heap[db]? = some (.deferred (some [])) := ((Below.heap_setCell _ _ _ _ (by dsimp only; have := HE.out.size; omega)).trans (hbq.block _ hdl)).trans hD
    have hrz := hrq.set 0 (.bool true)
    have hb9 := (hbW.trans (hbq.mono hbW.size)).setCell (p := ⟨w.heap.size, 0, none⟩) (Nat.le_refl _) (.bool true)
    generalize wn.setCell ⟨w.heap.size, 0, none⟩ (.bool true) = W9 at *
    have ha9 := hrz.far2 (k := db) (o := .deferred none) (by omega)
    refine ⟨by simp, .inl ⟨_, _, rfl, run_takeDeferred hD9, ?_⟩⟩
    exact ⟨.bool true, by simp [results, Tryz.results8, go_sem, ha9.c 0 rfl], rfl, ⟨hb9.os, hb9.tape, hb9.output, by simpa using hb9.size, fun j hj => (World.putObj_heap_other (by omega)).trans (hb9.block j hj)⟩⟩
  · rintro c pre W hSp h0 hD
    exact h0.elim
end Go.Proofs.YtjendlnicbieoaaGreatDoor
