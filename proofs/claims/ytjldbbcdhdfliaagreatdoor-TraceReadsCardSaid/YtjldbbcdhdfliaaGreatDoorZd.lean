/-
  Layer 23: the statement TraceReads, walked.
-/
import Derived.Test.YtjldbbcdhdfliaaGreatDoorZc
import Derived.Test.YtjldbbcdhdfliaaGreatDoorUg
import Derived.Test.YtjldbbcdhdfliaaGreatDoorUcUh
import Derived.Deep.OwnRows
import Derived.Laws.BytesArg
namespace Go.Proofs.YtjldbbcdhdfliaaGreatDoor
open Go.RowKit Go.Shelf Go.Sort

theorem byte_info : (Tryz.prog.info? 5).map (fun i => (i.zero, i.size, i.bytes)) = some (some (.int .u8 0), 1, 1) := by kernel_rfl
/-- A row of many zero bytes, and the text of these. -/
theorem long_str : ∃ (O : Obj) (S : ByteArray), S.size = 4194305 ∧ (∀ w : World, (Instr.makeSlice 55 (.int .i64 4194305) (.int .i64 4194305)).run Tryz.prog w = .ok (.slice (some ⟨w.heap.size, 0, none⟩) 4194305 4194305) (w.alloc O)) ∧
    (∀ w : World, (convert 55 9 (.slice (some ⟨w.heap.size, 0, none⟩) 4194305 4194305)).run Tryz.prog (w.alloc O) = .ok (.string S) (w.alloc O)) := by
  obtain ⟨n, hn⟩ : ∃ n : Nat, n = 4194305 := ⟨_, rfl⟩
  have h1 : (4194305 : Int) = ((n : Nat) : Int) := by rw [hn]; rfl
  rw [h1, ← hn]
  refine ⟨.cells (madeCells #[.int .u8 0] n) 5, strOfNums (List.replicate n 0), by rw [strOfNums_size, List.length_replicate], fun w => ?_, fun w => ?_⟩
  · exact run_make_row' 55 5 (.int .u8 0) 1 Tryz.underlying55 byte_info rfl .i64 .i64 n (by omega) (by omega) w
  · refine run_convert_bytes_arg _ 55 5 Tryz.underlying55 Tryz.underlying5 w.heap.size 0 n n (List.replicate n 0) (List.length_replicate) (fun i hi => ?_) 9 Tryz.underlying9
    have hb := heap_alloc_new w (.cells (madeCells #[.int .u8 0] n) 5)
    simp only [World.cell?, hb]
    have e : (List.replicate n (0 : Int)).getD i 0 = 0 := by simp [List.getD, hi]
    rw [e]
    simp [madeCells, hi, Nat.mod_one]
set_option maxRecDepth 100000 in
set_option maxHeartbeats 1000000 in
theorem Decode_long (a : Option Addr) (cap : Nat) (w : World) : Calls Tryz.prog 22 #[.slice a 4194305 cap] w fun e w' => e = .returned (.tuple #[.slice none 0 0, .int .i64 3]) ∧ Below w.heap.size w w' := by
  go_enter_defers Tryz.func22, Tryz.ntmps22
  go_wp2_with fail
  have c0 := ((B1.new w 38 (.slice none 0 0)).alloc (.cells #[.int .i64 3] 30)).c
  have s1 : (w.alloc (.cells #[.slice none 0 0] 38)).heap.size = w.heap.size + 1 := by simp
  have c1 := (B1.new (w.alloc (.cells #[.slice none 0 0] 38)) 30 (.int .i64 3)).c
  rw [s1] at c1
  exact ⟨.tuple #[.slice none 0 0, .int .i64 3], by simp [results, Tryz.results22, go_sem, c0, c1], rfl, (below_alloc _ _).alloc (by simp) _⟩
/-- What Read hands back: the events, the line, the error. -/
def resL (r : Except Nat (List Ev)) : List Ev × Nat × Nat := match r with
  | .ok l => (l, 0, 0)
  | .error j => ([], j, 230)
theorem rd_out {r : Except Nat (List Ev)} {l : List Ev} {j er : Nat} (h : resL r = (l, j, er)) {w w' : World} {e : Ending} (he : RdEnds r w e w') : ∃ (a : Option Addr) (cap : Nat), e = .returned (.tuple #[.slice a l.length cap, .int .i64 (j : Int), .int .i64 (er : Int)]) ∧
    IsEs (· < w'.heap.size) w' l a ∧ Below w.heap.size w w' := by
  cases r with
  | error i =>
    injection h with h1 h2
    injection h2 with h2 h3
    subst h1 h2 h3
    obtain ⟨rfl, hb⟩ := he
    exact ⟨none, 0, rfl, fun j x hx => by simp at hx, hb⟩
  | ok t =>
    injection h with h1 h2
    injection h2 with h2 h3
    subst h1 h2 h3
    obtain ⟨⟨a, cap, rfl, _, _, hi⟩, hb⟩ := he
    exact ⟨a, cap, rfl, hi.more fun g hg => hg.2, hb⟩
theorem readL_props : ∀ (L : List ByteArray) (done l : List Ev), readL done L = .ok l → (∀ x ∈ done, nd x.v ≤ 256) → (∀ x ∈ l, nd x.v ≤ 256) ∧ l.length ≤ done.length + L.length
  | [], done, l, h, hd => by
    rw [readL] at h
    injection h with h
    rw [← h]
    exact ⟨hd, by simp⟩
  | p :: r, done, l, h, hd => by
    rw [readL] at h
    rcases hp : parseE p with _ | x
    · rw [hp] at h
      cases h
    · rw [hp] at h
      dsimp only at h
      split at h
      · cases h
      · obtain ⟨h1, h2⟩ := readL_props r _ l h (fun y hy => by
          rcases List.mem_append.1 hy with hy | hy
          · exact hd y hy
          · have := List.mem_singleton.1 hy
            rw [this]
            exact parseE_nd hp)
        refine ⟨h1, ?_⟩
        simp at h2 ⊢
        omega
theorem resL_props {s : ByteArray} {l : List Ev} {j er : Nat} (h : resL (readE s) = (l, j, er)) : (∀ x ∈ l, nd x.v ≤ 256) ∧ l.length ≤ s.size := by
  rcases hp : readE s with i | t
  · rw [hp] at h
    injection h with h1
    rw [← h1]
    exact ⟨fun x hx => by simp at hx, by simp⟩
  · rw [hp] at h
    injection h with h1
    subst h1
    obtain ⟨h1, h2⟩ := readL_props _ _ _ hp (fun x hx => by simp at hx)
    have := lines_count s
    exact ⟨h1, by simp at h2; omega⟩
set_option maxRecDepth 100000 in
set_option maxHeartbeats 4000000 in
theorem treads_law (s : ByteArray) (hs : s.size ≤ maxLen) (long : Bool) (w : World) (hE : EnvT w) : Calls Tryz.prog 5 #[.string s, .bool long] w fun e w' => e = .returned (.bool true) ∧ Below w.heap.size w w' := by
  have hs2 := hs
  unfold maxLen at hs2
  by_cases hl : 1000 < s.size
  · have hd : decide (1000 < (s.size : Int)) = true := by simp; omega
    go_enter Tryz.func5, Tryz.ntmps5
    go_wp2_with fail
    refine (tworks_any _ hE).mono ?_
    rintro e w1 ⟨rfl, hb1⟩
    go_wp2_with fail
    go_ret
    exact ⟨rfl, hb1⟩
  · have hd : decide (1000 < (s.size : Int)) = false := by simp; omega
    obtain ⟨⟨l, j, er⟩, hres⟩ : ∃ y, resL (readE s) = y := ⟨_, rfl⟩
    obtain ⟨hnd, hlen⟩ := resL_props hres
    have HND := Lib.hid hnd
    have HRES := Lib.hid hres
    obtain ⟨O, S, hS, hmk, hcv⟩ := long_str
    clear hres hnd
    obtain ⟨n, hn⟩ : ∃ n, l.length = n := ⟨_, rfl⟩
    have HN := Lib.hid hn
    clear hn
    go_enter Tryz.func5, Tryz.ntmps5
    go_wp2_with fail
    refine (Read_any s (by omega) _ hE).mono ?_
    intro e w1 h1
    obtain ⟨a1, cap1, rfl, hi1, hb1⟩ := rd_out HRES.out h1
    have hE1 := hE.belowAll hb1
    clear h1
    go_wp2_with fail
    refine (rReadE_any s (by omega) _).mono ?_
    intro e w3 h3
    obtain ⟨a3, cap3, rfl, hi3, hb3⟩ := rd_out HRES.out h3
    have hE3 := hE1.belowAll hb3
    have hi4 := hi1.later hb3
    have hb4 := hb1.trans (hb3.mono hb1.size)
    clear h3 hb1 hb3 hE1 hi1 hE
    cases long
    case' false =>
      clear hmk hcv
      go_wp2_with fail
    case' true =>
      have HS := Lib.hid hS
      clear hS
      have hcv3 := hcv w3
      go_wp2_with fail
      refine (Read_long S (by rw [HS.out]; decide) (by rw [HS.out]; decide) _).mono ?_
      rintro e w5 ⟨rfl, hb5⟩
      have hb6 := (below_alloc w3 O).trans (hb5.mono (below_alloc w3 O).size)
      have hE6 := hE3.belowAll hb6
      have hi36 := hi3.later hb6
      have hi46 := hi4.later hb6
      have hb46 := hb4.trans (hb6.mono hb4.size)
      clear hE3 hi3 hi4 hb4 hb5 hb6 hcv hcv3
      go_wp2_with fail
      refine (Decode_long _ _ _).mono ?_
      rintro e w7 ⟨rfl, hb7⟩
      have hb8 := (below_alloc w5 O).trans (hb7.mono (below_alloc w5 O).size)
      have hE3 := hE6.belowAll hb8
      have hi3 := hi36.later hb8
      have hi4 := hi46.later hb8
      have hb4 := hb46.trans (hb8.mono hb46.size)
      clear hE6 hi36 hi46 hb46 hb7 hb8 hmk
      go_wp2_with fail
      refine (num23_any 3 _).mono ?_
      rintro e w8 ⟨rfl, rfl⟩
      go_wp2_with fail
      refine (num23_any 3 _).mono ?_
      rintro e w8 ⟨rfl, rfl⟩
      go_wp2_with fail
    all_goals
      refine (rEvents_any l (by omega) _ _ _ _ _ hi4 hi3 HND.out).mono ?_
      rintro e w9 ⟨rfl, hb9⟩
      have hE9 := hE3.belowAll hb9
      have hb10 := hb4.trans (hb9.mono hb4.size)
      go_wp2_with fail
      refine (num23_any _ _).mono ?_
      rintro e w11 ⟨rfl, rfl⟩
      go_wp2_with fail
      refine (tworks_any _ hE9).mono ?_
      rintro e w12 ⟨rfl, hb12⟩
      go_wp2_with fail
      go_ret
      exact ⟨rfl, hb10.trans (hb12.mono hb10.size)⟩
end Go.Proofs.YtjldbbcdhdfliaaGreatDoor
