/-
 Walks over package trace: Marks of one event that marks; val.Copy of a leaf.
-/
import Derived.Test.YtjldbbcdhdfliaaGreatDoorTtTu
import Derived.Test.YtjldbbcdhdfliaaGreatDoorWNd
namespace Go.Proofs.YtjldbbcdhdfliaaGreatDoor
open Go.RowKit Go.Sort

theorem int_infoM : (Tryz.prog.info? 3).map (fun i => (i.zero, i.size, i.bytes)) = some (some (.int .i64 0), 1, 8) := by kernel_rfl
theorem below3 (w : World) (o1 o2 o3 : Obj) : Below w.heap.size w (((w.alloc o1).alloc o2).alloc o3) := ((below_alloc _ _).alloc (by simp) _).alloc (by simp; omega) _
theorem below2 (w : World) (o1 o2 : Obj) : Below w.heap.size w ((w.alloc o1).alloc o2) := (below_alloc _ _).alloc (by simp) _
theorem isV_leaf {ok : Nat → Prop} {w : World} {k n : Int} (hk : Rng k) (hn : Rng n) : IsV ok w (.mk k n []) (.agg #[.int .i64 k, .int .i64 n, .slice none 0 0]) := by
 rw [IsV]
 exact ⟨none, 0, rfl, hk, hn, Nat.le_refl _, Nat.zero_le _, by rw [IsR]; trivial⟩
set_option maxRecDepth 100000 in
set_option maxHeartbeats 1000000 in
theorem clone_leaf (k n : Int) (w : World) : Calls Tryz.prog 122 #[.agg #[.int .i64 k, .int .i64 n, .slice none 0 0]] w fun e w' => e = .returned (.agg #[.int .i64 k, .int .i64 n, .slice none 0 0]) ∧ Below w.heap.size w w' := by
 go_enter Tryz.func122, Tryz.ntmps122
 go_wp2_with fail
 exact bodyPost_ret (v := .agg #[.int .i64 k, .int .i64 n, .slice none 0 0]) (by simp [results, Tryz.results122, go_sem]) rfl ⟨rfl, below3 _ _ _ _⟩
set_option maxRecDepth 100000 in
set_option maxHeartbeats 1000000 in
theorem Copy_leaf (k n : Int) (hk : Rng k) (hn : Rng n) (w : World) : Calls Tryz.prog 98 #[.agg #[.int .i64 k, .int .i64 n, .slice none 0 0]] w fun e w' => e = .returned (.agg #[.int .i64 k, .int .i64 n, .slice none 0 0]) ∧ Below w.heap.size w w' := by
 have hs : small (.mk k n []) = true := by
  rw [small_nd, nd, ndL]
  rfl
 have hb2 := below2 w (.cells #[.int .i64 k, .int .i64 n, .slice none 0 0] 27) (.cells #[.int .i64 0, .int .i64 0, .slice none 0 0] 27)
 have hx2 := (Bx.new w 27 (.int .i64 k) (.int .i64 n) (.slice none 0 0)).alloc (.cells #[.int .i64 0, .int .i64 0, .slice none 0 0] 27)
 have hr2 := Bx.new (w.alloc (.cells #[.int .i64 k, .int .i64 n, .slice none 0 0] 27)) 27 (.int .i64 0) (.int .i64 0) (.slice none 0 0)
 rw [show (w.alloc (.cells #[.int .i64 k, .int .i64 n, .slice none 0 0] 27)).heap.size = w.heap.size + 1 by simp] at hr2
 go_enter Tryz.func98, Tryz.ntmps98
 go_upto_region 1 with fail
 generalize (w.alloc (.cells #[.int .i64 k, .int .i64 n, .slice none 0 0] 27)).alloc (.cells #[.int .i64 0, .int .i64 0, .slice none 0 0] 27) = w2 at *
 have c0 := hx2.c0
 have c1 := hx2.c1
 have c2 := hx2.c2
 go_wp2_with fail
 refine (small_any (.mk k n []) _ _ (isV_leaf hk hn)).mono ?_
 rw [hs]
 rintro e w3 ⟨rfl, hb3⟩
 have hx3 := hx2.belowAll hb3
 have hr3 := hr2.belowAll hb3
 have hbw := hb2.trans (hb3.mono hb2.size)
 clear c0 c1 c2 hx2 hr2 hb2 hb3
 have c0 := hx3.c0
 have c1 := hx3.c1
 have c2 := hx3.c2
 go_wp2_with fail
 refine (clone_leaf k n _).mono ?_
 rintro e w4 ⟨rfl, hb4⟩
 have hr4 := hr3.belowAll hb4
 have hbw4 := hbw.trans (hb4.mono hbw.size)
 clear c0 c1 c2 hx3 hr3 hbw hb4
 have c0 := hr4.c0
 have c1 := hr4.c1
 have c2 := hr4.c2
 have f0 := hr4.fz 0
 have f1 := hr4.fz 1
 have f2 := hr4.fz 2
 have hr5 := ((hr4.set0 (.int .i64 k)).set1 (.int .i64 n)).set2 (.slice none 0 0)
 have hb5 := ((hbw4.setCell (p := ⟨w.heap.size + 1, 0, none⟩) (by simp) (.int .i64 k)).setCell (p := ⟨w.heap.size + 1, 1, none⟩) (by simp) (.int .i64 n)).setCell (p := ⟨w.heap.size + 1, 2, none⟩) (by simp) (.slice none 0 0)
 go_wp2_with fail
 exact bodyPost_ret (v := .agg #[.int .i64 k, .int .i64 n, .slice none 0 0]) (by simp [results, Tryz.results98, go_sem, hr5.c0, hr5.c1, hr5.c2]) rfl ⟨rfl, hb5⟩
section
variable (st th sy br n kk nn : Int)
set_option maxRecDepth 100000 in
set_option maxHeartbeats 1000000 in
theorem marks1 (w : World) : Calls Tryz.prog 67 #[.agg #[.int .i64 5, .int .i64 st, .int .i64 th, .int .i64 sy, .int .i64 br, .int .i64 (-1), .int .i64 n, .int .i64 kk, .int .i64 nn, .slice none 0 0]] w fun e w' => e = .returned (.bool true) ∧ Below w.heap.size w w' := by
 go_enter Tryz.func67, Tryz.ntmps67
 go_wp2_with fail
 go_ret
 exact ⟨rfl, below_alloc _ _⟩
set_option maxRecDepth 100000 in
set_option maxHeartbeats 2000000 in
theorem copied1 (hk : Rng kk) (hn : Rng nn) (w : World) : Calls Tryz.prog 68 #[.agg #[.int .i64 5, .int .i64 st, .int .i64 th, .int .i64 sy, .int .i64 br, .int .i64 (-1), .int .i64 n, .int .i64 kk, .int .i64 nn, .slice none 0 0]] w fun e w' => e = .returned (.agg #[.int .i64 5, .int .i64 st, .int .i64 th, .int .i64 sy, .int .i64 br, .int .i64 (-1), .int .i64 n, .int .i64 kk, .int .i64 nn, .slice none 0 0]) ∧ Below w.heap.size w w' := by
 have hb2 := below2 w (.cells #[.int .i64 5, .int .i64 st, .int .i64 th, .int .i64 sy, .int .i64 br, .int .i64 (-1), .int .i64 n, .int .i64 kk, .int .i64 nn, .slice none 0 0] 29) (.cells zeroC 29)
 have hx2 : BE ((w.alloc (.cells #[.int .i64 5, .int .i64 st, .int .i64 th, .int .i64 sy, .int .i64 br, .int .i64 (-1), .int .i64 n, .int .i64 kk, .int .i64 nn, .slice none 0 0] 29)).alloc (.cells zeroC 29)) w.heap.size #[.int .i64 5, .int .i64 st, .int .i64 th, .int .i64 sy, .int .i64 br, .int .i64 (-1), .int .i64 n, .int .i64 kk, .int .i64 nn, .slice none 0 0] := (Below.heap_alloc _ _ _ (by simp)).trans (heap_alloc_new _ _)
 have hr2 : BE ((w.alloc (.cells #[.int .i64 5, .int .i64 st, .int .i64 th, .int .i64 sy, .int .i64 br, .int .i64 (-1), .int .i64 n, .int .i64 kk, .int .i64 nn, .slice none 0 0] 29)).alloc (.cells zeroC 29)) (w.heap.size + 1) zeroC := by
  have := heap_alloc_new (w.alloc (.cells #[.int .i64 5, .int .i64 st, .int .i64 th, .int .i64 sy, .int .i64 br, .int .i64 (-1), .int .i64 n, .int .i64 kk, .int .i64 nn, .slice none 0 0] 29)) (.cells zeroC 29)
  rwa [show (w.alloc (.cells #[.int .i64 5, .int .i64 st, .int .i64 th, .int .i64 sy, .int .i64 br, .int .i64 (-1), .int .i64 n, .int .i64 kk, .int .i64 nn, .slice none 0 0] 29)).heap.size = w.heap.size + 1 by simp] at this
 unfold zeroC at hb2 hx2 hr2
 go_enter Tryz.func68, Tryz.ntmps68
 go_upto_region 1 with fail
 generalize (w.alloc (.cells #[.int .i64 5, .int .i64 st, .int .i64 th, .int .i64 sy, .int .i64 br, .int .i64 (-1), .int .i64 n, .int .i64 kk, .int .i64 nn, .slice none 0 0] 29)).alloc (.cells #[.int .i64 0, .int .i64 0, .int .i64 0, .int .i64 0, .int .i64 0, .int .i64 0, .int .i64 0, .int .i64 0, .int .i64 0, .slice none 0 0] 29) = w2 at *
 obtain ⟨c0, c1, c2, c3, c4, c5, c6, c7, c8, c9⟩ := hx2.c
 go_wp2_with fail
 refine (Copy_leaf kk nn hk hn _).mono ?_
 rintro e w3 ⟨rfl, hb3⟩
 have hx3 := hx2.belowAll hb3
 have hr3 := hr2.belowAll hb3
 have hbw := hb2.trans (hb3.mono hb2.size)
 clear c0 c1 c2 c3 c4 c5 c6 c7 c8 c9 hx2 hr2 hb2 hb3
 obtain ⟨c0, c1, c2, c3, c4, c5, c6, c7, c8, c9⟩ := hx3.c
 have f7 := hx3.fz 7
 have f8 := hx3.fz 8
 have f9 := hx3.fz 9
 have hx4 : BE (((w3.setCell ⟨w.heap.size, 7, none⟩ (.int .i64 kk)).setCell ⟨w.heap.size, 8, none⟩ (.int .i64 nn)).setCell ⟨w.heap.size, 9, none⟩ (.slice none 0 0)) w.heap.size #[.int .i64 5, .int .i64 st, .int .i64 th, .int .i64 sy, .int .i64 br, .int .i64 (-1), .int .i64 n, .int .i64 kk, .int .i64 nn, .slice none 0 0] := by
  have h := hx3
  unfold BE at h ⊢
  simp [World.setCell, Array.getElem?_modify, h]
 have hr4 := ((hr3.far (q := ⟨w.heap.size, 7, none⟩) (by simp) (.int .i64 kk)).far (q := ⟨w.heap.size, 8, none⟩) (by simp) (.int .i64 nn)).far (q := ⟨w.heap.size, 9, none⟩) (by simp) (.slice none 0 0)
 have hb4 := ((hbw.setCell (p := ⟨w.heap.size, 7, none⟩) (Nat.le_refl _) (.int .i64 kk)).setCell (p := ⟨w.heap.size, 8, none⟩) (Nat.le_refl _) (.int .i64 nn)).setCell (p := ⟨w.heap.size, 9, none⟩) (Nat.le_refl _) (.slice none 0 0)
 go_upto_region 2 with fail
 clear c0 c1 c2 c3 c4 c5 c6 c7 c8 c9 f7 f8 f9 hx3 hr3 hbw
 generalize ((w3.setCell ⟨w.heap.size, 7, none⟩ (.int .i64 kk)).setCell ⟨w.heap.size, 8, none⟩ (.int .i64 nn)).setCell ⟨w.heap.size, 9, none⟩ (.slice none 0 0) = w4 at *
 obtain ⟨c0, c1, c2, c3, c4, c5, c6, c7, c8, c9⟩ := hx4.c
 obtain ⟨d0, d1, d2, d3, d4, d5, d6, d7, d8, d9⟩ := hr4.c
 have f0 := hr4.fz 0
 have f1 := hr4.fz 1
 have f2 := hr4.fz 2
 have f3 := hr4.fz 3
 have f4 := hr4.fz 4
 have f5 := hr4.fz 5
 have f6 := hr4.fz 6
 have f7 := hr4.fz 7
 have f8 := hr4.fz 8
 have f9 := hr4.fz 9
 have hr5 := hr4.put (.int .i64 5) (.int .i64 st) (.int .i64 th) (.int .i64 sy) (.int .i64 br) (.int .i64 (-1)) (.int .i64 n) (.int .i64 kk) (.int .i64 nn) (.slice none 0 0)
 have hb5 := hb4.trans (put10_below (w := w4) (g := w.heap.size + 1) (by omega) (.int .i64 5) (.int .i64 st) (.int .i64 th) (.int .i64 sy) (.int .i64 br) (.int .i64 (-1)) (.int .i64 n) (.int .i64 kk) (.int .i64 nn) (.slice none 0 0))
 obtain ⟨x0, x1, x2, x3, x4, x5, x6, x7, x8, x9⟩ := hr5.c
 unfold put10 at x0 x1 x2 x3 x4 x5 x6 x7 x8 x9
 clear hr5
 go_wp2_with fail
 exact bodyPost_ret (v := .agg #[.int .i64 5, .int .i64 st, .int .i64 th, .int .i64 sy, .int .i64 br, .int .i64 (-1), .int .i64 n, .int .i64 kk, .int .i64 nn, .slice none 0 0]) (by simp [results, Tryz.results68, go_sem, x0, x1, x2, x3, x4, x5, x6, x7, x8, x9]) rfl ⟨rfl, hb5⟩
set_option maxRecDepth 100000 in
set_option maxHeartbeats 4000000 in
/-- chosen, of one event that marks. -/
theorem chosen1 (hk : Rng kk) (hn : Rng nn) (g : Nat) (w : World) (hg : w.heap[g]? = some (.cells #[.int .i64 5, .int .i64 st, .int .i64 th, .int .i64 sy, .int .i64 br, .int .i64 (-1), .int .i64 n, .int .i64 kk, .int .i64 nn, .slice none 0 0] 29 (0, 0))) :
  Calls Tryz.prog 66 #[.slice (some ⟨g, 0, none⟩) 1 1, .func (.func 67) #[] #[], .func (.func 68) #[] #[]] w fun e w' => (∃ g1 cap1 v2, e = .returned (.tuple #[.slice (some ⟨g1, 0, none⟩) 1 cap1, v2]) ∧ w.heap.size ≤ g1 ∧ ∀ i u, (#[.int .i64 5, .int .i64 st, .int .i64 th, .int .i64 sy, .int .i64 br, .int .i64 (-1), .int .i64 n, .int .i64 kk, .int .i64 nn, .slice none 0 0] : Array Value)[i]? = some u → w'.cell? ⟨g1, i, none⟩ = some u) ∧ Below w.heap.size w w' := by
 obtain ⟨i0, hi0, hz0, hz1, hz2⟩ := info_parts ev_info
 obtain ⟨j0, hj0, hy0, hy1, hy2⟩ := info_parts int_infoM
 have hbe : BE w g #[.int .i64 5, .int .i64 st, .int .i64 th, .int .i64 sy, .int .i64 br, .int .i64 (-1), .int .i64 n, .int .i64 kk, .int .i64 nn, .slice none 0 0] := hg
 obtain ⟨c0, c1, c2, c3, c4, c5, c6, c7, c8, c9⟩ := hbe.c
 have hlt := hbe.lt
 clear hg hbe
 have hen1 := enters_of Tryz.func67 (by kernel_rfl) rfl
 have hen2 := enters_of Tryz.func68 (by kernel_rfl) rfl
 go_enter Tryz.func66, Tryz.ntmps66
 go_wp2_with fail
 go_loopw [6, 7, 12] (fun o at_ i wr => Below w.heap.size w wr ∧ ((i = .int .i64 0 ∧ o = .slice none 0 0 ∧ at_ = .slice none 0 0) ∨ (i = .int .i64 1 ∧ ∃ g1 cap1, o = .slice (some ⟨g1, 0, none⟩) 1 cap1 ∧ (∃ a9 n9 c9, at_ = .slice a9 n9 c9) ∧ w.heap.size ≤ g1 ∧ ∀ i u, (#[.int .i64 5, .int .i64 st, .int .i64 th, .int .i64 sy, .int .i64 br, .int .i64 (-1), .int .i64 n, .int .i64 kk, .int .i64 nn, .slice none 0 0] : Array Value)[i]? = some u → wr.cell? ⟨g1, i, none⟩ = some u))) (fun _ _ i _ => 1 - (intOf i).toNat)
 case atStart => exact ⟨Below.refl _ _, .inl ⟨rfl, rfl, rfl⟩⟩
 case round =>
  obtain ⟨hbw, hrel⟩ := hrel
  have HC := Lib.hid (And.intro c0 (And.intro c1 (And.intro c2 (And.intro c3 (And.intro c4 (And.intro c5 (And.intro c6 (And.intro c7 (And.intro c8 c9)))))))))
  clear c0 c1 c2 c3 c4 c5 c6 c7 c8 c9
  rcases hrel with ⟨rfl, rfl, rfl⟩ | ⟨rfl, g1, cap1, rfl, ⟨a9, n9, c9, rfl⟩, hg1, hcel⟩
  ·obtain ⟨d0, d1, d2, d3, d4, d5, d6, d7, d8, d9⟩ := HC.out
   have c0 := (hbw.cell (p := ⟨g, 0, none⟩) hlt).trans d0
   have c1 := (hbw.cell (p := ⟨g, 1, none⟩) hlt).trans d1
   have c2 := (hbw.cell (p := ⟨g, 2, none⟩) hlt).trans d2
   have c3 := (hbw.cell (p := ⟨g, 3, none⟩) hlt).trans d3
   have c4 := (hbw.cell (p := ⟨g, 4, none⟩) hlt).trans d4
   have c5 := (hbw.cell (p := ⟨g, 5, none⟩) hlt).trans d5
   have c6 := (hbw.cell (p := ⟨g, 6, none⟩) hlt).trans d6
   have c7 := (hbw.cell (p := ⟨g, 7, none⟩) hlt).trans d7
   have c8 := (hbw.cell (p := ⟨g, 8, none⟩) hlt).trans d8
   have c9 := (hbw.cell (p := ⟨g, 9, none⟩) hlt).trans d9
   clear d0 d1 d2 d3 d4 d5 d6 d7 d8 d9
   have hb2 := below_alloc wr (.cells #[.int .i64 5, .int .i64 st, .int .i64 th, .int .i64 sy, .int .i64 br, .int .i64 (-1), .int .i64 n, .int .i64 kk, .int .i64 nn, .slice none 0 0] 29)
   have hbe : BE (wr.alloc (.cells #[.int .i64 5, .int .i64 st, .int .i64 th, .int .i64 sy, .int .i64 br, .int .i64 (-1), .int .i64 n, .int .i64 kk, .int .i64 nn, .slice none 0 0] 29)) wr.heap.size #[.int .i64 5, .int .i64 st, .int .i64 th, .int .i64 sy, .int .i64 br, .int .i64 (-1), .int .i64 n, .int .i64 kk, .int .i64 nn, .slice none 0 0] := heap_alloc_new _ _
   have hbw2 := hbw.trans (hb2.mono hbw.size)
   go_upto_region 4 with fail
   clear c0 c1 c2 c3 c4 c5 c6 c7 c8 c9 hb2
   generalize wr.alloc (.cells #[.int .i64 5, .int .i64 st, .int .i64 th, .int .i64 sy, .int .i64 br, .int .i64 (-1), .int .i64 n, .int .i64 kk, .int .i64 nn, .slice none 0 0] 29) = w2 at *
   generalize wr.heap.size = xb at *
   obtain ⟨c0, c1, c2, c3, c4, c5, c6, c7, c8, c9⟩ := hbe.c
   go_wp2_with fail
   refine (marks1 st th sy br n kk nn _).mono ?_
   rintro e w3 ⟨rfl, hb3⟩
   have hbe3 := hbe.belowAll hb3
   have hbw3 := hbw2.trans (hb3.mono hbw2.size)
   clear c0 c1 c2 c3 c4 c5 c6 c7 c8 c9 hbe hb3 hbw2 hbw
   obtain ⟨c0, c1, c2, c3, c4, c5, c6, c7, c8, c9⟩ := hbe3.c
   go_wp2_with fail
   refine (copied1 st th sy br n kk nn hk hn _).mono ?_
   rintro e w4 ⟨rfl, hb4⟩
   have hbw4 := hbw3.trans (hb4.mono hbw3.size)
   have hbw5 := hbw4.trans ((below_alloc w4 (.cells #[.int .i64 5, .int .i64 st, .int .i64 th, .int .i64 sy, .int .i64 br, .int .i64 (-1), .int .i64 n, .int .i64 kk, .int .i64 nn, .slice none 0 0] 29)).mono hbw4.size)
   have hnw := heap_alloc_new w4 (.cells #[.int .i64 5, .int .i64 st, .int .i64 th, .int .i64 sy, .int .i64 br, .int .i64 (-1), .int .i64 n, .int .i64 kk, .int .i64 nn, .slice none 0 0] 29)
   clear c0 c1 c2 c3 c4 c5 c6 c7 c8 c9 hbe3 hb4 hbw3 hbw4
   go_upto_region 6 with (first
    | (at_builtin; refine wpList_append_lies _ rfl (.tmp 20) (.tmp 24) 38 rfl w.heap.size 29 i0 _ 10 96 Tryz.underlying38 hi0 hz0 hz1 hz2 rfl (by decide) (.slice none 0 0) 0 [] rfl (World.ownsRow_nil _ _ _ _) ⟨w4.heap.size, 0, none⟩ 1 1 [.int .i64 5, .int .i64 st, .int .i64 th, .int .i64 sy, .int .i64 br, .int .i64 (-1), .int .i64 n, .int .i64 kk, .int .i64 nn, .slice none 0 0] rfl rfl (World.news_of_block hnw) (by simp [Value.oneCell']) (by omega) (by decide) (by omega) hbw5.size _ rfl ?_; intro g1 cap1 w6 hown hgrow hat hglt; have hbw6 := hbw5.trans (grown_belowE hgrow hbw5.size fun g hg => by cases hg); have hbw7 := hbw6.trans ((below_alloc w6 (.cells #[.int .i64 0] 3)).mono hbw6.size); have hni := heap_alloc_new w6 (.cells #[.int .i64 0] 3))
    | (at_builtin; refine wpList_append_lies _ rfl (.tmp 26) (.tmp 28) 114 rfl w.heap.size 3 j0 _ 1 8 Tryz.underlying114 hj0 hy0 hy1 hy2 rfl (by decide) (.slice none 0 0) 0 [] rfl (World.ownsRow_nil _ _ _ _) ⟨w6.heap.size, 0, none⟩ 1 1 [.int .i64 0] rfl rfl (World.news_of_block hni) (by simp [Value.oneCell']) (by omega) (by decide) (by omega) hbw7.size _ rfl ?_; intro g2 cap2 w8 hown2 hgrow2 hat2 hglt2))
   have hcel8 : ∀ i u, (#[.int .i64 5, .int .i64 st, .int .i64 th, .int .i64 sy, .int .i64 br, .int .i64 (-1), .int .i64 n, .int .i64 kk, .int .i64 nn, .slice none 0 0] : Array Value)[i]? = some u → w8.cell? ⟨g1, i, none⟩ = some u := by
    intro i u hu
    have hi : i < 10 := (Array.getElem?_eq_some_iff.1 hu).1
    have h6 : w6.cell? ⟨g1, i, none⟩ = some u := by
     rw [World.ownsRow.cellAt hown i (by omega)]
     simpa using hu
    have h7 := ((below_alloc w6 (.cells #[.int .i64 0] 3)).cell (p := ⟨g1, i, none⟩) (block_lt_of_cell h6)).trans h6
    exact ((grown_belowE hgrow2 (Nat.le_refl _) (fun g hg => by cases hg)).cell (p := ⟨g1, i, none⟩) (block_lt_of_cell h7)).trans h7
   have hbw8 := hbw7.trans (grown_belowE hgrow2 hbw7.size fun g hg => by cases hg)
   have hg1 := (World.ownsRow.lt hown g1 rfl).1
   clear hown hown2 hgrow hgrow2 hat hat2 hni hnw hbw5 hbw6 hbw7
   go_wp2_with fail
   go_roundw
   case rel => exact ⟨hbw8, .inr ⟨by go_num, g1, cap1, rfl, ⟨_, _, _, rfl⟩, hg1, hcel8⟩⟩
   case measure => simp [intOf]
  ·go_wp2_with fail
   go_ret2
   exact ⟨⟨g1, cap1, _, rfl, hg1, hcel⟩, hbw⟩
set_option maxRecDepth 100000 in
set_option maxHeartbeats 4000000 in
/-- Marks, of one event that marks. -/
theorem TMarks1 (hk : Rng kk) (hn : Rng nn) (g : Nat) (w : World) (hg : w.heap[g]? = some (.cells #[.int .i64 5, .int .i64 st, .int .i64 th, .int .i64 sy, .int .i64 br, .int .i64 (-1), .int .i64 n, .int .i64 kk, .int .i64 nn, .slice none 0 0] 29 (0, 0))) :
  Calls Tryz.prog 31 #[.slice (some ⟨g, 0, none⟩) 1 1] w fun e w' => (∃ gm, e = .returned (.slice (some ⟨gm, 0, none⟩) 1 1) ∧ w'.heap[gm]? = some (.cells #[.int .i64 st, .int .i64 th, .int .i64 kk, .int .i64 nn, .slice none 0 0] 74 (0, 0))) ∧ Below w.heap.size w w' := by
 have hmk : ∀ w : World, (Instr.makeSlice 71 (.int .i64 1) (.int .i64 1)).run Tryz.prog w = .ok (.slice (some ⟨w.heap.size, 0, none⟩) 1 1) (w.alloc (.cells #[.int .i64 0, .int .i64 0, .int .i64 0, .int .i64 0, .slice none 0 0] 74)) := fun _ => by kernel_rfl
 go_enter Tryz.func31, Tryz.ntmps31
 go_wp2_with fail
 refine (chosen1 st th sy br n kk nn hk hn g w hg).mono ?_
 rintro e w1 ⟨⟨g1, cap1, v2, rfl, hg1, hcel⟩, hb1⟩
 have hb2 := below_alloc w1 (.cells #[.int .i64 0, .int .i64 0, .int .i64 0, .int .i64 0, .slice none 0 0] 74)
 have hbw2 := hb1.trans (hb2.mono hb1.size)
 have hcel2 : ∀ i u, (#[.int .i64 5, .int .i64 st, .int .i64 th, .int .i64 sy, .int .i64 br, .int .i64 (-1), .int .i64 n, .int .i64 kk, .int .i64 nn, .slice none 0 0] : Array Value)[i]? = some u → (w1.alloc (.cells #[.int .i64 0, .int .i64 0, .int .i64 0, .int .i64 0, .slice none 0 0] 74)).cell? ⟨g1, i, none⟩ = some u := fun i u hu => (hb2.cell (p := ⟨g1, i, none⟩) (block_lt_of_cell (hcel i u hu))).trans (hcel i u hu)
 have hm2 : (w1.alloc (.cells #[.int .i64 0, .int .i64 0, .int .i64 0, .int .i64 0, .slice none 0 0] 74)).heap[w1.heap.size]? = some (.cells #[.int .i64 0, .int .i64 0, .int .i64 0, .int .i64 0, .slice none 0 0] 74 (0, 0)) := heap_alloc_new _ _
 have hgm := hb1.size
 have HM := Lib.hid hm2
 have HC := Lib.hid hcel2
 clear hcel hg hb1 hb2 hcel2 hm2
 go_wp2_with fail
 generalize w1.alloc (.cells #[.int .i64 0, .int .i64 0, .int .i64 0, .int .i64 0, .slice none 0 0] 74) = w2 at *
 generalize w1.heap.size = gm at *
 go_loopw [18] (fun i wr => Below w.heap.size w wr ∧ ((i = .int .i64 0 ∧ wr.heap[gm]? = some (.cells #[.int .i64 0, .int .i64 0, .int .i64 0, .int .i64 0, .slice none 0 0] 74 (0, 0)) ∧ ∀ i u, (#[.int .i64 5, .int .i64 st, .int .i64 th, .int .i64 sy, .int .i64 br, .int .i64 (-1), .int .i64 n, .int .i64 kk, .int .i64 nn, .slice none 0 0] : Array Value)[i]? = some u → wr.cell? ⟨g1, i, none⟩ = some u) ∨ (i = .int .i64 1 ∧ wr.heap[gm]? = some (.cells #[.int .i64 st, .int .i64 th, .int .i64 kk, .int .i64 nn, .slice none 0 0] 74 (0, 0))))) (fun i _ => 1 - (intOf i).toNat)
 case atStart => exact ⟨hbw2, .inl ⟨rfl, HM.out, HC.out⟩⟩
 case round =>
  clear hbw2
  obtain ⟨hbw, hrel⟩ := hrel
  rcases hrel with ⟨rfl, hm, hcel⟩ | ⟨rfl, hm⟩
  ·have HC1 := Lib.hid hcel
   have hmz := hm
   have hmlt := lt_of_heap hm
   clear hcel
   have c0 := HC1.out 0 (.int .i64 5) rfl
   have c1 := HC1.out 1 (.int .i64 st) rfl
   have c2 := HC1.out 2 (.int .i64 th) rfl
   have c3 := HC1.out 3 (.int .i64 sy) rfl
   have c4 := HC1.out 4 (.int .i64 br) rfl
   have c5 := HC1.out 5 (.int .i64 (-1)) rfl
   have c6 := HC1.out 6 (.int .i64 n) rfl
   have c7 := HC1.out 7 (.int .i64 kk) rfl
   have c8 := HC1.out 8 (.int .i64 nn) rfl
   have c9 := HC1.out 9 (.slice none 0 0) rfl
   have hb3 := below_alloc wr (.cells #[.int .i64 5, .int .i64 st, .int .i64 th, .int .i64 sy, .int .i64 br, .int .i64 (-1), .int .i64 n, .int .i64 kk, .int .i64 nn, .slice none 0 0] 29)
   have hbe : BE (wr.alloc (.cells #[.int .i64 5, .int .i64 st, .int .i64 th, .int .i64 sy, .int .i64 br, .int .i64 (-1), .int .i64 n, .int .i64 kk, .int .i64 nn, .slice none 0 0] 29)) wr.heap.size #[.int .i64 5, .int .i64 st, .int .i64 th, .int .i64 sy, .int .i64 br, .int .i64 (-1), .int .i64 n, .int .i64 kk, .int .i64 nn, .slice none 0 0] := heap_alloc_new _ _
   have hm3 : (wr.alloc (.cells #[.int .i64 5, .int .i64 st, .int .i64 th, .int .i64 sy, .int .i64 br, .int .i64 (-1), .int .i64 n, .int .i64 kk, .int .i64 nn, .slice none 0 0] 29)).heap[gm]? = some (.cells #[.int .i64 0, .int .i64 0, .int .i64 0, .int .i64 0, .slice none 0 0] 74 (0, 0)) := (hb3.block _ hmlt).trans hm
   have hbw3 := hbw.trans (hb3.mono hbw.size)
   have HM3 := Lib.hid hm3
   clear hm hmz hm3 hb3
   go_upto_region 6 with fail
   clear c0 c1 c2 c3 c4 c5 c6 c7 c8 c9
   generalize wr.alloc (.cells #[.int .i64 5, .int .i64 st, .int .i64 th, .int .i64 sy, .int .i64 br, .int .i64 (-1), .int .i64 n, .int .i64 kk, .int .i64 nn, .slice none 0 0] 29) = w3 at *
   obtain ⟨c0, c1, c2, c3, c4, c5, c6, c7, c8, c9⟩ := hbe.c
   have d0 : w3.cell? ⟨gm, 0, none⟩ = some (.int .i64 0) := by simp [World.cell?, HM3.out]
   have d1 : w3.cell? ⟨gm, 1, none⟩ = some (.int .i64 0) := by simp [World.cell?, HM3.out]
   have d2 : w3.cell? ⟨gm, 2, none⟩ = some (.int .i64 0) := by simp [World.cell?, HM3.out]
   have d3 : w3.cell? ⟨gm, 3, none⟩ = some (.int .i64 0) := by simp [World.cell?, HM3.out]
   have d4 : w3.cell? ⟨gm, 4, none⟩ = some (.slice none 0 0) := by simp [World.cell?, HM3.out]
   have f0 : w3.frozen? ⟨gm, 0, none⟩ = false := by simp [World.frozen?, HM3.out]
   have f1 : w3.frozen? ⟨gm, 1, none⟩ = false := by simp [World.frozen?, HM3.out]
   have f2 : w3.frozen? ⟨gm, 2, none⟩ = false := by simp [World.frozen?, HM3.out]
   have f3 : w3.frozen? ⟨gm, 3, none⟩ = false := by simp [World.frozen?, HM3.out]
   have f4 : w3.frozen? ⟨gm, 4, none⟩ = false := by simp [World.frozen?, HM3.out]
   have hfin : (((((w3.setCell ⟨gm, 0, none⟩ (.int .i64 st)).setCell ⟨gm, 1, none⟩ (.int .i64 th)).setCell ⟨gm, 2, none⟩ (.int .i64 kk)).setCell ⟨gm, 3, none⟩ (.int .i64 nn)).setCell ⟨gm, 4, none⟩ (.slice none 0 0)).heap[gm]? = some (.cells #[.int .i64 st, .int .i64 th, .int .i64 kk, .int .i64 nn, .slice none 0 0] 74 (0, 0)) := by
    simp [World.setCell, Array.getElem?_modify, HM3.out]
   have hb9 := ((((hbw3.setCell (p := ⟨gm, 0, none⟩) hgm (.int .i64 st)).setCell (p := ⟨gm, 1, none⟩) hgm (.int .i64 th)).setCell (p := ⟨gm, 2, none⟩) hgm (.int .i64 kk)).setCell (p := ⟨gm, 3, none⟩) hgm (.int .i64 nn)).setCell (p := ⟨gm, 4, none⟩) hgm (.slice none 0 0)
   have HFIN := Lib.hid hfin
   clear hbe hfin
   go_wp2_with fail
   go_roundw
   case rel => exact ⟨hb9, .inr ⟨by go_num, HFIN.out⟩⟩
   case measure => simp [intOf]
  ·have HM1 := Lib.hid hm
   clear hm
   go_wp2_with fail
   go_ret
   exact ⟨⟨gm, rfl, HM1.out⟩, hbw⟩
end
end Go.Proofs.YtjldbbcdhdfliaaGreatDoor
