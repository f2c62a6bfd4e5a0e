/-
  Layer 9's statements: SourceTells, for every program.
-/
import Derived.Test.YtjendlnicbieoaaGreatDoorHs
import Derived.Test.YtjendlnicbieoaaGreatDoorNr
import Derived.Test.YtjendlnicbieoaaGreatDoorSs
namespace Go.Proofs.YtjendlnicbieoaaGreatDoor
open Go.RowKit Go.Sort
attribute [local go_sem] Oper.semAt_some

set_option maxRecDepth 100000 in
set_option maxHeartbeats 4000000 in
theorem stells_out (p : List Fn) (pa : Option Addr) (cap : Nat) (hin : fewP p = false) (w : World) (hP : PAt (· < w.heap.size) w p pa cap) (hE : EnvS w) :
    Calls Tryz.prog 3 #[prV p pa cap] w fun e w' => e = .returned (.bool true) ∧ Below w.heap.size w w' := by
  have hbp := Blk.new w 24 [.slice pa p.length cap]
  have hw1 := below_new w (.cells #[.slice pa p.length cap] 24)
  have c0 := hbp.c 0 rfl
  have hF := few_any p pa cap _ (hP.later hw1)
  rw [hin] at hF
  have hWk := fun wx (hx : Below w.heap.size w wx) => works_any wx (hE.belowAll hx)
  clear hin
  unfold prV at hF ⊢
  go_enter Tryz.func3, Tryz.ntmps3
  go_upto_region 2 with (go_at_call 7; refine hF.mono ?_; rintro e w2 ⟨rfl, hb2⟩)
  have hw2 := hw1.trans (hb2.mono hw1.size)
  have hW := hWk _ hw2
  go_wp2_with (go_at_call 8; refine hW.mono ?_; rintro e w3 ⟨rfl, hb3⟩)
  go_ret
  exact ⟨rfl, hw2.trans (hb3.mono hw2.size)⟩
theorem nrm_small {p : List Fn} (hok : okP p = true) (hn : ∀ f ∈ p, ∀ x ∈ f.ns, Rn x.n) {ts : List (Int × Fo)} (hts : Trs p ts) : (nrm ts).length ≤ 1000000 ∧ ∀ f ∈ nrm ts, f.ns.length ≤ 1000000 := by
  have hTo := okP_trOk hok hn hts
  have hl := hts.len
  have h1 := (okP_small hok).1
  refine ⟨by unfold nrm; rw [List.length_map]; omega, fun f hf => ?_⟩
  obtain ⟨x, hx, rfl⟩ := List.mem_map.1 hf
  have := (hTo x hx).most
  show (flat 0 x.2).length ≤ 1000000
  rw [flat_length]
  omega
set_option maxRecDepth 100000 in
set_option maxHeartbeats 8000000 in
theorem stells_in (p : List Fn) (pa : Option Addr) (cap : Nat) (hin : fewP p = true) (w : World) (hP : PAt (· < w.heap.size) w p pa cap) (hE : EnvS w) :
    Calls Tryz.prog 3 #[prV p pa cap] w fun e w' => e = .returned (.bool true) ∧ Below w.heap.size w w' := by
  have hbp := Blk.new w 24 [.slice pa p.length cap]
  have hw1 := below_new w (.cells #[.slice pa p.length cap] 24)
  have c0 := hbp.c 0 rfl
  have hF := few_any p pa cap _ (hP.later hw1)
  rw [hin] at hF
  have hWk := fun wx (hx : Below w.heap.size w wx) => works_any wx (hE.belowAll hx)
  have hrn := pat_rn hP
  obtain ⟨S, no, hTa, hTb⟩ : ∃ (S : ByteArray) (no : Int), (∀ wx, Below w.heap.size w wx → Calls Tryz.prog 9 #[prV p pa cap] wx fun e w' => e = .returned (.tuple #[.string S, .int .i64 no]) ∧ Below wx.heap.size wx w') ∧
      ∀ wx, Below w.heap.size w wx → Calls Tryz.prog 10 #[prV p pa cap] wx fun e w' => e = .returned (.tuple #[.string S, .int .i64 no]) ∧ Below wx.heap.size wx w' := by
    cases hok : okP p with
    | true =>
      obtain ⟨ts, hts⟩ := okP_trs hok
      exact ⟨_, _, fun wx hx => Text_yes p hok hrn ts hts pa cap wx (hP.later hx) (hE.belowAll hx), fun wx hx => rText_yes p hok hrn ts hts pa cap wx (hP.later hx)⟩
    | false => exact ⟨_, _, fun wx hx => Text_no p hok pa cap wx (hP.later hx), fun wx hx => rText_no p hok pa cap wx (hP.later hx)⟩
  obtain ⟨fs, n2, hl1, hl2, hNa, hNb⟩ : ∃ (fs : List Fn) (n2 : Int), fs.length ≤ 1000000 ∧ (∀ f ∈ fs, f.ns.length ≤ 1000000) ∧ (∀ wx, Below w.heap.size w wx → Calls Tryz.prog 11 #[prV p pa cap] wx (NmE fs n2 wx)) ∧
      ∀ wx, Below w.heap.size w wx → Calls Tryz.prog 12 #[prV p pa cap] wx (NmE fs n2 wx) := by
    cases hok : okP p with
    | true =>
      obtain ⟨ts, hts⟩ := okP_trs hok
      obtain ⟨s1, s2⟩ := nrm_small hok hrn hts
      exact ⟨_, _, s1, s2, fun wx hx => Normal_yes p hok ts hts pa cap wx (hP.later hx), fun wx hx => rNormal_yes p hok ts hts pa cap wx (hP.later hx)⟩
    | false => exact ⟨[], _, Nat.zero_le _, fun f hf => (by cases hf), fun wx hx => Normal_no p hok pa cap wx (hP.later hx), fun wx hx => rNormal_no p hok pa cap wx (hP.later hx)⟩
  have HL2 := Lib.hid hl2
  have HTA := Lib.hid hTa
  have HTB := Lib.hid hTb
  have HNA := Lib.hid hNa
  have HNB := Lib.hid hNb
  clear hin hrn hTa hTb hNa hNb hl2
  unfold prV at hF ⊢
  go_enter Tryz.func3, Tryz.ntmps3
  go_upto_region 3 with (go_at_call 7; refine hF.mono ?_; rintro e w2 ⟨rfl, hb2⟩)
  have hbp2 := hbp.belowAll hb2
  have hw2 := hw1.trans (hb2.mono hw1.size)
  clear c0 hbp hF hw1 hb2
  have c0 := hbp2.c 0 rfl
  have hT1 := HTA.out w2 hw2
  unfold prV at hT1
  go_upto_region 4 with (go_at_call 9; refine hT1.mono ?_; rintro e w3 ⟨rfl, hb3⟩)
  have hbp3 := hbp2.belowAll hb3
  have hw3 := hw2.trans (hb3.mono hw2.size)
  clear c0 hbp2 hT1 hw2 hb3
  have c0 := hbp3.c 0 rfl
  have hT1 := HTB.out w3 hw3
  unfold prV at hT1
  go_upto_region 5 with (go_at_call 10; refine hT1.mono ?_; rintro e w4 ⟨rfl, hb4⟩)
  have hbp4 := hbp3.belowAll hb4
  have hw4 := hw3.trans (hb4.mono hw3.size)
  clear c0 hbp3 hT1 hw3 hb4
  have c0 := hbp4.c 0 rfl
  have hT1 := HNA.out w4 hw4
  unfold prV NmE at hT1
  go_upto_region 6 with (go_at_call 11; refine hT1.mono ?_; rintro e w5 ⟨qa, qc, rfl, hb5, hq5⟩)
  have hq5' : PAt (· < w5.heap.size) w5 fs qa qc := ⟨hq5.fs.more fun _ hg => hg.2, hq5.le, hq5.cap⟩
  have hbq := Blk.new w5 24 [.slice qa fs.length qc]
  have hb6 := below_new w5 (.cells #[.slice qa fs.length qc] 24)
  have hbp6 := (hbp4.belowAll hb5).belowAll hb6
  have hw5 := hw4.trans (hb5.mono hw4.size)
  have hw6 := hw5.trans (hb6.mono hw5.size)
  have hq6 := hq5'.later hb6
  clear c0 hbp4 hT1 hw4 hb5 hq5 hq5' hw5 hb6
  generalize w5.alloc (.cells #[.slice qa fs.length qc] 24) = w6 at *
  have c0 := hbp6.c 0 rfl
  have hT1 := HNB.out w6 hw6
  unfold prV NmE at hT1
  go_upto_region 7 with (go_at_call 12; refine hT1.mono ?_; rintro e w7 ⟨ra, rc, rfl, hb7, hq7⟩)
  have hq7' : PAt (· < w7.heap.size) w7 fs ra rc := ⟨hq7.fs.more fun _ hg => hg.2, hq7.le, hq7.cap⟩
  have hbr := Blk.new w7 24 [.slice ra fs.length rc]
  have hb8 := below_new w7 (.cells #[.slice ra fs.length rc] 24)
  have hbq8 := (hbq.belowAll hb7).belowAll hb8
  have hw7 := hw6.trans (hb7.mono hw6.size)
  have hw8 := hw7.trans (hb8.mono hw7.size)
  have hr8 := hq7'.later hb8
  have hq8 := (hq6.later hb7).later hb8
  clear c0 hbp6 hT1 hw6 hb7 hq7 hq7' hw7 hb8 hbq hq6
  generalize w7.alloc (.cells #[.slice ra fs.length rc] 24) = w8 at *
  have y0 := hbq8.c 0 rfl
  have z0 := hbr.c 0 rfl
  have hSm := rsame_self fs HL2.out hl1 qa ra qc rc w8 hq8 hr8
  unfold prV at hSm
  go_wp2_with first
    | (go_at_call 13; refine (num_any _ _).mono ?_; rintro e wn ⟨rfl, rfl⟩)
    | (go_at_call 14; refine hSm.mono ?_; rintro e w9 ⟨rfl, hb9⟩; have hw9 := hw8.trans (hb9.mono hw8.size))
    | (go_at_call 8; refine (hWk _ hw9).mono ?_; rintro e w10 ⟨rfl, hb10⟩)
  go_ret
  exact ⟨rfl, hw9.trans (hb10.mono hw9.size)⟩
theorem stells_law (p : List Fn) (pa : Option Addr) (cap : Nat) (w : World) (hP : PAt (· < w.heap.size) w p pa cap) (hE : EnvS w) : Calls Tryz.prog 3 #[prV p pa cap] w fun e w' => e = .returned (.bool true) ∧ Below w.heap.size w w' := by
  cases hf : fewP p with
  | true => exact stells_in p pa cap hf w hP hE
  | false => exact stells_out p pa cap hf w hP hE
end Go.Proofs.YtjendlnicbieoaaGreatDoor
