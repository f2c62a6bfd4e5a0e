/-
  Walks over package source's lexer: letter, digit, blank, while, which bytes go on.
-/
import Derived.Test.YtjendlnicbieoaaGreatDoorProA
namespace Go.Proofs.YtjendlnicbieoaaGreatDoor
open Go.RowKit Go.Sort

/-- The lexer's cells, at the head of a block. -/
abbrev LxB (w : World) (b : Nat) (T : TypeId) (s : ByteArray) (i n : Nat) (rest : List Value) : Prop := Blk w b T (.string s :: .int .i64 (i : Nat) :: .int .i64 (n : Nat) :: rest)
abbrev FrB (b : Nat) (w w' : World) : Prop := Fr (fun k => k = b) w w'
theorem FrB.set {b : Nat} {w w1 : World} (h : FrB b w w1) (o : Nat) (u : Value) : FrB b w (w1.setCell ⟨b, o, none⟩ u) := h.same (Fr.set (.inl rfl))
theorem FrB.drewN {b : Nat} {w w1 : World} (h : FrB b w w1) (n : Nat) : FrB b w (w1.drewN n) := h.same (Fr.drewN n)
theorem FrB.alloc {b : Nat} {w w1 : World} (h : FrB b w w1) (o : Obj) : FrB b w (w1.alloc o) := h.same (Fr.alloc o)
theorem LxB.set1 {w : World} {b : Nat} {T : TypeId} {s : ByteArray} {i n : Nat} {rest : List Value} (h : LxB w b T s i n rest) (j : Nat) : LxB (w.setCell ⟨b, 1, none⟩ (.int .i64 (j : Nat))) b T s j n rest := Blk.set h 1 _
theorem LxB.set2 {w : World} {b : Nat} {T : TypeId} {s : ByteArray} {i n : Nat} {rest : List Value} (h : LxB w b T s i n rest) (j : Nat) : LxB (w.setCell ⟨b, 2, none⟩ (.int .i64 (j : Nat))) b T s i j rest := Blk.set h 2 _
/-- The bytes of a text from a place on. -/
def bs (s : ByteArray) (i : Nat) : Bs := s.data.toList.drop i
theorem bs_nil {s : ByteArray} {i : Nat} (h : ¬ i < s.size) : bs s i = [] := by
  unfold bs
  exact List.drop_of_length_le (by simp; omega)
theorem bs_cons {s : ByteArray} {i : Nat} (h : i < s.size) : bs s i = s[i] :: bs s (i + 1) := by
  unfold bs
  rw [List.drop_eq_getElem_cons (by simpa using h)]
  rfl
theorem bs_len (s : ByteArray) (i : Nat) : (bs s i).length = s.size - i := by simp [bs]
set_option maxHeartbeats 400000 in
theorem letter_any (c : UInt8) (w : World) : Calls Tryz.prog 73 #[.int .u8 (c.toNat : Nat)] w fun e w' => e = .returned (.bool (isLt c)) ∧ w = w' := by
  go_enter Tryz.func73, Tryz.ntmps73
  go_wp2_with fail
  all_goals go_ret
  all_goals refine ⟨ret_bool ?_, rfl⟩
  all_goals (unfold isLt; rw [Bool.eq_iff_iff]; simp; try omega)
set_option maxHeartbeats 400000 in
theorem digit_any (c : UInt8) (w : World) : Calls Tryz.prog 76 #[.int .u8 (c.toNat : Nat)] w fun e w' => e = .returned (.bool (isDi c)) ∧ w = w' := by
  go_enter Tryz.func76, Tryz.ntmps76
  go_wp2_with fail
  all_goals go_ret
  all_goals refine ⟨ret_bool ?_, rfl⟩
  all_goals (unfold isDi; rw [Bool.eq_iff_iff]; simp; try omega)
set_option maxHeartbeats 400000 in
theorem anum_any (c : UInt8) (w : World) : Calls Tryz.prog 75 #[.int .u8 (c.toNat : Nat)] w fun e w' => e = .returned (.bool (isAn c)) ∧ w = w' := by
  obtain ⟨a, ha⟩ : ∃ a, isLt c = a := ⟨_, rfl⟩
  have hL := letter_any c
  have hD := digit_any c
  unfold isAn
  rw [ha] at hL ⊢
  clear ha
  cases a
  all_goals
    go_enter Tryz.func75, Tryz.ntmps75
    go_wp2_with first
      | (go_at_call 73; refine (hL _).mono ?_; rintro e w2 ⟨rfl, rfl⟩)
      | (go_at_call 76; refine (hD _).mono ?_; rintro e w2 ⟨rfl, rfl⟩)
    go_ret
    exact ⟨rfl, rfl⟩
def lxAt (w : World) (b : Nat) : Nat := match w.cell? ⟨b, 1, none⟩ with | some (.int _ i) => i.toNat | _ => 0
theorem LxB.at_ {w : World} {b : Nat} {T : TypeId} {s : ByteArray} {i n : Nat} {rest : List Value} (h : LxB w b T s i n rest) : lxAt w b = i := by
  unfold lxAt
  rw [Blk.c h 1 rfl]
  simp
set_option maxRecDepth 100000 in
set_option maxHeartbeats 2000000 in
theorem blank_any (b : Nat) (T : TypeId) (s : ByteArray) (i n : Nat) (rest : List Value) (w : World) (h : LxB w b T s i n rest) (hs : s.size ≤ 4000000) (hi : i ≤ s.size) (hn : n ≤ i) :
    Calls Tryz.prog 72 #[.pointer (some ⟨b, 0, none⟩)] w fun e w' => e = .returned (.tuple #[]) ∧ FrB b w w' ∧ ∃ j m, i ≤ j ∧ j ≤ s.size ∧ m ≤ j ∧ skipB false (bs s i) n = (bs s j, m) ∧ LxB w' b T s j m rest := by
  obtain ⟨R, hR⟩ : ∃ R, skipB false (bs s i) n = R := ⟨_, rfl⟩
  rw [hR]
  have HR := Lib.hid hR
  clear hR
  go_enter Tryz.func72, Tryz.ntmps72
  go_wp2_with fail
  go_loopw [2, 3] (fun cv _ wr => ∃ (cm : Bool) (j m : Nat), cv = .bool cm ∧ i ≤ j ∧ j ≤ s.size ∧ m ≤ j ∧ skipB cm (bs s j) m = R ∧ LxB wr b T s j m rest ∧ FrB b w wr) (fun _ _ wr => s.size - lxAt wr b)
  case atStart => exact ⟨false, i, n, rfl, Nat.le_refl _, hi, hn, HR.out, h, Fr.refl _ _⟩
  case round =>
    clear h hi hn
    obtain ⟨cm, j, m, rfl, hij, hj, hm, hrest, hl, hfr⟩ := hrel
    have hat := hl.at_
    have c0 := hl.c 0 rfl
    have c1 := hl.c 1 rfl
    by_cases hlt : j < s.size
    case' neg =>
      have hd : decide (j < s.size) = false := decide_eq_false hlt
      rw [bs_nil hlt, skipB] at hrest
      have HREST := Lib.hid hrest
      clear hrest
      go_wp2_with fail
      go_quiet (fail)
      go_wp2_with fail
      go_end0
      exact ⟨rfl, hfr.drewN _, j, m, hij, hj, hm, by rw [← HREST.out, bs_nil hlt], hl.drewN _⟩
    case' pos =>
      have hd : decide (j < s.size) = true := decide_eq_true hlt
      rw [bs_cons hlt, skipB] at hrest
      have f1 := hl.fz 1
      have f2 := hl.fz 2
      have c2 := hl.c 2 rfl
      by_cases h10 : s[j].toNat = 10
      case' pos =>
        rw [if_pos h10] at hrest
        have HREST := Lib.hid hrest
        clear hrest
        have q1 : ((s[j].toNat : Int) == 10) = true := by rw [h10]; rfl
      case' neg =>
        rw [if_neg h10] at hrest
        have q1 : ((s[j].toNat : Int) == 10) = false := by simp; omega
        by_cases hcm : cm = true
        case' pos =>
          subst hcm
          rw [if_pos (.inl rfl)] at hrest
          have HREST := Lib.hid hrest
          clear hrest
        case' neg =>
          rw [Bool.not_eq_true] at hcm
          subst hcm
          by_cases h32 : s[j].toNat = 32
          case' pos =>
            rw [if_pos (.inr (.inl h32))] at hrest
            have HREST := Lib.hid hrest
            clear hrest
            have q2 : ((s[j].toNat : Int) == 32) = true := by rw [h32]; rfl
          case' neg =>
            have q2 : ((s[j].toNat : Int) == 32) = false := by simp; omega
            by_cases h9 : s[j].toNat = 9
            case' pos =>
              rw [if_pos (.inr (.inr h9))] at hrest
              have HREST := Lib.hid hrest
              clear hrest
              have q3 : ((s[j].toNat : Int) == 9) = true := by rw [h9]; rfl
            case' neg =>
              have q3 : ((s[j].toNat : Int) == 9) = false := by simp; omega
              rw [if_neg (by simp [h32, h9])] at hrest
              by_cases h35 : s[j].toNat = 35
              case' pos =>
                rw [if_pos h35] at hrest
                have HREST := Lib.hid hrest
                clear hrest
                have q4 : ((s[j].toNat : Int) == 35) = true := by rw [h35]; rfl
              case' neg =>
                rw [if_neg h35] at hrest
                have HREST := Lib.hid hrest
                clear hrest
                have q4 : ((s[j].toNat : Int) == 35) = false := by simp; omega
      all_goals
        go_wp2_with fail
        go_quiet (fail)
        go_wp2_with fail
        go_quiet (fail)
        go_wp2_with fail
      all_goals first
        | (refine bodyPost_ret (results_none rfl _ _ _) rfl ?_
           exact ⟨rfl, hfr.drewN _, j, m, hij, hj, hm, by rw [← HREST.out, bs_cons hlt], Blk.drewN hl _⟩)
        | (rw [show ((j : Int) + 1) = ((j + 1 : Nat) : Int) by omega]
           refine ⟨⟨_, j + 1, m, rfl, by omega, hlt, by omega, HREST.out, LxB.set1 (Blk.drewN hl _) (j + 1), (hfr.drewN _).set 1 _⟩, ?_⟩
           rw [(LxB.set1 (Blk.drewN hl _) (j + 1)).at_, hat]
           omega)
        | (rw [show ((j : Int) + 1) = ((j + 1 : Nat) : Int) by omega, show ((m : Int) + 1) = ((m + 1 : Nat) : Int) by omega]
           refine ⟨⟨_, j + 1, m + 1, rfl, by omega, hlt, by omega, HREST.out, LxB.set1 (LxB.set2 (Blk.drewN hl _) (m + 1)) (j + 1), ((hfr.drewN _).set 2 _).set 1 _⟩, ?_⟩
           rw [(LxB.set1 (LxB.set2 (Blk.drewN hl _) (m + 1)) (j + 1)).at_, hat]
           omega)
end Go.Proofs.YtjendlnicbieoaaGreatDoor
/-
  Walks over package source's lexer: while, inRange.
-/
namespace Go.Proofs.YtjendlnicbieoaaGreatDoor
open Go.RowKit Go.Sort

/-- A function that tells of a byte. -/
structure IsP (f : Nat) (p : UInt8 → Bool) : Prop where
  enters : ∀ (args : Array Value) (w : World), (callFunc f args).run Tryz.prog w = .ok (.enter f args) w
  calls : ∀ (c : UInt8) (w : World), Calls Tryz.prog f #[.int .u8 (c.toNat : Nat)] w fun e w' => e = .returned (.bool (p c)) ∧ w = w'
theorem isp_di : IsP 76 isDi := ⟨fun _ _ => by kernel_rfl, digit_any⟩
theorem isp_an : IsP 75 isAn := ⟨fun _ _ => by kernel_rfl, anum_any⟩
set_option maxRecDepth 100000 in
set_option maxHeartbeats 2000000 in
theorem while_any (F : Nat) (p : UInt8 → Bool) (hp : IsP F p) (b : Nat) (T : TypeId) (s : ByteArray) (i n : Nat) (rest : List Value) (w : World) (h : LxB w b T s i n rest) (hs : s.size ≤ 4000000) (hi : i ≤ s.size) :
    Calls Tryz.prog 74 #[.pointer (some ⟨b, 0, none⟩), .func (.func F) #[] #[]] w fun e w' => e = .returned (.tuple #[]) ∧ FrB b w w' ∧ ∃ j, i ≤ j ∧ j ≤ s.size ∧ (bs s i).dropWhile p = bs s j ∧ bs s i = (bs s i).takeWhile p ++ bs s j ∧ LxB w' b T s j n rest := by
  obtain ⟨R, hR⟩ : ∃ R, (bs s i).dropWhile p = R := ⟨_, rfl⟩
  rw [hR]
  have HR := Lib.hid hR
  clear hR
  have hen := hp.enters
  have HC := Lib.hid hp.calls
  clear hp
  go_enter Tryz.func74, Tryz.ntmps74
  go_wp2_with fail
  go_loopw [] (fun wr => ∃ j : Nat, i ≤ j ∧ j ≤ s.size ∧ (bs s j).dropWhile p = R ∧ LxB wr b T s j n rest ∧ FrB b w wr) (fun wr => s.size - lxAt wr b)
  case atStart => exact ⟨i, Nat.le_refl _, hi, HR.out, h, Fr.refl _ _⟩
  case round =>
    clear h hi
    obtain ⟨j, hij, hj, hrest, hl, hfr⟩ := hrel
    have hat := hl.at_
    have fin : ∀ wq, R = bs s j → FrB b w wq → LxB wq b T s j n rest → FrB b w wq ∧ ∃ j, i ≤ j ∧ j ≤ s.size ∧ R = bs s j ∧ bs s i = (bs s i).takeWhile p ++ bs s j ∧ LxB wq b T s j n rest := fun wq h1 h2 h3 =>
      ⟨h2, j, hij, hj, h1, by rw [← h1, ← HR.out, List.takeWhile_append_dropWhile], h3⟩
    have FIN := Lib.hid fin
    clear fin
    have k0 := hl.c 0 rfl
    have k1 := hl.c 1 rfl
    have c0 := fun d os => cell_regrown k0 d os
    have c1 := fun d os => cell_regrown k1 d os
    by_cases hlt : j < s.size
    case' neg =>
      have hd : decide (j < s.size) = false := decide_eq_false hlt
      rw [bs_nil hlt, List.dropWhile_nil] at hrest
      have HREST := Lib.hid hrest
      clear hrest k0 k1
      go_wp2_with fail
      refine wp_region_quiet_below (by kernel_rfl) (by kernel_rfl) ?_
      repeat (go_big_quiet_step (fail))
      refine wpQuiet_nil ?_
      intro _ hw'
      obtain ⟨⟨dq, osq⟩, hw''⟩ := hw'
      subst hw''
      have hb3 := below_regrown wr dq osq
      go_wp2_with fail
      go_end0
      exact ⟨rfl, FIN.out _ (by rw [← HREST.out, bs_nil hlt]) (hfr.same (Fr.belowAll hb3)) (Blk.belowAll hl hb3)⟩
    case' pos =>
      have hd : decide (j < s.size) = true := decide_eq_true hlt
      rw [bs_cons hlt, List.dropWhile_cons] at hrest
      obtain ⟨v, hv⟩ : ∃ v, p s[j] = v := ⟨_, rfl⟩
      have hcc : ∀ d os, Calls Tryz.prog F #[.int .u8 (s[j].toNat : Nat)] (grow (redrawn wr d) os) fun e w'' => e = .returned (.bool v) ∧ ∃ p : Regrown, w'' = grow (redrawn wr p.d) p.os := fun d os => by
        refine (HC.out s[j] (grow (redrawn wr d) os)).mono ?_
        rintro e w'' ⟨rfl, rfl⟩
        exact ⟨by rw [hv], ⟨d, os⟩, rfl⟩
      rw [hv] at hrest
      have HREST := Lib.hid hrest
      clear hrest hv k0 k1
      cases v
      case' false =>
        go_wp2_with fail
        refine wp_region_quiet_below (by kernel_rfl) (by kernel_rfl) ?_
        repeat (go_big_quiet_step (exact hcc _ _))
        refine wpQuiet_nil ?_
        intro _ hw'
        obtain ⟨⟨dq, osq⟩, hw''⟩ := hw'
        subst hw''
        have hb3 := below_regrown wr dq osq
        go_wp2_with fail
        go_end0
        exact ⟨rfl, FIN.out _ (by rw [← HREST.out, bs_cons hlt]; rfl) (hfr.same (Fr.belowAll hb3)) (Blk.belowAll hl hb3)⟩
      case' true =>
        go_wp2_with fail
        refine wp_region_quiet_below (by kernel_rfl) (by kernel_rfl) ?_
        repeat (go_big_quiet_step (exact hcc _ _))
        refine wpQuiet_nil ?_
        intro _ hw'
        obtain ⟨⟨dq, osq⟩, hw''⟩ := hw'
        subst hw''
        have hb3 := below_regrown wr dq osq
        have hl3 : LxB (grow (redrawn wr dq) osq) b T s j n rest := Blk.belowAll hl hb3
        have hf3 : FrB b w (grow (redrawn wr dq) osq) := hfr.same (Fr.belowAll hb3)
        clear c0 c1 hcc hl hfr hb3
        generalize grow (redrawn wr dq) osq = w3 at *
        have k1 := hl3.c 1 rfl
        have f1 := hl3.fz 1
        go_wp2_with fail
        rw [show ((j : Int) + 1) = ((j + 1 : Nat) : Int) by omega]
        refine ⟨⟨j + 1, by omega, hlt, HREST.out, LxB.set1 hl3 (j + 1), hf3.set 1 _⟩, ?_⟩
        rw [(LxB.set1 hl3 (j + 1)).at_, hat]
        omega
end Go.Proofs.YtjendlnicbieoaaGreatDoor
