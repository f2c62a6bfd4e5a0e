/-
  Package source: Tokens, an iterator that keeps its lexer.
-/
import Derived.Test.YtjendlnicbieoaaGreatDoorRp
import Derived.Test.YtjendlnicbieoaaGreatDoorRzPs
namespace Go.Proofs.YtjendlnicbieoaaGreatDoor
open Go.RowKit Go.Sort
attribute [local go_sem] Oper.semAt_some

def goodT (t : Tk) : Bool := decide (t.k ≠ 0 ∧ t.k ≠ 1)
def lexG (l : Bs) (n : Nat) : List Tk := (lex l n).takeWhile goodT
/-- A text's tokens, as Tokens hands them. -/
def toksL (s : ByteArray) : List Tk := if 1048576 < s.size then [] else lexG (bs s 0) 0
theorem lexG_eq (l : Bs) (n : Nat) : lexG l n = if goodT (tok1 l n).1 = true then (tok1 l n).1 :: lexG (tok1 l n).2.1 (tok1 l n).2.2 else [] := by
  unfold lexG
  rw [lex_eq]
  split
  · rename_i h
    have hg : goodT (tok1 l n).1 = false := by simp [goodT, h]
    rw [List.takeWhile_cons, hg]
    simp
  · rw [List.takeWhile_cons]
def encT (t : Tk) : Array Value := #[.int .i64 (t.ln : Nat), .string ⟨t.s.toArray⟩]
def flagT (w : World) (v : Value) : Nat := match v with
  | .pointer (some a) => match w.cell? a with
    | some (.int _ i) => if i = 0 then 0 else 1
    | _ => 1
  | _ => 1
set_option maxRecDepth 100000 in
set_option maxHeartbeats 4000000 in
theorem tokens_iter (m : Nat) (s : ByteArray) (hs : s.size ≤ 4000000) (sb : Nat) (w : World) (h3 : 3 < w.heap.size) :
    IterP Tryz.prog m 47 #[.pointer (some ⟨sb, 0, none⟩)] encT (GL (toksL s)) (SL (toksL s)) (SpL (toksL s)) (fun W => Blk W sb 9 [.string s] ∧ EnvP W) w := by
  intro y J Jx W hW hJ hJx hJE hY h0
  have hc1 := (hJE _ _ h0).1.c 0 rfl
  have HJ := Lib.hid hJ
  have HJX := Lib.hid hJx
  have HJE := Lib.hid hJE
  have HY := Lib.hid hY
  clear hJ hJx hJE hY
  obtain ⟨L, hL⟩ : ∃ L, toksL s = L := ⟨_, rfl⟩
  rw [hL] at HY ⊢
  have HL := Lib.hid hL
  clear hL
  refine callsIn_of_wp Tryz.func47 rfl trivial ?_ rfl
  simp only [Tryz.ntmps47, List.size_toArray, List.length_cons, List.length_nil, Nat.reduceAdd, Nat.reduceSub, Array.replicate_succ, Array.replicate_zero, List.push_toArray, List.append_toArray, List.nil_append, List.cons_append]
  by_cases hlong : 1048576 < s.size
  · have hq : decide ((s.size : Int) > 1048576) = true := by simp; omega
    obtain rfl : L = [] := by
      rw [← HL.out]
      unfold toksL
      rw [if_pos hlong]
    clear hlong HL
    gi_wp2
    refine bodyPost_ret (results_none rfl _ _ _) rfl ?_
    exact ⟨⟨_, rfl⟩, .inl ⟨[], rfl, h0⟩⟩
  · have hq : decide ((s.size : Int) > 1048576) = false := by simp; omega
    have HL2 : Hid (lexG (bs s 0) 0 = L) := by
      show _ = _
      rw [← HL.out]
      unfold toksL
      rw [if_neg hlong]
    clear hlong HL
    have hlx := Blk.new W 103 [.string s, .int .i64 0, .int .i64 0]
    have hj1 := HJ.out [] W (W.alloc (.cells #[.string s, .int .i64 0, .int .i64 0] 103)) h0 (Fr.alloc _)
    gi_wp2
    clear h0 hc1
    have hzz : (W.alloc (.cells #[.string s, .int .i64 0, .int .i64 0] 103)).heap.size = W.heap.size + 1 := by simp
    generalize W.alloc (.cells #[.string s, .int .i64 0, .int .i64 0] 103) = w1 at *
    have hT1 := token_any W.heap.size 103 s 0 0 [] w1 hlx hs (Nat.zero_le _) (Nat.le_refl _) (HJE.out _ _ hj1).2 (by omega)
    refine ⟨trivial, wide_d _, (callsIn_wide.2 hT1).mono ?_⟩
    rintro e w2 ⟨hf2, i1, n1, k1, ln1, S1, rfl, hi01, hi1, hn1, hlx2, htk1, hk1, hln1⟩
    have hj2 := HJ.out [] w1 w2 hj1 (hf2.more fun k _ e => by omega)
    have hj3 := HJ.out [] w2 (w2.alloc (.cells #[.int .i64 (k1 : Nat), .string S1, .int .i64 (ln1 : Nat)] 106)) hj2 (Fr.alloc _)
    have hlx3 := hlx2.alloc (.cells #[.int .i64 (k1 : Nat), .string S1, .int .i64 (ln1 : Nat)] 106)
    have htb3 := Blk.new w2 106 [.int .i64 (k1 : Nat), .string S1, .int .i64 (ln1 : Nat)]
    have hz2 := hf2.size
    unfold tkV
    gi_wp2
    have HLS : Hid (L = [] ++ if goodT (tkO k1 S1 ln1) = true then tkO k1 S1 ln1 :: lexG (bs s i1) n1 else []) := by
      show _ = _
      rw [← HL2.out, lexG_eq, htk1, List.nil_append]
    clear hj1 hj2 hf2 hlx hT1
    have hz3 : (w2.alloc (.cells #[.int .i64 (k1 : Nat), .string S1, .int .i64 (ln1 : Nat)] 106)).heap.size = w2.heap.size + 1 := by simp
    have htw : w2.heap.size ≠ W.heap.size := by omega
    generalize w2.alloc (.cells #[.int .i64 (k1 : Nat), .string S1, .int .i64 (ln1 : Nat)] 106) = w3 at *
    gi_loopw [4] (fun tp wr => ∃ (tb i n k ln : Nat) (S : ByteArray) (pre : List Tk), tp = .pointer (some ⟨tb, 0, none⟩) ∧ Blk wr tb 106 [.int .i64 (k : Nat), .string S, .int .i64 (ln : Nat)] ∧ LxB wr W.heap.size 103 s i n [] ∧ i ≤ s.size ∧ n ≤ i ∧ W.heap.size < tb ∧
      L = pre ++ (if goodT (tkO k S ln) = true then tkO k S ln :: lexG (bs s i) n else []) ∧ J pre wr ∧ W.heap.size < wr.heap.size) (fun tp wr => 2 * (s.size - lxAt wr W.heap.size) + flagT wr tp)
    case atStart => exact ⟨_, i1, n1, k1, ln1, S1, [], rfl, htb3, hlx3, hi1, hn1, by omega, HLS.out, hj3, by omega⟩
    case round =>
      clear hlx3 htb3 hj3 hlx2
      obtain ⟨tb, i, n, k, ln, S, pre, rfl, htb, hlx, hi, hn, htl, hLr, hj, hwz⟩ := hrel
      have HLR := Lib.hid hLr
      clear hLr
      have t0 := htb.c 0 rfl
      have t1 := htb.c 1 rfl
      have t2 := htb.c 2 rfl
      by_cases hg : k ≠ 0 ∧ k ≠ 1
      case' neg =>
        have hq : ((k : Int) != 0) = false ∨ (((k : Int) != 0) = true ∧ ((k : Int) != 1) = false) := by
          by_cases e : k = 0
          · exact .inl (by simp [e])
          · exact .inr ⟨by simp; omega, by rw [show k = 1 by omega]; rfl⟩
        have hP : Hid (pre = L) := by
          show _ = _
          rw [HLR.out, if_neg (by simp [goodT]; omega), List.append_nil]
        clear hg
        rcases hq with q1 | ⟨q1, q2⟩
        all_goals
          gi_wp2
          refine bodyPost_end (results_none rfl _ _ _) rfl ?_
          exact ⟨⟨_, rfl⟩, .inl ⟨pre, hP.out, hj⟩⟩
      case' pos =>
        have q1 : ((k : Int) != 0) = true := by simp; omega
        have q2 : ((k : Int) != 1) = true := by simp; omega
        have hL2 : L = pre ++ tkO k S ln :: lexG (bs s i) n := by rw [HLR.out, if_pos (by simp [goodT]; omega)]
        obtain ⟨fn, tmps, assign, body, hy, hR⟩ := HY.out pre (tkO k S ln) wr hj ⟨_, hL2⟩ (by omega)
        dsimp only [encT] at hy
        have HL3 := Lib.hid hL2
        clear hL2 hg
        gi_wp2
        refine ⟨wide_d _, hR.mono ?_⟩
        rintro e w5 ⟨(⟨rfl, hj5⟩ | ⟨rfl, hj5⟩), hf5⟩
        · have hlx5 := hlx.fr hf5 (by omega)
          have htb5 := htb.fr hf5 (by omega)
          have hz5 := hf5.size
          clear t0 t1 t2
          have u0 := htb5.c 0 rfl
          have u1 := htb5.c 1 rfl
          have u2 := htb5.c 2 rfl
          have hj6 := HJ.out _ w5 (w5.alloc (.cells #[.int .i64 (k : Nat), .string S, .int .i64 (ln : Nat)] 106)) hj5 (Fr.alloc _)
          have hlx6 := hlx5.alloc (.cells #[.int .i64 (k : Nat), .string S, .int .i64 (ln : Nat)] 106)
          have htb6 := Blk.new w5 106 [.int .i64 (k : Nat), .string S, .int .i64 (ln : Nat)]
          have hz6 : (w5.alloc (.cells #[.int .i64 (k : Nat), .string S, .int .i64 (ln : Nat)] 106)).heap.size = w5.heap.size + 1 := by simp
          have hT6 := token_any W.heap.size 103 s i n [] _ hlx6 hs hi hn (HJE.out _ _ hj6).2 (by omega)
          unfold TokE tkV at hT6
          gi_wp2
          refine ⟨trivial, wide_d _, (callsIn_wide.2 hT6).mono ?_⟩
          rintro e w7 ⟨hf7, i8, n8, k8, ln8, S8, rfl, hi08, hi8, hn8, hlx7, htk8, hk8, hln8⟩
          have hj7 := HJ.out _ _ w7 hj6 (hf7.more fun k _ e => by omega)
          have htb7 := htb6.fr hf7 (by omega)
          have hz7 := hf7.size
          clear u0 u1 u2
          have v0 := htb7.c 0 rfl
          have v1 := htb7.c 1 rfl
          have v2 := htb7.c 2 rfl
          have x0 := htb7.fz 0
          have x1 := htb7.fz 1
          have x2 := htb7.fz 2
          have hsF : Fr (fun q => q = w5.heap.size) w7 (((w7.setCell ⟨w5.heap.size, 0, none⟩ (.int .i64 (k8 : Nat))).setCell ⟨w5.heap.size, 1, none⟩ (.string S8)).setCell ⟨w5.heap.size, 2, none⟩ (.int .i64 (ln8 : Nat))) :=
            ((Fr.set (S := fun q => q = w5.heap.size) (q := ⟨w5.heap.size, 0, none⟩) (.inl rfl)).same (Fr.set (q := ⟨w5.heap.size, 1, none⟩) (.inl rfl))).same (Fr.set (q := ⟨w5.heap.size, 2, none⟩) (.inl rfl))
          have htb8 : Blk _ w5.heap.size 106 [.int .i64 (k8 : Nat), .string S8, .int .i64 (ln8 : Nat)] := ((htb7.set 0 (.int .i64 (k8 : Nat))).set 1 (.string S8)).set 2 (.int .i64 (ln8 : Nat))
          have hlx8 : LxB _ W.heap.size 103 s i8 n8 [] := hlx7.fr hsF (by omega)
          have hj8 := HJ.out _ _ _ hj7 (hsF.more fun k _ e => by omega)
          have hz8 := hsF.size
          have HLF : Hid (L = (pre ++ [tkO k S ln]) ++ if goodT (tkO k8 S8 ln8) = true then tkO k8 S8 ln8 :: lexG (bs s i8) n8 else []) := by
            show _ = _
            rw [HL3.out, lexG_eq, htk8]
            simp
          have hnx : k8 ≠ 0 → i < i8 := fun h => by
            have := tok1_len (bs s i) n (by rw [htk8]; exact h)
            rw [htk8] at this
            dsimp only at this
            rw [bs_len, bs_len] at this
            omega
          have hm0 : flagT wr (.pointer (some ⟨tb, 0, none⟩)) = 1 := by
            have hk : (k : Int) ≠ 0 := by simpa using q1
            unfold flagT
            dsimp only
            rw [htb.c 0 rfl]
            dsimp only
            rw [if_neg hk]
          have hm1 : lxAt wr W.heap.size = i := LxB.at_ hlx
          have hm8 := LxB.at_ hlx8
          have c8 := htb8.c 0 rfl
          gi_wp2
          generalize ((w7.setCell ⟨w5.heap.size, 0, none⟩ (.int .i64 (k8 : Nat))).setCell ⟨w5.heap.size, 1, none⟩ (.string S8)).setCell ⟨w5.heap.size, 2, none⟩ (.int .i64 (ln8 : Nat)) = w8 at *
          go_roundw
          case rel => exact ⟨_, i8, n8, k8, ln8, S8, pre ++ [tkO k S ln], rfl, htb8, hlx8, hi8, hn8, by omega, HLF.out, hj8, by omega⟩
          case measure =>
            show 2 * (s.size - lxAt w8 W.heap.size) + flagT w8 (.pointer (some ⟨w5.heap.size, 0, none⟩)) < 2 * (s.size - lxAt wr W.heap.size) + flagT wr (.pointer (some ⟨tb, 0, none⟩))
            rw [hm8, hm1, hm0]
            by_cases e8 : k8 = 0
            · have : flagT w8 (.pointer (some ⟨w5.heap.size, 0, none⟩)) = 0 := by
                unfold flagT
                dsimp only
                rw [c8, e8]
                rfl
              rw [this]
              omega
            · have := hnx e8
              have h1 : flagT w8 (.pointer (some ⟨w5.heap.size, 0, none⟩)) ≤ 1 := by
                unfold flagT
                dsimp only
                rw [c8]
                dsimp only
                split <;> omega
              omega
        · gi_wp2
          refine bodyPost_ret (results_none rfl _ _ _) rfl ?_
          exact ⟨⟨_, rfl⟩, .inr ⟨_, ⟨lexG (bs s i) n, by rw [HL3.out]; simp⟩, hj5⟩⟩
end Go.Proofs.YtjendlnicbieoaaGreatDoor
/-
  Package source: Tokens; package program: Size.
-/
namespace Go.Proofs.YtjendlnicbieoaaGreatDoor
open Go.RowKit Go.Sort
attribute [local go_sem] Oper.semAt_some

set_option maxRecDepth 100000 in
set_option maxHeartbeats 1000000 in
theorem Tokens_any (s : ByteArray) (w : World) : Calls Tryz.prog 20 #[.string s] w fun e w' => e = .returned (.func (.func 47) #[] #[.pointer (some ⟨w.heap.size, 0, none⟩)]) ∧ Below w.heap.size w w' ∧ Blk w' w.heap.size 9 [.string s] := by
  have hmf : ∀ (fn : Go.Fn) (first cap : Array Value) (w : World), (Instr.makeFunc fn first cap).run Tryz.prog w = .ok (.func fn first cap) w := fun _ _ _ _ => rfl
  have hb := Blk.new w 9 [.string s]
  go_enter Tryz.func20, Tryz.ntmps20
  go_wp2_with fail
  go_ret
  exact ⟨rfl, below_new _ _, hb⟩
/-- How many nodes a program has. -/
def sizeN : List Fn → Nat
  | [] => 0
  | f :: r => f.ns.length + sizeN r
theorem sizeN_app : ∀ a b : List Fn, sizeN (a ++ b) = sizeN a + sizeN b
  | [], b => by simp [sizeN]
  | f :: r, b => by rw [List.cons_append, sizeN, sizeN, sizeN_app r b]; omega
theorem sizeN_take {p : List Fn} {k : Nat} {f : Fn} (h : p[k]? = some f) : sizeN (p.take (k + 1)) = sizeN (p.take k) + f.ns.length := by
  obtain ⟨h1, h2⟩ := List.getElem?_eq_some_iff.1 h
  rw [List.take_succ_eq_append_getElem h1, sizeN_app, h2]
  simp [sizeN]
theorem sizeN_bound {p : List Fn} (h : ∀ f ∈ p, f.ns.length ≤ 1000000) : sizeN p ≤ 1000000 * p.length := by
  induction p with
  | nil => simp [sizeN]
  | cons f r ih =>
    have h1 := h f (.head _)
    have h2 := ih fun g hg => h g (.tail _ hg)
    simp only [sizeN, List.length_cons]
    omega
set_option maxRecDepth 100000 in
set_option maxHeartbeats 2000000 in
theorem Size_any (p : List Fn) (pa : Option Addr) (cap : Nat) (w : World) (hP : PAt (· < w.heap.size) w p pa cap) (hp : p.length ≤ 100000) (hn : ∀ f ∈ p, f.ns.length ≤ 1000000) :
    Calls Tryz.prog 21 #[prV p pa cap] w fun e w' => e = .returned (.int .i64 (sizeN p : Nat)) ∧ Below w.heap.size w w' := by
  have hb := Blk.new w 24 [.slice pa p.length cap]
  have hw1 := below_new w (.cells #[.slice pa p.length cap] 24)
  have c0 := hb.c 0 rfl
  have HN := Lib.hid hn
  clear hn
  unfold prV
  go_enter Tryz.func21, Tryz.ntmps21
  go_wp2_with fail
  clear c0 hb
  generalize w.alloc (.cells #[.slice pa p.length cap] 24) = w1 at *
  go_loopw [3, 5, 9] (fun sv _ kv wr => ∃ k : Nat, kv = .int .i64 (k : Nat) ∧ sv = .int .i64 (sizeN (p.take k) : Nat) ∧ k ≤ p.length ∧ Below w.heap.size w wr) (fun _ _ kv _ => p.length - (intOf kv).toNat)
  case atStart => exact ⟨0, rfl, rfl, Nat.zero_le _, hw1⟩
  case round =>
    obtain ⟨k, rfl, rfl, hk, hbw⟩ := hrel
    by_cases hlt : k < p.length
    case' neg =>
      have hd : decide (k < p.length) = false := by simpa using hlt
      obtain rfl : k = p.length := by omega
      go_wp2_with fail
      go_ret
      exact ⟨by simp, hbw⟩
    case' pos =>
      have hd : decide (k < p.length) = true := by simpa using hlt
      obtain ⟨f, hf⟩ : ∃ f, p[k]? = some f := ⟨p[k], List.getElem?_eq_getElem hlt⟩
      obtain ⟨g, o, na, cp, rfl, hg, q0, q1, hc1, hc2, -, hr⟩ := hP.fs k f hf
      have y0 := (hbw.cell (p := ⟨g, o + k * 2, none⟩) hg).trans q0
      have y1 := (hbw.cell (p := ⟨g, o + k * 2 + 1, none⟩) hg).trans q1
      have hF := Blk.new wr 46 [.int .i64 f.ps, .slice na f.ns.length cp]
      have f0 := hF.c 0 rfl
      have f1 := hF.c 1 rfl
      have HS := Lib.hid (sizeN_take hf)
      have hnf := HN.out f (List.mem_of_getElem? hf)
      have hsk : sizeN (p.take k) ≤ 100000000000 := by
        have h1 := sizeN_bound (p := p.take k) fun g hg => HN.out g (List.mem_of_mem_take hg)
        have h2 : (p.take k).length ≤ k := by simp; omega
        have : 1000000 * (p.take k).length ≤ 1000000 * 100000 := Nat.mul_le_mul_left _ (by omega)
        omega
      have hb2 := hbw.alloc hbw.size (.cells #[.int .i64 f.ps, .slice na f.ns.length cp] 46)
      generalize hsn : sizeN (p.take k) = N at *
      have HSN := Lib.hid hsn
      clear q0 q1 hsn hf
      go_wp2_with fail
      go_roundw
      case' rel => exact ⟨k + 1, by go_num, by rw [HS.out]; simp, by omega, hb2⟩
      case' measure =>
        show p.length - ((k : Int) + 1).toNat < p.length - ((k : Nat) : Int).toNat
        omega
end Go.Proofs.YtjendlnicbieoaaGreatDoor
