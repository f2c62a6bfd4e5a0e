/-
  Layer 9's statements: few.
-/
import Derived.Test.YtjendlnicbieoaaGreatDoorProA
namespace Go.Proofs.YtjendlnicbieoaaGreatDoor
open Go.RowKit Go.Sort
attribute [local go_sem] Oper.semAt_some

def fewF (f : Fn) : Bool := decide (f.ns.length ≤ 220) && f.ns.all fun x => decide (x.l.length ≤ 20)
/-- Has a program at most 8 functions, of at most 220 nodes, each with at most 20 beneath it? -/
def fewP (p : List Fn) : Bool := decide (p.length ≤ 8) && p.all fewF
theorem few_bad {p : List Fn} {j : Nat} {f : Fn} (hf : p[j]? = some f) (h : fewF f = false) : fewP p = false := by
  cases e : fewP p with
  | false => rfl
  | true =>
    unfold fewP at e
    rw [Bool.and_eq_true, List.all_eq_true] at e
    rw [e.2 f (List.mem_of_getElem? hf)] at h
    cases h
theorem few_badN {f : Fn} {k : Nat} {x : Nd} (hx : f.ns[k]? = some x) (h : 20 < x.l.length) : fewF f = false := by
  cases e : fewF f with
  | false => rfl
  | true =>
    unfold fewF at e
    rw [Bool.and_eq_true, List.all_eq_true] at e
    have := e.2 x (List.mem_of_getElem? hx)
    simp at this
    omega
theorem few_good {p : List Fn} (h8 : p.length ≤ 8) (h : ∀ (j : Nat) (f : Fn), p[j]? = some f → fewF f = true) : fewP p = true := by
  unfold fewP
  rw [Bool.and_eq_true, List.all_eq_true]
  refine ⟨by simpa using h8, fun f hf => ?_⟩
  obtain ⟨j, hj⟩ := List.getElem?_of_mem hf
  exact h j f hj
theorem few_goodN {f : Fn} (h2 : f.ns.length ≤ 220) (h : ∀ (k : Nat) (x : Nd), f.ns[k]? = some x → x.l.length ≤ 20) : fewF f = true := by
  unfold fewF
  rw [Bool.and_eq_true, List.all_eq_true]
  refine ⟨by simpa using h2, fun x hx => ?_⟩
  obtain ⟨k, hk⟩ := List.getElem?_of_mem hx
  simpa using h k x hk
set_option maxRecDepth 100000 in
set_option maxHeartbeats 4000000 in
theorem few_any (p : List Fn) (pa : Option Addr) (cap : Nat) (w : World) (hP : PAt (· < w.heap.size) w p pa cap) : Calls Tryz.prog 7 #[prV p pa cap] w fun e w' => e = .returned (.bool (fewP p)) ∧ Below w.heap.size w w' := by
  have hbp := Blk.new w 24 [.slice pa p.length cap]
  have hw1 := below_new w (.cells #[.slice pa p.length cap] 24)
  have c0 := hbp.c 0 rfl
  have hP1 := hP.later hw1
  obtain ⟨r, hr⟩ : ∃ r, fewP p = r := ⟨_, rfl⟩
  rw [hr]
  have HR := Lib.hid hr
  clear hr
  have hpl := hP.le
  have hpm := hP.cap
  unfold maxLen at hpm
  unfold prV
  by_cases h8 : p.length ≤ 8
  case' neg =>
    have hd : decide (p.length > 8) = true := by simpa using h8
    have hd2 : decide ((8 : Int) < p.length) = true := by simp; omega
    obtain rfl : r = false := by
      rw [← HR.out]
      unfold fewP
      simp [h8]
    go_enter Tryz.func7, Tryz.ntmps7
    go_wp2_with fail
    go_ret
    exact ⟨rfl, hw1⟩
  case' pos =>
    have hd : decide (p.length > 8) = false := by simpa using h8
    have hd2 : decide ((8 : Int) < p.length) = false := by simp; omega
    go_enter Tryz.func7, Tryz.ntmps7
    go_upto_region 3 with fail
    generalize w.alloc (.cells #[.slice pa p.length cap] 24) = w1 at *
    clear hd hd2
    go_wp2_with fail
    go_loop [3, 4] (fun iv _ => ∃ j : Nat, iv = .int .i64 (j : Nat) ∧ j ≤ p.length ∧ Hid (∀ (i : Nat) (f : Fn), i < j → p[i]? = some f → fewF f = true)) (fun iv _ => p.length - (intOf iv).toNat)
    case atStart => exact ⟨0, rfl, Nat.zero_le _, Lib.hid fun i f h => by omega⟩
    case round =>
      obtain ⟨j, rfl, hj, HF⟩ := hrel
      by_cases hlt : j < p.length
      case' neg =>
        have hd : decide (j < p.length) = false := decide_eq_false hlt
        obtain rfl : r = true := by
          rw [← HR.out]
          exact few_good h8 fun i f h => HF.out i f (by have := (List.getElem?_eq_some_iff.1 h).1; omega) h
        go_wp2_with fail
        go_ret
        exact ⟨rfl, hw1⟩
      case' pos =>
        have hd : decide (j < p.length) = true := decide_eq_true hlt
        obtain ⟨f, hf⟩ : ∃ f, p[j]? = some f := ⟨p[j], List.getElem?_eq_getElem hlt⟩
        obtain ⟨g, o, na, cp, rfl, hg, q0, q1, hc1, hc2, hns, hr⟩ := hP1.fs j f hf
        have HFJ := Lib.hid hf
        unfold maxLen at hc2
        clear q0 hf
        by_cases h220 : f.ns.length ≤ 220
        case' neg =>
          have he : decide (f.ns.length > 220) = true := by simpa using h220
          have he2 : decide ((220 : Int) < f.ns.length) = true := by simp; omega
          obtain rfl : r = false := by
            rw [← HR.out]
            refine few_bad HFJ.out ?_
            unfold fewF
            simp [h220]
          go_wp2_with fail
          go_ret
          exact ⟨rfl, hw1⟩
        case' pos =>
          have he : decide (f.ns.length > 220) = false := by simpa using h220
          have he2 : decide ((220 : Int) < f.ns.length) = false := by simp; omega
          go_wp2_with fail
          go_loop [4] (fun kv => ∃ k : Nat, kv = .int .i64 (k : Nat) ∧ k ≤ f.ns.length ∧ Hid (∀ (i : Nat) (x : Nd), i < k → f.ns[i]? = some x → x.l.length ≤ 20)) (fun kv => f.ns.length - (intOf kv).toNat)
          case atStart => exact ⟨0, rfl, Nat.zero_le _, Lib.hid fun i f h => by omega⟩
          case round =>
            obtain ⟨k, rfl, hk, HN⟩ := hrel
            by_cases hlt2 : k < f.ns.length
            case' neg =>
              have hd3 : decide (k < f.ns.length) = false := decide_eq_false hlt2
              go_wp2_with fail
              go_round
              case rel =>
                refine ⟨j + 1, by go_num, hlt, Lib.hid fun i f2 hi hf2 => ?_⟩
                by_cases e : i = j
                · subst e
                  rw [HFJ.out] at hf2
                  injection hf2 with hf2
                  subst hf2
                  exact few_goodN h220 fun m x hx => HN.out m x (by have := (List.getElem?_eq_some_iff.1 hx).1; omega) hx
                · exact HF.out i f2 (by omega) hf2
              case measure =>
                show p.length - ((j : Int) + 1).toNat < p.length - ((j : Nat) : Int).toNat
                omega
            case' pos =>
              have hd3 : decide (k < f.ns.length) = true := decide_eq_true hlt2
              obtain ⟨x, hx⟩ : ∃ x, f.ns[k]? = some x := ⟨f.ns[k], List.getElem?_eq_getElem hlt2⟩
              obtain ⟨g2, o2, la, lc, rfl, hg2, -, -, y2, hl1, hm1, -, -, -⟩ := hns k x hx
              have HXK := Lib.hid hx
              unfold maxLen at hm1
              clear hx
              by_cases h20 : x.l.length ≤ 20
              case' neg =>
                have he3 : decide (x.l.length > 20) = true := by simpa using h20
                have he4 : decide ((20 : Int) < x.l.length) = true := by simp; omega
                obtain rfl : r = false := by
                  rw [← HR.out]
                  exact few_bad HFJ.out (few_badN HXK.out (by omega))
                go_wp2_with fail
                go_ret
                exact ⟨rfl, hw1⟩
              case' pos =>
                have he3 : decide (x.l.length > 20) = false := by simpa using h20
                have he4 : decide ((20 : Int) < x.l.length) = false := by simp; omega
                go_wp2_with fail
                go_round
                case rel =>
                  refine ⟨k + 1, by go_num, hlt2, Lib.hid fun i x2 hi hx2 => ?_⟩
                  by_cases e : i = k
                  · subst e
                    rw [HXK.out] at hx2
                    injection hx2 with hx2
                    subst hx2
                    exact h20
                  · exact HN.out i x2 (by omega) hx2
                case measure =>
                  show f.ns.length - ((k : Int) + 1).toNat < f.ns.length - ((k : Nat) : Int).toNat
                  omega
end Go.Proofs.YtjendlnicbieoaaGreatDoor
