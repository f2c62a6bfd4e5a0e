/-
  Events' text and bytes (layer 23): what is read back is what was written, and the other way about, event by event. Plain.
-/
import Derived.Test.YtjldbbcdhdfliaaGreatDoorVg
import Derived.Test.YtjldbbcdhdfliaaGreatDoorTtTu
import Derived.Test.YtjldbbcdhdfliaaGreatDoorTkTl
import Derived.Test.YtjldbbcdhdfliaaGreatDoorHold
import Derived.Test.YtjldbbcdhdfliaaGreatDoorLn
import Derived.Test.YtjldbbcdhdfliaaGreatDoorViVj
import Derived.Test.YtjldbbcdhdfliaaGreatDoorTv
import Derived.Test.YtjldbbcdhdfliaaGreatDoorFw
import Derived.Test.YtjldbbcdhdfliaaGreatDoorZaZb
import Derived.Test.YtjldbbcdhdfliaaGreatDoorUcUh
import Derived.Test.YtjldbbcdhdfliaaGreatDoorVk
import Derived.Test.YtjldbbcdhdfliaaGreatDoorTmTq
import Derived.Laws.BytesArg
namespace Go.Proofs.YtjldbbcdhdfliaaGreatDoor
open Go.RowKit

theorem wdl_40 (k : Nat) : ∀ c ∈ wdl k, 40 ≤ c.toNat := by
  unfold wdl
  split <;> decide
theorem itoa_40 (n : Int) : ∀ c ∈ Lib.itoa n, 40 ≤ c.toNat := by
  intro c hc
  rcases Int.lt_or_le n 0 with h | h
  · obtain ⟨m, rfl⟩ : ∃ m : Nat, n = -(m : Int) := ⟨(-n).toNat, by omega⟩
    rw [itoa_neg (by omega)] at hc
    rcases List.mem_cons.1 hc with rfl | hc
    · decide
    · have := dec_digits m c hc
      omega
  · rw [itoa_pos h] at hc
    have := dec_digits _ c hc
    omega
mutual
theorem txt_40 : ∀ (t : VT), ∀ c ∈ txt t, 40 ≤ c.toNat
  | .mk k n l => by
    intro c hc
    rw [txt] at hc
    split at hc
    · exact itoa_40 n c hc
    · rcases List.mem_append.1 hc with hc | hc
      · exact wdl_40 _ c hc
      · split at hc
        · cases hc
        · rcases List.mem_cons.1 hc with rfl | hc
          · decide
          · rcases List.mem_append.1 hc with hc | hc
            · split at hc
              · exact itoa_40 n c hc
              · cases hc
            · rcases List.mem_append.1 hc with hc | hc
              · exact txtL_40 l _ c hc
              · obtain rfl := List.mem_singleton.1 hc
                decide
theorem txtL_40 : ∀ (l : List VT) (b : Bool), ∀ c ∈ txtL l b, 40 ≤ c.toNat
  | [], _ => by
    intro c hc
    rw [txtL] at hc
    cases hc
  | t :: r, b => by
    intro c hc
    rw [txtL] at hc
    rcases List.mem_append.1 hc with hc | hc
    · split at hc
      · obtain rfl := List.mem_singleton.1 hc
        decide
      · cases hc
    · rcases List.mem_append.1 hc with hc | hc
      · exact txt_40 t c hc
      · exact txtL_40 r true c hc
end
/-- Words, a blank ahead of each. -/
def joinT : List (List UInt8) → List UInt8
  | [] => []
  | a :: r => 32 :: (a ++ joinT r)
theorem words_join : ∀ (l a : List UInt8) (r : List (List UInt8)), wordsL l = a :: r → l = a ++ joinT r
  | [], a, r, h => by
    rw [wordsL] at h
    cases h
    rfl
  | c :: l, a, r, h => by
    cases hw : wordsL l with
    | nil => exact absurd hw (wordsL_ne l)
    | cons b s =>
      have ih := words_join l b s hw
      by_cases hc : c = 32
      · subst hc
        rw [wordsL_blank, hw] at h
        cases h
        rw [joinT, ← ih]
        rfl
      · rw [wordsL_cons hc hw] at h
        cases h
        rw [List.cons_append, ← ih]
theorem not32 {c : UInt8} (h : 40 ≤ c.toNat) : c ≠ 32 := by
  intro e
  rw [e] at h
  exact absurd h (by decide)
theorem words_one : ∀ a : List UInt8, (∀ c ∈ a, 40 ≤ c.toNat) → wordsL a = [a]
  | [], _ => rfl
  | c :: a, h => wordsL_cons (not32 (h c (by simp))) (words_one a fun d hd => h d (by simp [hd]))
theorem words_blank : ∀ (a b : List UInt8), (∀ c ∈ a, 40 ≤ c.toNat) → wordsL (a ++ 32 :: b) = a :: wordsL b
  | [], b, _ => wordsL_blank b
  | c :: a, b, h => wordsL_cons (not32 (h c (by simp))) (words_blank a b fun d hd => h d (by simp [hd]))
theorem words_back : ∀ (r : List (List UInt8)) (a : List UInt8), (∀ x ∈ a :: r, ∀ c ∈ x, 40 ≤ c.toNat) → wordsL (a ++ joinT r) = a :: r
  | [], a, h => by
    rw [joinT, List.append_nil]
    exact words_one a (h a (by simp))
  | b :: r, a, h => by
    rw [joinT, words_blank a _ (h a (by simp)), words_back r b fun x hx => h x (List.mem_cons_of_mem _ hx)]
theorem parts_of (s : ByteArray) : partsS s = (wordsL s.data.toList).map fun l => (⟨l.toArray⟩ : ByteArray) := by
  rw [← parts_words, List.map_map]
  have : ((fun l : List UInt8 => (⟨l.toArray⟩ : ByteArray)) ∘ fun s : ByteArray => s.data.toList) = id := by
    funext x
    obtain ⟨x⟩ := x
    simp
  rw [this, List.map_id]
theorem rowT_join (x : Ev) : ∀ l, rowT x l = joinT (l.map (fldT x))
  | [] => rfl
  | i :: l => by
    rw [rowT, rowT_join x l]
    rfl
/-- A field's value is put. -/
def Fill (y : Ev) (i : Nat) (z : Ev) : Prop := if i = 4 then ∃ t, parse ⟨(txt t).toArray⟩ = .ok t ∧ z = { y with v := t } else ∃ n : Int, leastE i ≤ n ∧ n ≤ 9223372036854775807 ∧ z = setF y i n
def Fills (y : Ev) : List Nat → Ev → Prop
  | [], z => z = y
  | i :: l, z => ∃ y', Fill y i y' ∧ Fills y' l z
/-- Two events have that field alike. -/
def SameF (i : Nat) (a b : Ev) : Prop := if i = 4 then a.v = b.v else a.fld i = b.fld i
theorem Fill.mkV {y : Ev} {t : VT} (h : parse ⟨(txt t).toArray⟩ = .ok t) : Fill y 4 { y with v := t } := by
  unfold Fill
  rw [if_pos rfl]
  exact ⟨t, h, rfl⟩
theorem Fill.mkN {y : Ev} {i : Nat} {n : Int} (hi : i ≠ 4) (h1 : leastE i ≤ n) (h2 : n ≤ 9223372036854775807) : Fill y i (setF y i n) := by
  unfold Fill
  rw [if_neg hi]
  exact ⟨n, h1, h2, rfl⟩
theorem Fill.val {y z : Ev} (h : Fill y 4 z) : ∃ t, parse ⟨(txt t).toArray⟩ = .ok t ∧ z = { y with v := t } := by
  unfold Fill at h
  rwa [if_pos rfl] at h
theorem Fill.num {y z : Ev} {i : Nat} (h : Fill y i z) (hi : i ≠ 4) : ∃ n : Int, leastE i ≤ n ∧ n ≤ 9223372036854775807 ∧ z = setF y i n := by
  unfold Fill at h
  rwa [if_neg hi] at h
theorem lt5 {i : Nat} (h : i < 5) : i = 0 ∨ i = 1 ∨ i = 2 ∨ i = 3 ∨ i = 4 := by omega
theorem setF_fld {y : Ev} {i : Nat} {n : Int} (hi : i < 5) (h4 : i ≠ 4) : (setF y i n).fld i = n := by
  rcases lt5 hi with rfl | rfl | rfl | rfl | rfl
  · rfl
  · rfl
  · rfl
  · rfl
  · exact absurd rfl h4
theorem SameF.refl (i : Nat) (a : Ev) : SameF i a a := by
  unfold SameF
  split <;> rfl
theorem SameF.trans {i : Nat} {a b c : Ev} (h1 : SameF i a b) (h2 : SameF i b c) : SameF i a c := by
  unfold SameF at *
  by_cases h : i = 4
  · rw [if_pos h] at *
    exact Eq.trans h1 h2
  · rw [if_neg h] at *
    exact Eq.trans h1 h2
theorem sameT {i : Nat} {a b : Ev} (h : SameF i a b) : fldT a i = fldT b i := by
  unfold SameF at h
  unfold fldT
  by_cases h4 : i = 4
  · rw [if_pos h4] at h
    rw [if_pos h4, if_pos h4, h]
  · rw [if_neg h4] at h
    rw [if_neg h4, if_neg h4, h]
theorem sameB {i : Nat} {a b : Ev} (h : SameF i a b) : fldB a i = fldB b i := by
  unfold SameF at h
  unfold fldB
  by_cases h4 : i = 4
  · rw [if_pos h4] at h
    rw [if_pos h4, if_pos h4, h]
  · rw [if_neg h4] at h
    rw [if_neg h4, if_neg h4, h]
theorem Fill.same {y z : Ev} {i j : Nat} (h : Fill y i z) (hi : i < 5) (hj : j < 5) (hij : j ≠ i) : SameF j z y := by
  by_cases h4 : i = 4
  · subst h4
    obtain ⟨t, _, rfl⟩ := h.val
    rcases lt5 hj with rfl | rfl | rfl | rfl | rfl <;> first | rfl | exact absurd rfl hij
  · obtain ⟨n, _, _, rfl⟩ := h.num h4
    rcases lt5 hi with rfl | rfl | rfl | rfl | rfl <;> rcases lt5 hj with rfl | rfl | rfl | rfl | rfl <;> first | rfl | exact absurd rfl hij | exact absurd rfl h4
theorem Fills.same : ∀ {l : List Nat} {y z : Ev} {j : Nat}, Fills y l z → (∀ i ∈ l, i < 5) → j < 5 → j ∉ l → SameF j z y
  | [], y, z, j, h, _, _, _ => by
    have e : z = y := h
    rw [e]
    exact SameF.refl _ _
  | i :: l, y, z, j, ⟨y', h1, h2⟩, hl, hj, hn =>
    (Fills.same h2 (fun k hk => hl k (by simp [hk])) hj (fun hk => hn (by simp [hk]))).trans (h1.same (hl i (by simp)) hj (fun e => hn (by simp [e])))
-- TEXT
theorem fldP_inv {y z : Ev} {i : Nat} {p : ByteArray} (hi : i < 5) (h : fldP y i p = some z) : Fill y i z ∧ fldT z i = p.data.toList := by
  unfold fldP at h
  by_cases h4 : i = 4
  · subst h4
    rw [if_pos rfl] at h
    cases hp : parse p with
    | error e =>
      rw [hp] at h
      cases h
    | ok t =>
      rw [hp] at h
      cases h
      have e := (parse_snd hp).1
      have e2 : (⟨(txt t).toArray⟩ : ByteArray) = p := ba_ext (by simpa using e)
      exact ⟨Fill.mkV (by rw [e2]; exact hp), e⟩
  · rw [if_neg h4] at h
    by_cases hd : i = 2 ∧ p.toList = [45]
    · rw [if_pos hd] at h
      obtain ⟨rfl, hp⟩ := hd
      cases h
      rw [ByteArray.toList_eq] at hp
      exact ⟨Fill.mkN (by decide) (by decide) (by decide), by rw [hp]; rfl⟩
    · rw [if_neg hd] at h
      cases hn : numL p.data.toList with
      | none =>
        rw [hn] at h
        cases h
      | some n =>
        rw [hn] at h
        cases h
        obtain ⟨e, hle⟩ := numL_some hn
        refine ⟨Fill.mkN h4 ?_ (by omega), ?_⟩
        · unfold leastE
          split <;> omega
        · unfold fldT
          rw [if_neg h4, setF_fld hi h4, if_neg (by omega), itoa_nat, e]
theorem rowP_inv : ∀ (l : List Nat) (ps : List ByteArray) (y z : Ev), l.Nodup → (∀ i ∈ l, i < 5) → ps.length = l.length → rowP y l ps = some z → Fills y l z ∧ l.map (fldT z) = ps.map (·.data.toList)
  | [], [], y, z, _, _, _, h => by
    simp only [rowP, Option.some.injEq] at h
    exact ⟨h.symm, rfl⟩
  | i :: l, p :: ps, y, z, hn, hl, hlen, h => by
    rw [rowP] at h
    cases hf : fldP y i p with
    | none =>
      rw [hf] at h
      cases h
    | some y' =>
      rw [hf] at h
      obtain ⟨f1, t1⟩ := fldP_inv (hl i (by simp)) hf
      have hn2 := List.nodup_cons.1 hn
      obtain ⟨f2, t2⟩ := rowP_inv l ps y' z hn2.2 (fun j hj => hl j (by simp [hj])) (by simpa using hlen) h
      refine ⟨⟨y', f1, f2⟩, ?_⟩
      rw [List.map_cons, List.map_cons, t2, sameT (f2.same (fun j hj => hl j (by simp [hj])) (hl i (by simp)) hn2.1), t1]
  | [], p :: ps, _, _, _, _, h, _ => by simp at h
  | i :: l, [], _, _, _, _, h, _ => by simp at h
theorem fldP_fwd {y z : Ev} {i : Nat} (hi : i < 5) (h : Fill y i z) : fldP y i ⟨(fldT z i).toArray⟩ = some z := by
  unfold fldP
  by_cases h4 : i = 4
  · subst h4
    obtain ⟨t, hp, rfl⟩ := h.val
    rw [if_pos rfl]
    have : fldT { y with v := t } 4 = txt t := rfl
    rw [this, hp]
  · obtain ⟨n, h1, h2, rfl⟩ := h.num h4
    rw [if_neg h4]
    have hf : fldT (setF y i n) i = if n = -1 then [45] else Lib.itoa n := by
      unfold fldT
      rw [if_neg h4, setF_fld hi h4]
    rw [hf]
    by_cases hm : n = -1
    · subst hm
      have : i = 2 := by
        unfold leastE at h1
        split at h1 <;> omega
      subst this
      rw [if_pos ⟨rfl, by rw [ByteArray.toList_eq]; rfl⟩]
    · have h0 : 0 ≤ n := by
        unfold leastE at h1
        split at h1 <;> omega
      rw [if_neg hm, itoa_pos h0]
      have hl : numL (⟨(Lib.decDigits n.toNat).toArray⟩ : ByteArray).data.toList = some n.toNat := by
        show numL (Lib.decDigits n.toNat).toArray.toList = _
        exact numL_dec (by omega)
      rw [if_neg ?_, hl]
      · have : ((n.toNat : Nat) : Int) = n := by omega
        show some (setF y i ((n.toNat : Nat) : Int)) = _
        rw [this]
      · rintro ⟨_, e⟩
        rw [ByteArray.toList_eq] at e
        have e2 : Lib.decDigits n.toNat = [45] := e
        have := dec_digits n.toNat 45 (by rw [e2]; simp)
        exact absurd this.1 (by decide)
theorem rowP_fwd : ∀ (l : List Nat) (y z : Ev), l.Nodup → (∀ i ∈ l, i < 5) → Fills y l z → rowP y l (l.map fun i => (⟨(fldT z i).toArray⟩ : ByteArray)) = some z
  | [], y, z, _, _, h => by
    have e : z = y := h
    rw [e]
    rfl
  | i :: l, y, z, hn, hl, ⟨y', h1, h2⟩ => by
    have hn2 := List.nodup_cons.1 hn
    rw [List.map_cons, rowP, sameT (h2.same (fun j hj => hl j (by simp [hj])) (hl i (by simp)) hn2.1), fldP_fwd (hl i (by simp)) h1]
    exact rowP_fwd l y' z hn2.2 (fun j hj => hl j (by simp [hj])) h2
theorem has_iff {k : Int} (h : hasE k = true) : 1 ≤ k ∧ k ≤ 9 := by
  unfold hasE at h
  simpa using h
theorem row_nodup (k : Int) : (rowE k).Nodup := by
  unfold rowE
  repeat (split; · decide)
  decide
/-- An event of no fields. -/
def bareE (k st th : Int) : Ev := { k := k, st := st, th := th, sy := 0, br := 0, pa := 0, n := 0, v := zeroT }
theorem vR {t : VT} (h : parse ⟨(txt t).toArray⟩ = .ok t) : right t = true := (parse_snd h).2
set_option maxHeartbeats 2000000 in
theorem fills_right {k st th : Int} {z : Ev} (hk : hasE k = true) (h1 : 0 ≤ st) (h2 : 0 ≤ th) (hf : Fills (bareE k st th) (rowE k) z) : rightE z = true ∧ z.k = k ∧ z.st = st ∧ z.th = th := by
  rcases has_cases hk with rfl | rfl | rfl | rfl | rfl | rfl | rfl | rfl | rfl
  · obtain ⟨y1, f1, rfl⟩ := hf
    obtain ⟨n, a, b, rfl⟩ := f1.num (by decide)
    simp [leastE] at a
    simp [rightE, hasE, fldOk, lsB, rowE, setF, Ev.fld, leastE, vOk, zeroT, bareE, *]
  · obtain ⟨y1, f1, rfl⟩ := hf
    obtain ⟨n, a, b, rfl⟩ := f1.num (by decide)
    simp [leastE] at a
    simp [rightE, hasE, fldOk, lsB, rowE, setF, Ev.fld, leastE, vOk, zeroT, bareE, *]
  · obtain ⟨y1, f1, rfl⟩ := hf
    obtain ⟨n, a, b, rfl⟩ := f1.num (by decide)
    simp [leastE] at a
    simp [rightE, hasE, fldOk, lsB, rowE, setF, Ev.fld, leastE, vOk, zeroT, bareE, *]
  · obtain ⟨y1, f1, rfl⟩ := hf
    obtain ⟨n, a, b, rfl⟩ := f1.num (by decide)
    simp [leastE] at a
    simp [rightE, hasE, fldOk, lsB, rowE, setF, Ev.fld, leastE, vOk, zeroT, bareE, *]
  · obtain ⟨y0, f0, y1, f1, y2, f2, y3, f3, y4, f4, rfl⟩ := hf
    obtain ⟨n0, a0, _, rfl⟩ := f0.num (by decide)
    obtain ⟨n1, a1, _, rfl⟩ := f1.num (by decide)
    obtain ⟨n2, a2, _, rfl⟩ := f2.num (by decide)
    obtain ⟨n3, a3, _, rfl⟩ := f3.num (by decide)
    obtain ⟨t, hp, rfl⟩ := f4.val
    have hr := vR hp
    simp [leastE] at a0 a1 a2 a3
    simp [rightE, hasE, fldOk, lsB, rowE, setF, Ev.fld, leastE, vOk, bareE, *]
  · obtain ⟨y0, f0, y1, f1, rfl⟩ := hf
    obtain ⟨n0, a0, _, rfl⟩ := f0.num (by decide)
    obtain ⟨n1, a1, _, rfl⟩ := f1.num (by decide)
    simp [leastE] at a0 a1
    simp [rightE, hasE, fldOk, lsB, rowE, setF, Ev.fld, leastE, vOk, zeroT, bareE, *]
  · obtain ⟨y0, f0, y1, f1, rfl⟩ := hf
    obtain ⟨n0, a0, _, rfl⟩ := f0.num (by decide)
    obtain ⟨t, hp, rfl⟩ := f1.val
    have hr := vR hp
    simp [leastE] at a0
    simp [rightE, hasE, fldOk, lsB, rowE, setF, Ev.fld, vOk, bareE, *]
    simp [leastE, *]
  · obtain ⟨y0, f0, rfl⟩ := hf
    obtain ⟨t, hp, rfl⟩ := f0.val
    have hr := vR hp
    simp [rightE, hasE, fldOk, lsB, rowE, Ev.fld, vOk, bareE, *]
  · obtain rfl := hf
    simp [rightE, hasE, fldOk, lsB, rowE, Ev.fld, vOk, zeroT, bareE, *]
theorem zero_of {t : VT} (h : vOk false t = true) : t = zeroT := by
  obtain ⟨k, n, l⟩ := t
  simp [vOk] at h
  obtain ⟨⟨rfl, rfl⟩, rfl⟩ := h
  rfl
theorem right_parts {x : Ev} (h : rightE x = true) : hasE x.k = true ∧ 0 ≤ x.st ∧ 0 ≤ x.th ∧ fldOk x 0 = true ∧ fldOk x 1 = true ∧ fldOk x 2 = true ∧ fldOk x 3 = true ∧ vOk (lsB x.k 4) x.v = true := by
  unfold rightE at h
  simp only [Bool.and_eq_true, decide_eq_true_eq] at h
  obtain ⟨⟨⟨⟨⟨⟨⟨a, b⟩, c⟩, d⟩, e⟩, f⟩, g⟩, i⟩ := h
  exact ⟨a, b, c, d, e, f, g, i⟩
set_option maxHeartbeats 2000000 in
theorem right_fills {x : Ev} (h : rightE x = true) (hr : RngE x) (ha : AllR x.v) : Fills (bareE x.k x.st x.th) (rowE x.k) x := by
  obtain ⟨hk, -, -, f0, f1, f2, f3, f4⟩ := right_parts h
  have r0 := hr.sy.2
  have r2 := hr.pa.2
  have r1 := hr.br.2
  have r3 := hr.n.2
  clear h hr
  obtain ⟨k, st, th, sy, br, pa, n, v⟩ := x
  simp only at hk f0 f1 f2 f3 f4 r0 r1 r2 r3 ha ⊢
  rcases has_cases hk with rfl | rfl | rfl | rfl | rfl | rfl | rfl | rfl | rfl <;> simp [fldOk, lsB, rowE, Ev.fld] at f0 f1 f2 f3 f4
  · subst f0 f1 f2
    obtain rfl := zero_of f4
    exact ⟨_, Fill.mkN (n := n) (by decide) f3 r3, rfl⟩
  · subst f0 f1 f2
    obtain rfl := zero_of f4
    exact ⟨_, Fill.mkN (n := n) (by decide) f3 r3, rfl⟩
  · subst f0 f1 f2
    obtain rfl := zero_of f4
    exact ⟨_, Fill.mkN (n := n) (by decide) f3 r3, rfl⟩
  · subst f1 f2 f3
    obtain rfl := zero_of f4
    exact ⟨_, Fill.mkN (n := sy) (by decide) f0 r0, rfl⟩
  · exact ⟨_, Fill.mkN (n := sy) (by decide) f0 r0, _, Fill.mkN (n := br) (by decide) f1 r1, _, Fill.mkN (n := pa) (by decide) f2 r2, _, Fill.mkN (n := n) (by decide) f3 r3, _, Fill.mkV (t := v) (parse_txt f4 ha), rfl⟩
  · subst f1 f2
    obtain rfl := zero_of f4
    exact ⟨_, Fill.mkN (n := sy) (by decide) f0 r0, _, Fill.mkN (n := n) (by decide) f3 r3, rfl⟩
  · subst f1 f2 f3
    exact ⟨_, Fill.mkN (n := sy) (by decide) f0 r0, _, Fill.mkV (t := v) (parse_txt f4 ha), rfl⟩
  · subst f0 f1 f2 f3
    exact ⟨_, Fill.mkV (t := v) (parse_txt f4 ha), rfl⟩
  · subst f0 f1 f2 f3
    obtain rfl := zero_of f4
    rfl
theorem kindE_word {k : Int} (h : hasE k = true) : kindE ⟨(wordE k).data.toList.toArray⟩ = some k.toNat := by
  rcases has_cases h with rfl | rfl | rfl | rfl | rfl | rfl | rfl | rfl | rfl <;> simp [kindE, kEGo, ByteArray.toList_eq, wordE, hasE, wdEB, wdE]
theorem kEGo_some (s : ByteArray) : ∀ (f j k : Nat), kEGo s f j = some k → j ≤ k ∧ k < j + f ∧ (wdEB k).data.toList = s.data.toList
  | 0, j, k, h => by cases h
  | f + 1, j, k, h => by
    rw [kEGo] at h
    split at h
    · rename_i he
      cases h
      refine ⟨Nat.le_refl _, by omega, ?_⟩
      rw [ByteArray.toList_eq, ByteArray.toList_eq] at he
      exact eq_of_beq he
    · have := kEGo_some s f (j + 1) k h
      exact ⟨by omega, by omega, this.2.2⟩
theorem kindE_some {s : ByteArray} {k : Nat} (h : kindE s = some k) : hasE (k : Nat) = true ∧ (wordE (k : Nat)).data.toList = s.data.toList := by
  obtain ⟨h1, h2, h3⟩ := kEGo_some s 9 1 k h
  have hk : hasE (k : Nat) = true := by
    unfold hasE
    simp
    omega
  refine ⟨hk, ?_⟩
  unfold wordE
  rw [if_pos hk, Int.toNat_natCast]
  exact h3
theorem wordE_40 {k : Int} : ∀ c ∈ (wordE k).data.toList, 40 ≤ c.toNat := by
  unfold wordE
  split
  · rename_i h
    rcases has_cases h with rfl | rfl | rfl | rfl | rfl | rfl | rfl | rfl | rfl <;> decide
  · intro c hc
    cases hc
theorem fldT_40 (x : Ev) (i : Nat) : ∀ c ∈ fldT x i, 40 ≤ c.toNat := by
  unfold fldT
  split
  · exact txt_40 _
  · split
    · decide
    · exact itoa_40 _
theorem textE_join (x : Ev) : textE x = Lib.itoa x.st ++ joinT (Lib.itoa x.th :: (wordE x.k).data.toList :: (rowE x.k).map (fldT x)) := by
  unfold textE
  rw [rowT_join]
  rfl
theorem text_words (x : Ev) : wordsL (textE x) = Lib.itoa x.st :: Lib.itoa x.th :: (wordE x.k).data.toList :: (rowE x.k).map (fldT x) := by
  rw [textE_join]
  refine words_back _ _ fun y hy => ?_
  simp only [List.mem_cons, List.mem_map] at hy
  rcases hy with rfl | rfl | rfl | ⟨i, _, rfl⟩
  · exact itoa_40 _
  · exact itoa_40 _
  · exact wordE_40
  · exact fldT_40 _ _
theorem numL_itoa {n : Int} (h1 : 0 ≤ n) (h2 : n ≤ 9223372036854775807) : numL (Lib.itoa n) = some n.toNat := by
  rw [itoa_pos h1]
  exact numL_dec (by omega)
/-- A right event's text is read as it. -/
theorem parseE_text {x : Ev} (h : rightE x = true) (hr : RngE x) (ha : AllR x.v) : parseE ⟨(textE x).toArray⟩ = some x := by
  obtain ⟨hk, h1, h2, -⟩ := right_parts h
  have hf := rowP_fwd (rowE x.k) _ x (row_nodup _) (row_lt _) (right_fills h hr ha)
  unfold parseE
  rw [parts_of, show (⟨(textE x).toArray⟩ : ByteArray).data.toList = textE x from rfl, text_words]
  simp only [List.map_cons]
  rw [numL_itoa h1 hr.st.2, numL_itoa h2 hr.th.2, kindE_word hk]
  simp only
  have e1 : ((x.k.toNat : Nat) : Int) = x.k := by
    have := (has_iff hk).1
    omega
  have e2 : ((x.st.toNat : Nat) : Int) = x.st := by omega
  have e3 : ((x.th.toNat : Nat) : Int) = x.th := by omega
  rw [e1, e2, e3, if_pos (by simp), List.map_map]
  exact hf
/-- What a text is read as has that text. -/
theorem parseE_snd {s : ByteArray} {x : Ev} (h : parseE s = some x) : rightE x = true ∧ textE x = s.data.toList := by
  unfold parseE at h
  have hp := parts_words s
  split at h
  · rename_i a b c rest hps
    rw [hps] at hp
    split at h
    · rename_i st th k h1 h2 h3
      split at h
      · rename_i hlen
        obtain ⟨e1, -⟩ := numL_some h1
        obtain ⟨e2, -⟩ := numL_some h2
        obtain ⟨hk, e3⟩ := kindE_some h3
        obtain ⟨hf, ht⟩ := rowP_inv _ _ _ _ (row_nodup _) (row_lt _) hlen h
        obtain ⟨hr, k1, k2, k3⟩ := fills_right hk (by omega) (by omega) hf
        refine ⟨hr, ?_⟩
        rw [textE_join, k1, k2, k3, ht, e3, itoa_nat, itoa_nat, ← e1, ← e2]
        exact (words_join _ _ _ hp.symm).symm
      · cases h
    · cases h
  · cases h
-- BYTES
theorem atD_inv {ls : Nat} {l r : List UInt8} {v : Int} (h : atD ls l = some (v, r)) : -(ls : Int) ≤ v ∧ v ≤ 9223372036854775807 ∧ l = leb (v + ls).toNat ++ r := by
  unfold atD atG at h
  cases hn : numO 0 0 l with
  | none =>
    rw [hn] at h
    cases h
  | some q =>
    obtain ⟨m, r'⟩ := q
    rw [hn] at h
    simp only at h
    split at h
    · cases h
      have := (num_iff.1 hn).1
      refine ⟨by omega, by omega, ?_⟩
      rw [show ((m : Int) - ls + ls).toNat = m by omega]
      exact this
    · cases h
theorem atD_leb {ls : Nat} {v : Int} (r : List UInt8) (hls : ls ≤ 1) (h1 : -(ls : Int) ≤ v) (h2 : v ≤ 9223372036854775807) : atD ls (leb (v + ls).toNat ++ r) = some (v, r) := by
  have hn : numO 0 0 (leb (v + ls).toNat ++ r) = some ((v + ls).toNat, r) := num_iff.2 ⟨rfl, by omega⟩
  unfold atD atG
  rw [hn]
  simp only
  rw [if_pos (by omega), show (((v + ls).toNat : Nat) : Int) - ls = v by omega]
theorem least_ls (i : Nat) : leastE i = -((if i = 2 then 1 else 0 : Nat) : Int) := by
  unfold leastE
  split <;> rfl
theorem fldD_inv {y z : Ev} {i : Nat} {l r : List UInt8} (hi : i < 5) (h : fldD y i l = some (z, r)) : Fill y i z ∧ l = fldB z i ++ r := by
  by_cases h4 : i = 4
  · subst h4
    unfold fldD at h
    rw [if_pos rfl] at h
    cases hn : numO 0 0 l with
    | none =>
      rw [hn] at h
      cases h
    | some q =>
      obtain ⟨n, r1⟩ := q
      rw [hn] at h
      simp only at h
      split at h
      · rename_i hle
        cases hp : parse ⟨(r1.take n).toArray⟩ with
        | error e =>
          rw [hp] at h
          cases h
        | ok t =>
          rw [hp] at h
          cases h
          have e : txt t = r1.take n := (parse_snd hp).1
          refine ⟨Fill.mkV (by rw [e]; exact hp), ?_⟩
          show l = leb (txt t).length ++ txt t ++ r1.drop n
          rw [e, List.length_take, Nat.min_eq_left hle, List.append_assoc, List.take_append_drop]
          exact (num_iff.1 hn).1
      · cases h
  · rw [fldD_num y i l h4] at h
    cases ha : atD (if i = 2 then 1 else 0) l with
    | none =>
      rw [ha] at h
      cases h
    | some q =>
      obtain ⟨v, r'⟩ := q
      rw [ha] at h
      cases h
      obtain ⟨h1, h2, h3⟩ := atD_inv ha
      have hls := least_ls i
      refine ⟨Fill.mkN h4 (by omega) h2, ?_⟩
      unfold fldB
      rw [if_neg h4, setF_fld hi h4, show v - leastE i = v + ((if i = 2 then 1 else 0 : Nat) : Int) by omega]
      exact h3
theorem rowD_inv : ∀ (l : List Nat) (y z : Ev) (b r : List UInt8), l.Nodup → (∀ i ∈ l, i < 5) → rowD y l b = some (z, r) → Fills y l z ∧ b = rowB z l ++ r
  | [], y, z, b, r, _, _, h => by
    rw [rowD] at h
    cases h
    exact ⟨rfl, rfl⟩
  | i :: l, y, z, b, r, hn, hl, h => by
    rw [rowD] at h
    cases hf : fldD y i b with
    | none =>
      rw [hf] at h
      cases h
    | some q =>
      obtain ⟨y', b'⟩ := q
      rw [hf] at h
      obtain ⟨f1, t1⟩ := fldD_inv (hl i (by simp)) hf
      have hn2 := List.nodup_cons.1 hn
      obtain ⟨f2, t2⟩ := rowD_inv l y' z b' r hn2.2 (fun j hj => hl j (by simp [hj])) h
      refine ⟨⟨y', f1, f2⟩, ?_⟩
      rw [rowB, sameB (f2.same (fun j hj => hl j (by simp [hj])) (hl i (by simp)) hn2.1), t1, t2, List.append_assoc]
theorem fldD_fwd {y z : Ev} {i : Nat} {r : List UInt8} (hi : i < 5) (h : Fill y i z) (hb : i = 4 → (txt z.v).length < 18446744073709551616) : fldD y i (fldB z i ++ r) = some (z, r) := by
  by_cases h4 : i = 4
  · subst h4
    have hb := hb rfl
    obtain ⟨t, hp, rfl⟩ := h.val
    unfold fldD
    rw [if_pos rfl, show fldB { y with v := t } 4 ++ r = leb (txt t).length ++ (txt t ++ r) from List.append_assoc _ _ _]
    rw [num_iff.2 ⟨rfl, hb⟩]
    simp only
    rw [if_pos (by simp), List.take_left, hp, List.drop_left]
  · obtain ⟨n, h1, h2, rfl⟩ := h.num h4
    have hls := least_ls i
    rw [fldD_num _ _ _ h4]
    unfold fldB
    rw [if_neg h4, setF_fld hi h4, show n - leastE i = n + ((if i = 2 then 1 else 0 : Nat) : Int) by omega, atD_leb r (by split <;> omega) (by omega) h2]
    rfl
theorem rowD_fwd : ∀ (l : List Nat) (y z : Ev) (r : List UInt8), l.Nodup → (∀ i ∈ l, i < 5) → Fills y l z → (txt z.v).length < 18446744073709551616 → rowD y l (rowB z l ++ r) = some (z, r)
  | [], y, z, r, _, _, h, _ => by
    have e : z = y := h
    rw [e]
    rfl
  | i :: l, y, z, r, hn, hl, ⟨y', h1, h2⟩, hb => by
    have hn2 := List.nodup_cons.1 hn
    have hs := h2.same (fun j hj => hl j (by simp [hj])) (hl i (by simp)) hn2.1
    have hb' : i = 4 → (txt y'.v).length < 18446744073709551616 := by
      intro e
      subst e
      have e2 : z.v = y'.v := hs
      rw [← e2]
      exact hb
    rw [rowB, List.append_assoc, sameB hs, rowD, fldD_fwd (hl i (by simp)) h1 hb']
    exact rowD_fwd l y' z r hn2.2 (fun j hj => hl j (by simp [hj])) h2 hb
theorem txt_small {x : Ev} (h : rightE x = true) (ha : AllR x.v) : (txt x.v).length ≤ 10240 := by
  obtain ⟨-, -, -, -, -, -, -, h4⟩ := right_parts h
  cases hl : lsB x.k 4
  · rw [hl] at h4
    rw [zero_of h4]
    decide
  · rw [hl] at h4
    exact right_len h4 ha
/-- A right event's bytes are read as it. -/
theorem evD_fwd {x : Ev} {last : Int} (r : List UInt8) (h : rightE x = true) (hr : RngE x) (ha : AllR x.v) (h0 : 0 ≤ last) (hl : last ≤ x.st) : evD last (bytesE x last ++ r) = some (x, x.st, r) := by
  obtain ⟨hk, h1, h2, -⟩ := right_parts h
  have htx := txt_small h ha
  have hf := rowD_fwd (rowE x.k) _ x r (row_nodup _) (row_lt _) (right_fills h hr ha) (by omega)
  have hkb := has_iff hk
  unfold bytesE
  rw [List.cons_append, evD]
  have e1 : (((UInt8.ofNat x.k.toNat).toNat : Nat) : Int) = x.k := by
    rw [u8_of (by omega)]
    omega
  rw [e1, if_pos hk]
  have q1 := atD_leb (ls := 0) (v := x.st - last) (leb x.th.toNat ++ (rowB x (rowE x.k) ++ r)) (by omega) (by omega) (by have := hr.st.2; omega)
  have q2 := atD_leb (ls := 0) (v := x.th) (rowB x (rowE x.k) ++ r) (by omega) (by omega) hr.th.2
  simp only [Int.natCast_zero, Int.add_zero] at q1 q2
  rw [List.append_assoc, List.append_assoc, q1]
  unfold evT
  simp only
  rw [if_neg (by have := hr.st.2; omega), q2]
  unfold evR
  simp only
  rw [show last + (x.st - last) = x.st by omega]
  have hf' : rowD { k := x.k, st := x.st, th := x.th, sy := 0, br := 0, pa := 0, n := 0, v := zeroT } (rowE x.k) (rowB x (rowE x.k) ++ r) = some (x, r) := hf
  rw [hf']
  rfl
/-- What bytes are read as has those bytes. -/
theorem evD_inv {x : Ev} {last st' : Int} {l r : List UInt8} (h0 : 0 ≤ last) (h : evD last l = some (x, st', r)) : rightE x = true ∧ last ≤ x.st ∧ st' = x.st ∧ l = bytesE x last ++ r := by
  cases l with
  | nil => cases h
  | cons c l =>
    rw [evD] at h
    split at h
    · rename_i hk
      cases ha : atD 0 l with
      | none =>
        rw [ha] at h
        cases h
      | some q =>
        obtain ⟨d, l1⟩ := q
        rw [ha] at h
        unfold evT at h
        simp only at h
        split at h
        · cases h
        · cases hb : atD 0 l1 with
          | none =>
            rw [hb] at h
            cases h
          | some q2 =>
            obtain ⟨th, l2⟩ := q2
            rw [hb] at h
            unfold evR at h
            simp only at h
            obtain ⟨a1, a2, a3⟩ := atD_inv ha
            obtain ⟨b1, b2, b3⟩ := atD_inv hb
            simp only [Int.natCast_zero, Int.neg_zero, Int.add_zero] at a1 a3 b1 b3
            cases hd : rowD { k := (c.toNat : Nat), st := last + d, th := th, sy := 0, br := 0, pa := 0, n := 0, v := zeroT } (rowE (c.toNat : Nat)) l2 with
            | none =>
              rw [hd] at h
              cases h
            | some q3 =>
              obtain ⟨z, l3⟩ := q3
              rw [hd] at h
              cases h
              obtain ⟨hf, e⟩ := rowD_inv _ _ _ _ _ (row_nodup _) (row_lt _) hd
              obtain ⟨hr, k1, k2, k3⟩ := fills_right hk (by omega) b1 hf
              refine ⟨hr, by omega, k2.symm, ?_⟩
              unfold bytesE
              rw [k1, k2, k3, show last + d - last = d by omega, Int.toNat_natCast, a3, b3, e]
              simp
    · cases h
end Go.Proofs.YtjldbbcdhdfliaaGreatDoor
/-
  Traces as text and as bytes (layer 23): what is read back is what was written, and the other way about; a byte changed is found. Plain.
-/
namespace Go.Proofs.YtjldbbcdhdfliaaGreatDoor
open Go.RowKit Go.Sort

/-- Right events, of Steps that never fall. -/
def ChainE (last : Int) : List Ev → Prop
  | [] => True
  | x :: r => rightE x = true ∧ last ≤ x.st ∧ ChainE x.st r
theorem chain_of : ∀ (l : List Ev) (last : Int), (∀ (k : Nat) (x : Ev), l[k]? = some x → rightE x = true ∧ ∀ (j : Nat) (y : Ev), k = j + 1 → l[j]? = some y → y.st ≤ x.st) → (∀ x, l[0]? = some x → last ≤ x.st) → ChainE last l
  | [], _, _, _ => trivial
  | x :: r, last, h, h0 => ⟨(h 0 x rfl).1, h0 x rfl, chain_of r x.st (fun k y hk => ⟨(h (k + 1) y hk).1, fun j z hj hz => (h (k + 1) y hk).2 (j + 1) z (by omega) hz⟩) fun y hy => (h 1 y hy).2 0 x rfl rfl⟩
theorem chain_none {l : List Ev} (h : firstW l = none) : ChainE 0 l :=
  chain_of l 0 (fun _ _ hk => right_of_none h hk) fun _ hx => (right_parts (right_of_none h hx).1).2.1
theorem chain_at : ∀ (l : List Ev) (last : Int), ChainE last l → ∀ (k : Nat) (x : Ev), l[k]? = some x → rightE x = true ∧ (k = 0 → last ≤ x.st) ∧ ∀ (j : Nat) (y : Ev), k = j + 1 → l[j]? = some y → y.st ≤ x.st
  | [], _, _, k, x, hx => by simp at hx
  | y :: r, last, ⟨h1, h2, h3⟩, 0, x, hx => by
    simp only [List.getElem?_cons_zero, Option.some.injEq] at hx
    subst hx
    exact ⟨h1, fun _ => h2, fun j z hj => by omega⟩
  | y :: r, last, ⟨h1, h2, h3⟩, k + 1, x, hx => by
    simp only [List.getElem?_cons_succ] at hx
    obtain ⟨a, b, c⟩ := chain_at r y.st h3 k x hx
    refine ⟨a, fun h => by omega, ?_⟩
    rintro j z hj hz
    obtain rfl : k = j := by omega
    cases k with
    | zero =>
      simp only [List.getElem?_cons_zero, Option.some.injEq] at hz
      subst hz
      exact b rfl
    | succ m => exact c m z rfl hz
theorem none_of_chain {l : List Ev} (h : ChainE 0 l) : firstW l = none := by
  refine firstW_none fun k hk => ?_
  have hx : l[k]? = some l[k] := List.getElem?_eq_getElem hk
  obtain ⟨a, -, c⟩ := chain_at l 0 h k _ hx
  unfold wrongAt
  rw [hx]
  simp only [a, Bool.not_true, Bool.false_or]
  cases k with
  | zero => rfl
  | succ m =>
    have hy : l[m]? = some l[m] := List.getElem?_eq_getElem (by omega)
    have := c m _ rfl hy
    simp only [hy]
    simpa using this
/-- The Step of the last event; of none: 0. -/
def LastE (done : List Ev) (last : Int) : Prop := match done.getLast? with
  | some y => last = y.st
  | none => last = 0
theorem LastE.snoc (done : List Ev) (x : Ev) : LastE (done ++ [x]) x.st := by
  unfold LastE
  simp
theorem late_iff {done : List Ev} {last : Int} {x : Ev} (h : LastE done last) (hr : rightE x = true) : lateE done x = decide (x.st < last) := by
  unfold LastE at h
  unfold lateE
  cases hd : done.getLast? with
  | none =>
    rw [hd] at h
    have e : last = 0 := h
    have := (right_parts hr).2.1
    symm
    simp
    omega
  | some y =>
    rw [hd] at h
    have e : last = y.st := h
    rw [e]
theorem readL_inv : ∀ (ps : List ByteArray) (done l : List Ev) (last : Int), LastE done last → readL done ps = .ok l → ∃ e, l = done ++ e ∧ ChainE last e ∧ e.map textE = ps.map (·.data.toList)
  | [], done, l, last, _, h => by
    rw [readL] at h
    cases h
    exact ⟨[], by simp, trivial, rfl⟩
  | p :: r, done, l, last, hla, h => by
    rw [readL] at h
    cases hp : parseE p with
    | none =>
      rw [hp] at h
      cases h
    | some x =>
      rw [hp] at h
      obtain ⟨hr, ht⟩ := parseE_snd hp
      simp only [late_iff hla hr] at h
      split at h
      · cases h
      · rename_i hd
        obtain ⟨e, e1, e2, e3⟩ := readL_inv r (done ++ [x]) l x.st (LastE.snoc done x) h
        refine ⟨x :: e, by rw [e1]; simp, ⟨hr, by simpa using hd, e2⟩, ?_⟩
        rw [List.map_cons, List.map_cons, e3, ht]
theorem readL_fwd : ∀ (e done : List Ev) (last : Int), LastE done last → ChainE last e → (∀ x ∈ e, RngE x ∧ AllR x.v) → readL done (e.map fun x => (⟨(textE x).toArray⟩ : ByteArray)) = .ok (done ++ e)
  | [], done, last, _, _, _ => by
    rw [List.map_nil, readL, List.append_nil]
  | x :: e, done, last, hla, ⟨h1, h2, h3⟩, hr => by
    have hx := hr x (by simp)
    rw [List.map_cons, readL, parseE_text h1 hx.1 hx.2]
    simp only [late_iff hla h1]
    rw [if_neg (by simpa using h2), readL_fwd e (done ++ [x]) x.st (LastE.snoc done x) h3 fun y hy => hr y (by simp [hy])]
    simp
-- LINES
/-- Lines, each with its end. -/
def catL : List (List UInt8) → List UInt8
  | [] => []
  | a :: r => a ++ 10 :: catL r
theorem wr_cat : ∀ l, wrL l = catL (l.map textE)
  | [] => rfl
  | x :: r => by
    rw [wrL, wr_cat r]
    rfl
theorem lines_cat : ∀ ts : List (List UInt8), (∀ t ∈ ts, ∀ c ∈ t, c ≠ 10) → linesS ⟨(catL ts).toArray⟩ = ts.map fun t => (⟨t.toArray⟩ : ByteArray)
  | [], _ => lines_nil rfl
  | a :: r, h => by
    have hc := cut_at a (catL r) (h a (by simp))
    have hs : ¬ (⟨(catL (a :: r)).toArray⟩ : ByteArray).size = 0 := by
      show ¬ (catL (a :: r)).length = 0
      rw [catL]
      simp
    have ha : cutA ⟨(catL (a :: r)).toArray⟩ = ⟨a.toArray⟩ := by
      unfold cutA
      rw [show (⟨(catL (a :: r)).toArray⟩ : ByteArray).data.toList = a ++ 10 :: catL r from rfl, hc]
    have hb : cutB ⟨(catL (a :: r)).toArray⟩ = ⟨(catL r).toArray⟩ := by
      unfold cutB
      rw [show (⟨(catL (a :: r)).toArray⟩ : ByteArray).data.toList = a ++ 10 :: catL r from rfl, hc]
    rw [lines_cons hs, ha, hb, lines_cat r fun t ht => h t (by simp [ht])]
    rfl
/-- A text whose last line has its end. -/
def nlE (l : List UInt8) : List UInt8 := if l ≠ [] ∧ l.getLast? ≠ some 10 then l ++ [10] else l
theorem split10 : ∀ l : List UInt8, (∀ c ∈ l, c ≠ 10) ∨ ∃ a b, l = a ++ 10 :: b ∧ ∀ c ∈ a, c ≠ 10
  | [] => .inl fun c hc => by cases hc
  | c :: l => by
    by_cases hc : c = 10
    · subst hc
      exact .inr ⟨[], l, rfl, fun c hc => by cases hc⟩
    · rcases split10 l with h | ⟨a, b, e, h⟩
      · refine .inl fun d hd => ?_
        rcases List.mem_cons.1 hd with rfl | hd
        · exact hc
        · exact h d hd
      · refine .inr ⟨c :: a, b, by rw [e]; rfl, fun d hd => ?_⟩
        rcases List.mem_cons.1 hd with rfl | hd
        · exact hc
        · exact h d hd
theorem lines_nl : ∀ (n : Nat) (s : ByteArray), s.size ≤ n → catL ((linesS s).map (·.data.toList)) = nlE s.data.toList
  | 0, s, h => by
    have h0 : s.size = 0 := by omega
    rw [lines_nil h0]
    have : s.data.toList = [] := List.eq_nil_of_length_eq_zero (by simpa using h0)
    rw [this]
    rfl
  | n + 1, s, h => by
    by_cases h0 : s.size = 0
    · rw [lines_nil h0]
      have : s.data.toList = [] := List.eq_nil_of_length_eq_zero (by simpa using h0)
      rw [this]
      rfl
    · have hne : s.data.toList ≠ [] := fun e => h0 (by have := congrArg List.length e; simpa using this)
      have hsz := cutA_size s (by omega)
      have ih := lines_nl n (cutB s) (by omega)
      rw [lines_cons h0, List.map_cons, catL, ih]
      rcases split10 s.data.toList with hn | ⟨a, b, e, hn⟩
      · have hc := cut_no _ hn
        have ha : (cutA s).data.toList = s.data.toList := by
          unfold cutA
          rw [hc]
        have hb : (cutB s).data.toList = [] := by
          unfold cutB
          rw [hc]
        rw [ha, hb]
        unfold nlE
        rw [if_neg (by simp), if_pos ⟨hne, fun e => hn 10 (List.mem_of_getLast? e) rfl⟩]
      · have hc := cut_at a b hn
        rw [← e] at hc
        have ha : (cutA s).data.toList = a := by
          unfold cutA
          rw [hc]
        have hb : (cutB s).data.toList = b := by
          unfold cutB
          rw [hc]
        rw [ha, hb, e]
        unfold nlE
        cases b with
        | nil => simp
        | cons d b =>
          have e2 : (a ++ 10 :: d :: b).getLast? = (d :: b).getLast? := by
            rw [show a ++ 10 :: d :: b = (a ++ [10]) ++ (d :: b) by simp, List.getLast?_append]
            cases h : (d :: b).getLast? with
            | none => simp at h
            | some x => rfl
          rw [e2]
          by_cases hd : (d :: b).getLast? = some 10
          · rw [if_neg (by simp [hd]), if_neg (by simp [hd])]
          · rw [if_pos ⟨by simp, hd⟩, if_pos ⟨by simp, hd⟩]
            simp
theorem textE_10 (x : Ev) : ∀ c ∈ textE x, c ≠ 10 := by
  intro c hc e
  subst e
  unfold textE at hc
  simp only [List.mem_append, List.mem_cons] at hc
  have hrow : ∀ l : List Nat, (10 : UInt8) ∉ rowT x l := by
    intro l
    induction l with
    | nil => simp [rowT]
    | cons i r ih =>
      intro h
      rw [rowT] at h
      rcases List.mem_cons.1 h with h | h
      · exact absurd h (by decide)
      · rcases List.mem_append.1 h with h | h
        · exact absurd (fldT_40 x i _ h) (by decide)
        · exact ih h
  rcases hc with h | h | h | h | h | h
  · exact absurd (itoa_40 _ _ h) (by decide)
  · exact absurd h (by decide)
  · exact absurd (itoa_40 _ _ h) (by decide)
  · exact absurd h (by decide)
  · exact absurd (wordE_40 _ h) (by decide)
  · exact hrow _ h
/-- What Write makes is read as it. -/
theorem readE_wr {l : List Ev} (h : firstW l = none) (hr : ∀ x ∈ l, RngE x ∧ AllR x.v) : readE ⟨(wrL l).toArray⟩ = .ok l := by
  have hl := lines_cat (l.map textE) fun t ht => by
    obtain ⟨x, _, rfl⟩ := List.mem_map.1 ht
    exact textE_10 x
  unfold readE
  rw [wr_cat, hl, List.map_map]
  exact readL_fwd l [] 0 rfl (chain_none h) hr
/-- What a text is read as is written as it. -/
theorem readE_inv {s : ByteArray} {l : List Ev} (h : readE s = .ok l) : firstW l = none ∧ wrL l = nlE s.data.toList := by
  unfold readE at h
  obtain ⟨e, e1, e2, e3⟩ := readL_inv _ [] l 0 rfl h
  rw [List.nil_append] at e1
  subst e1
  refine ⟨none_of_chain e2, ?_⟩
  rw [wr_cat, e3]
  exact lines_nl _ s (Nat.le_refl _)
-- BYTES
theorem decL_inv : ∀ (f : Nat) (done d : List Ev) (last : Int) (b : List UInt8), 0 ≤ last → decL f done last b = some d → ∃ e, d = done ++ e ∧ ChainE last e ∧ b = encGo last e
  | 0, _, _, _, _, _, h => by
    rw [decL] at h
    cases h
  | f + 1, done, d, last, b, h0, h => by
    rw [decL] at h
    by_cases hb : b = []
    · rw [if_pos hb] at h
      cases h
      exact ⟨[], by simp, trivial, hb⟩
    · rw [if_neg hb] at h
      cases he : evD last b with
      | none =>
        rw [he] at h
        cases h
      | some q =>
        obtain ⟨x, st', r⟩ := q
        rw [he] at h
        obtain ⟨hr, h1, rfl, h3⟩ := evD_inv h0 he
        obtain ⟨e, e1, e2, e3⟩ := decL_inv f (done ++ [x]) d x.st r (by omega) h
        refine ⟨x :: e, by rw [e1]; simp, ⟨hr, h1, e2⟩, ?_⟩
        rw [h3, e3]
        rfl
theorem decL_fwd : ∀ (e : List Ev) (f : Nat) (done : List Ev) (last : Int), 0 ≤ last → ChainE last e → (∀ x ∈ e, RngE x ∧ AllR x.v) → (encGo last e).length < f → decL f done last (encGo last e) = some (done ++ e)
  | _, 0, _, _, _, _, _, h => by omega
  | [], f + 1, done, last, _, _, _, _ => by
    rw [decL, encGo, if_pos rfl, List.append_nil]
  | x :: e, f + 1, done, last, h0, ⟨h1, h2, h3⟩, hr, hf => by
    have hx := hr x (by simp)
    have hne : bytesE x last ++ encGo x.st e ≠ [] := by
      unfold bytesE
      simp
    have hlen : (encGo x.st e).length < f := by
      rw [encGo] at hf
      unfold bytesE at hf
      simp at hf
      omega
    rw [decL, encGo, if_neg hne, evD_fwd (encGo x.st e) h1 hx.1 hx.2 h0 h2]
    simp only
    rw [decL_fwd e f (done ++ [x]) x.st (by omega) h3 (fun y hy => hr y (by simp [hy])) hlen]
    simp
theorem sum4_len (n : Nat) : (sum4 n).length = 4 := rfl
theorem decE_enc {l : List Ev} (h : firstW l = none) (hr : ∀ x ∈ l, RngE x ∧ AllR x.v) : decE (encB l) = some l := by
  have hlen : (encB l).length = (encGo 0 l).length + 4 := by
    unfold encB
    rw [List.length_append, sum4_len]
  have e1 : (encB l).length - 4 = (encGo 0 l).length := by omega
  have e2 : (encB l).take (encGo 0 l).length = encGo 0 l := by
    unfold encB
    rw [List.take_left]
  have e3 : (encB l).drop (encGo 0 l).length = sum4 (sumF 1 (encGo 0 l)) := by
    unfold encB
    rw [List.drop_left]
  unfold decE
  rw [if_neg (by omega), e1, e2, e3, if_pos rfl]
  exact decL_fwd l _ [] 0 (Int.le_refl _) (chain_none h) hr (by omega)
theorem decE_inv {b : List UInt8} {l : List Ev} (h : decE b = some l) : firstW l = none ∧ encB l = b := by
  unfold decE at h
  split at h
  · cases h
  · split at h
    · rename_i hs
      obtain ⟨e, e1, e2, e3⟩ := decL_inv _ [] l 0 _ (Int.le_refl _) h
      rw [List.nil_append] at e1
      subst e1
      refine ⟨none_of_chain e2, ?_⟩
      unfold encB
      rw [← e3, ← hs, List.take_append_drop]
    · cases h
-- A BYTE CHANGED
theorem sumF_ne : ∀ (l : List UInt8) (s s' : Nat), s < 4294967296 → s' < 4294967296 → s ≠ s' → sumF s l ≠ sumF s' l
  | [], s, s', _, _, h => h
  | c :: l, s, s', h1, h2, h => by
    have hc := u8_lt c
    refine sumF_ne l _ _ (Nat.mod_lt _ (by decide)) (Nat.mod_lt _ (by decide)) ?_
    show (31 * s + c.toNat + 1) % 4294967296 ≠ (31 * s' + c.toNat + 1) % 4294967296
    omega
theorem sumF_set : ∀ (l : List UInt8) (i : Nat) (c c' : UInt8) (s : Nat), l[i]? = some c → c ≠ c' → sumF s (l.set i c') ≠ sumF s l
  | [], i, c, c', s, h, _ => by simp at h
  | d :: l, 0, c, c', s, h, hne => by
    simp only [List.getElem?_cons_zero, Option.some.injEq] at h
    subst h
    have h1 := u8_lt d
    have h2 := u8_lt c'
    have h3 : d.toNat ≠ c'.toNat := fun e => hne (UInt8.toNat_inj.1 e)
    refine sumF_ne l _ _ (Nat.mod_lt _ (by decide)) (Nat.mod_lt _ (by decide)) ?_
    show (31 * s + c'.toNat + 1) % 4294967296 ≠ (31 * s + d.toNat + 1) % 4294967296
    omega
  | d :: l, i + 1, c, c', s, h, hne => by
    simp only [List.getElem?_cons_succ] at h
    exact sumF_set l i c c' _ h hne
theorem sum4_inj {a b : Nat} (ha : a < 4294967296) (hb : b < 4294967296) (h : sum4 a = sum4 b) : a = b := by
  unfold sum4 at h
  simp only [List.cons.injEq, and_true] at h
  obtain ⟨h0, h1, h2, h3⟩ := h
  have q : ∀ {x y : Nat}, UInt8.ofNat x = UInt8.ofNat y → x % 256 = y % 256 := fun {x y} e => by
    have := congrArg UInt8.toNat e
    simpa using this
  have := q h0
  have := q h1
  have := q h2
  have := q h3
  omega
theorem decE_set {L : List UInt8} {d : List Ev} {i : Nat} {c c' : UInt8} (h : decE L = some d) (hi : L[i]? = some c) (hne : c ≠ c') : decE (L.set i c') = none := by
  have hil := (List.getElem?_eq_some_iff.1 hi).1
  unfold decE at h ⊢
  rw [List.length_set]
  split at h
  · cases h
  · rename_i hlen
    split at h
    · rename_i hs
      rw [if_neg hlen, if_neg]
      rcases Nat.lt_or_ge i (L.length - 4) with hlt | hge
      · rw [List.drop_set_of_lt (by omega), List.take_set, hs]
        intro e
        have e2 := sum4_inj (sumF_lt _ _ (by decide)) (sumF_lt _ _ (by decide)) e
        refine sumF_set (L.take (L.length - 4)) i c c' 1 ?_ hne e2.symm
        rw [List.getElem?_take_of_lt hlt]
        exact hi
      · rw [List.take_set_of_le (by omega), ← hs, List.drop_set, if_neg (by omega)]
        intro e
        have e2 := congrArg (fun l => l[i - (L.length - 4)]?) e
        simp only [List.getElem?_drop] at e2
        rw [show L.length - 4 + (i - (L.length - 4)) = i by omega, hi, List.getElem?_set_self (by simp; omega)] at e2
        injection e2 with e2
        exact hne e2.symm
    · cases h
-- LENGTHS
theorem rowT_lenN (N : Nat) {x : Ev} : ∀ l : List Nat, (∀ i ∈ l, (fldT x i).length ≤ N) → (rowT x l).length ≤ (N + 1) * l.length
  | [], _ => by simp [rowT]
  | i :: r, h => by
    have h1 := h i (by simp)
    have h2 := rowT_lenN N r fun j hj => h j (by simp [hj])
    rw [rowT, List.length_cons, List.length_append, List.length_cons, Nat.mul_add]
    omega
theorem rowB_lenN (N : Nat) {x : Ev} : ∀ l : List Nat, (∀ i ∈ l, (fldB x i).length ≤ N) → (rowB x l).length ≤ N * l.length
  | [], _ => by simp [rowB]
  | i :: r, h => by
    have h1 := h i (by simp)
    have h2 := rowB_lenN N r fun j hj => h j (by simp [hj])
    rw [rowB, List.length_append, List.length_cons, Nat.mul_add]
    omega
theorem RngE.fld {x : Ev} (hg : RngE x) {i : Nat} (h5 : i < 5) (h4 : i ≠ 4) : Rng (x.fld i) := by
  rcases lt5 h5 with rfl | rfl | rfl | rfl | rfl
  · exact hg.sy
  · exact hg.br
  · exact hg.pa
  · exact hg.n
  · exact absurd rfl h4
theorem textE_short {x : Ev} (hg : RngE x) (hv : (txt x.v).length ≤ 1600) : (textE x).length ≤ 9000 := by
  have hll := row_len x.k
  have h1 := Lib.itoa_length_le x.st hg.st.1 hg.st.2
  have h2 := Lib.itoa_length_le x.th hg.th.1 hg.th.2
  have hw := wordE_size x.k
  have hw2 : (wordE x.k).data.toList.length = (wordE x.k).size := by simp
  have h3 := rowT_lenN 1600 (x := x) (rowE x.k) (fun i hi => by
    have h5 := row_lt x.k i hi
    unfold fldT
    by_cases h4 : i = 4
    · rw [if_pos h4]
      exact hv
    · rw [if_neg h4]
      split
      · simp
      · have h8 := hg.fld h5 h4
        have := Lib.itoa_length_le (x.fld i) h8.1 h8.2
        omega)
  unfold textE
  simp only [List.length_append, List.length_cons]
  omega
theorem bytesE_short {x : Ev} {last : Int} (hg : RngE x) (hv : (txt x.v).length ≤ 1600) (hla : 0 ≤ last) : (bytesE x last).length ≤ 9000 := by
  have hll := row_len x.k
  have h1 := leb_len (n := (x.st - last).toNat) (by have := hg.st.2; omega)
  have h2 := leb_len (n := x.th.toNat) (by have := hg.th.2; omega)
  have h3 := rowB_lenN 1610 (x := x) (rowE x.k) (fun i hi => by
    have h5 := row_lt x.k i hi
    unfold fldB
    by_cases h4 : i = 4
    · rw [if_pos h4]
      have h7 := leb_len (n := (txt x.v).length) (by omega)
      rw [List.length_append]
      omega
    · rw [if_neg h4]
      have h8 := hg.fld h5 h4
      have h7 := leb_len (n := (x.fld i - leastE i).toNat) (by
        have := h8.2
        unfold leastE
        split <;> omega)
      omega)
  unfold bytesE
  simp only [List.length_append, List.length_cons]
  omega
theorem wrL_len : ∀ l : List Ev, (∀ x ∈ l, (textE x).length ≤ 9000) → (wrL l).length ≤ 9001 * l.length
  | [], _ => by simp [wrL]
  | x :: r, h => by
    have h1 := h x (by simp)
    have h2 := wrL_len r fun y hy => h y (by simp [hy])
    rw [wrL, List.length_append, List.length_cons, List.length_cons]
    omega
theorem encGo_len : ∀ (l : List Ev) (last : Int), 0 ≤ last → ChainE last l → (∀ x ∈ l, RngE x ∧ (txt x.v).length ≤ 1600) → (encGo last l).length ≤ 9000 * l.length
  | [], _, _, _, _ => by simp [encGo]
  | x :: r, last, h0, ⟨h1, h2, h3⟩, h => by
    have hx := h x (by simp)
    have q1 := bytesE_short hx.1 hx.2 h0
    have q2 := encGo_len r x.st (by omega) h3 fun y hy => h y (by simp [hy])
    rw [encGo, List.length_append, List.length_cons]
    omega
end Go.Proofs.YtjldbbcdhdfliaaGreatDoor
/-
  Layer 23: trace.Same at two readings of one event; how Read and Decode end, in one form.
-/
namespace Go.Proofs.YtjldbbcdhdfliaaGreatDoor
open Go.RowKit Go.Shelf Go.Sort

theorem str_neq (a b : ByteArray) (r : Bool) (h : (!(decide (a.data.toList = b.data.toList))) = r) (W : World) : (binOp .neq 9 (.string a) (.string b)).run Tryz.prog W = .ok (.bool r) W := by
  have u3 := Tryz.underlying9
  subst h
  go_simp
  rw [ByteArray.toList_eq, ByteArray.toList_eq, Bool.eq_iff_iff]
  simp
theorem size_zero {s : ByteArray} (h : s.size = 0) : s = ⟨#[]⟩ := by
  obtain ⟨d⟩ := s
  have : d = #[] := Array.eq_empty_of_size_eq_zero h
  rw [this]
theorem last_of (s : ByteArray) (h : ¬ s.size = 0) : ∃ c : UInt8, s.data.toList.getLast? = some c ∧ ∀ W : World, (Instr.index 9 (.string s) (.int .i64 ((s.size : Int) - 1))).run Tryz.prog W = .ok (.int .u8 (c.toNat : Nat)) W := by
  have u3 := Tryz.underlying9
  refine ⟨s[s.size - 1], ?_, fun W => ?_⟩
  · rw [List.getLast?_eq_getElem?]
    simp only [Array.length_toList, ByteArray.size_data, Array.getElem?_toList]
    exact Array.getElem?_eq_getElem (by rw [ByteArray.size_data]; omega)
  · unfold Instr.index
    go_simp
    rw [if_pos (by omega), getElem?_pos s (s.size - 1) (by omega)]
    rfl
theorem read_form {r : Except Nat (List Ev)} {w w' : World} {e : Ending} (h : RdEnds r w e w') : ∃ (a : Option Addr) (len cap ln er : Nat), e = .returned (.tuple #[.slice a len cap, .int .i64 (ln : Nat), .int .i64 (er : Nat)]) ∧ Below w.heap.size w w' ∧
    ((er = 0 ∧ ln = 0 ∧ ∃ l, r = .ok l ∧ len = l.length ∧ len ≤ cap ∧ IsEs (fun g => w.heap.size ≤ g ∧ g < w'.heap.size) w' l a) ∨ er = 230) := by
  unfold RdEnds at h
  obtain ⟨h, hb⟩ := h
  cases r with
  | ok l =>
    obtain ⟨a, cap, rfl, h1, -, h2⟩ := h
    exact ⟨a, l.length, cap, 0, 0, rfl, hb, .inl ⟨rfl, rfl, l, rfl, rfl, h1, h2⟩⟩
  | error j => exact ⟨none, 0, 0, j, 230, h, hb, .inr rfl⟩
theorem dec_form {r : Option (List Ev)} {w w' : World} {e : Ending} (h : DcEnds r w e w') : ∃ (a : Option Addr) (len cap er : Nat), e = .returned (.tuple #[.slice a len cap, .int .i64 (er : Nat)]) ∧ Below w.heap.size w w' ∧
    ((er = 0 ∧ ∃ l, r = some l ∧ len = l.length ∧ len ≤ cap ∧ IsEs (fun g => w.heap.size ≤ g ∧ g < w'.heap.size) w' l a) ∨ er = 230) := by
  unfold DcEnds at h
  obtain ⟨h, hb⟩ := h
  cases r with
  | some l =>
    obtain ⟨a, cap, rfl, h1, -, h2⟩ := h
    exact ⟨a, l.length, cap, 0, rfl, hb, .inl ⟨rfl, l, rfl, rfl, h1, h2⟩⟩
  | none => exact ⟨none, 0, 0, 230, h, hb, .inr rfl⟩
set_option maxRecDepth 100000 in
set_option maxHeartbeats 4000000 in
/-- trace.Same where two events read alike. -/
theorem tsame_self (x : Ev) (v v' : Value) (w : World) (hx : IsE (· < w.heap.size) w x v) (hy : IsE (· < w.heap.size) w x v') (hnd : nd x.v ≤ 256) :
    Calls Tryz.prog 28 #[v, v'] w fun e w' => e = .returned (.bool true) ∧ Below w.heap.size w w' := by
  obtain ⟨kk, nn, a, len, cap, rfl, hv, -⟩ := hx
  obtain ⟨kk', nn', a', len', cap', rfl, hv', -⟩ := hy
  have h2 := twe_new (w := w) (x := x) (y := x) (kk := kk) (nn := nn) (kk' := kk') (nn' := nn') (a := a) (a' := a') (len := len) (cap := cap) (len' := len') (cap' := cap')
  have HSM : Hid (∀ W : World, Below w.heap.size w W → Calls Tryz.prog 65 #[.agg #[.int .i64 kk, .int .i64 nn, .slice a len cap], .agg #[.int .i64 kk', .int .i64 nn', .slice a' len' cap']] W fun e w' => e = .returned (.bool true) ∧ Below W.heap.size W w') := by
    intro W hb
    refine (Same_any _ _ _ _ _ (hv.later hb) (hv'.later hb)).mono ?_
    rw [same_refl hnd]
    exact fun _ _ h => h
  unfold evC at h2 ⊢
  clear hv hv' hnd
  go_enter Tryz.func28, Tryz.ntmps28
  go_upto_region 1 with fail
  generalize (w.alloc (.cells #[.int .i64 x.k, .int .i64 x.st, .int .i64 x.th, .int .i64 x.sy, .int .i64 x.br, .int .i64 x.pa, .int .i64 x.n, .int .i64 kk, .int .i64 nn, .slice a len cap] 29)).alloc (.cells #[.int .i64 x.k, .int .i64 x.st, .int .i64 x.th, .int .i64 x.sy, .int .i64 x.br, .int .i64 x.pa, .int .i64 x.n, .int .i64 kk', .int .i64 nn', .slice a' len' cap'] 29) = W0 at *
  obtain ⟨hk, c0, c1, c2, c3, c4, c5, c6, c7, c8, c9, d0, d1, d2, d3, d4, d5, d6, d7, d8, d9⟩ := h2.held
  have hbw := hk.b
  have hnn : ∀ n : Int, (n == n) = true := fun n => by simp
  have e0 := hnn x.k
  have e1 := hnn x.st
  have e2 := hnn x.th
  have e3 := hnn x.sy
  have e4 := hnn x.br
  have e5 := hnn x.pa
  have e6 := hnn x.n
  go_wp2_with fail
  refine (HSM.out _ hbw).mono ?_
  rintro e w1 ⟨rfl, hb1⟩
  go_wp2_with fail
  go_ret
  exact ⟨rfl, hbw.trans (hb1.mono hbw.size)⟩
end Go.Proofs.YtjldbbcdhdfliaaGreatDoor
