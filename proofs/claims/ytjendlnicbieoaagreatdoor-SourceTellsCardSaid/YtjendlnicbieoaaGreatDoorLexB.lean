/-
  Walks over package source's lexer: inRange: digits, perhaps with a sign ahead, that are a number.
-/
import Derived.Test.YtjendlnicbieoaaGreatDoorLexA
import Derived.Test.YtjendlnicbieoaaGreatDoorShelf
import Derived.Lib.ParseIntB
import Derived.Laws.EntriesVeiled
namespace Go.Proofs.YtjendlnicbieoaaGreatDoor
open Go.RowKit Go.Sort

/-- What the numbers' reading rests on: the error's variable. -/
structure EnvP (w : World) : Prop where
  era : ∃ ev, w.cell? ⟨3, 0, none⟩ = some ev ∧ (ev = .nilIface ∨ ∃ te pe, ev = .iface te pe)
theorem EnvP.lt {w : World} (h : EnvP w) : 3 < w.heap.size := by
  obtain ⟨ev, h1, -⟩ := h.era
  exact block_lt_of_cell h1
theorem EnvP.fr {S : Nat → Prop} {w w' : World} (h : EnvP w) (hf : Fr S w w') (hS : ¬ S 3) : EnvP w' := by
  have hl := h.lt
  obtain ⟨ev, h1, h2⟩ := h.era
  exact ⟨ev, (hf.cell hl hS).trans h1, h2⟩
theorem EnvP.belowAll {w w' : World} (h : EnvP w) (hb : Below w.heap.size w w') : EnvP w' := h.fr (S := fun _ => False) (Fr.belowAll hb) id
theorem pu_digits (M : Nat) : ∀ (l : Bs) (acc : Nat), l.all isDi = true → (∃ v, Lib.parseUintM M acc l = .ok v) ∨ Lib.parseUintM M acc l = .range
  | [], acc, _ => .inl ⟨acc, rfl⟩
  | c :: r, acc, h => by
    simp only [List.all_cons, Bool.and_eq_true] at h
    have hc : 48 ≤ c.toNat ∧ c.toNat ≤ 57 := by have := h.1; unfold isDi at this; simpa using this
    rw [Lib.parseUintM, if_pos hc]
    split
    · exact .inr rfl
    · split
      · exact .inr rfl
      · exact pu_digits M r _ h.2
/-- Digits, perhaps with a sign ahead. -/
def numS (l : Bs) : Prop := ∃ c ds, l = c :: ds ∧ ((isDi c = true ∧ ds.all isDi = true) ∨ (c.toNat = 45 ∧ ds ≠ [] ∧ ds.all isDi = true))
theorem numS_parse {l : Bs} (h : numS l) : (∃ v, Lib.parseIntB 64 l = .ok v) ∨ Lib.parseIntB 64 l = .range := by
  obtain ⟨c, ds, rfl, h⟩ := h
  have key : ∀ m : Bs, m ≠ [] → m.all isDi = true → (∃ v, Lib.parseUintB 64 m = .ok v) ∨ Lib.parseUintB 64 m = .range := fun m hm ha => by
    unfold Lib.parseUintB
    rw [if_neg hm]
    exact pu_digits _ m 0 ha
  have hk : (∃ v, Lib.parseUintB 64 (if c.toNat = 43 ∨ c.toNat = 45 then ds else c :: ds) = .ok v) ∨ Lib.parseUintB 64 (if c.toNat = 43 ∨ c.toNat = 45 then ds else c :: ds) = .range := by
    rcases h with ⟨h1, h2⟩ | ⟨h1, h2, h3⟩
    · have hc : 48 ≤ c.toNat ∧ c.toNat ≤ 57 := by have := h1; unfold isDi at this; simpa using this
      rw [if_neg (by omega)]
      exact key _ (by simp) (by simp [h1, h2])
    · rw [if_pos (.inr h1)]
      exact key _ h2 h3
  unfold Lib.parseIntB
  dsimp only
  rcases hk with ⟨v, hk⟩ | hk
  · rw [hk]
    dsimp only
    split
    · exact .inr rfl
    · split
      · exact .inr rfl
      · exact .inl ⟨_, rfl⟩
  · rw [hk]
    exact .inr rfl
theorem dashC (c : UInt8) : ((c.toNat : Int) == 45) = decide (c.toNat = 45) := by rw [Bool.eq_iff_iff]; simp; omega
theorem nulC (c : UInt8) : ((c.toNat : Int) == 48) = decide (c.toNat = 48) := by rw [Bool.eq_iff_iff]; simp; omega
theorem u8_eq {c : UInt8} {n : Nat} (h : c.toNat = n) : c = UInt8.ofNat n := by
  subst h
  simp
theorem intD_head {l : Bs} {D : UInt8} (hh : (if l.head? = some 45 then l.tail else l).head? = some D) : (D.toNat = 48 ∧ l ≠ [48] → intD l = none) ∧
    (¬ (D.toNat = 48 ∧ l ≠ [48]) → (∀ v, Lib.parseIntB 64 l = .ok v → intD l = some v) ∧ (Lib.parseIntB 64 l = .range → intD l = none)) := by
  have e : (some D = some (48 : UInt8)) ↔ D.toNat = 48 := by
    constructor
    · intro h
      injection h with h
      rw [h]
      rfl
    · intro h
      rw [u8_eq h]
      rfl
  unfold intD
  rw [hh]
  constructor
  · rintro ⟨h1, h2⟩
    rw [if_pos ⟨e.2 h1, h2⟩]
  · intro h
    rw [if_neg fun h3 => h ⟨e.1 h3.1, h3.2⟩]
    exact ⟨fun v hv => by rw [hv], fun hv => by rw [hv]⟩
set_option maxRecDepth 100000 in
set_option maxHeartbeats 2000000 in
theorem inRange_any (s : ByteArray) (hs : s.size ≤ 4000000) (hn : numS s.data.toList) (w : World) (hE : EnvP w) :
    Calls Tryz.prog 77 #[.string s] w fun e w' => e = .returned (.bool (intD s.data.toList).isSome) ∧ Below w.heap.size w w' := by
  obtain ⟨r, hr⟩ : ∃ r, (intD s.data.toList).isSome = r := ⟨_, rfl⟩
  rw [hr]
  have HR := Lib.hid hr
  clear hr
  have hp := numS_parse hn
  obtain ⟨c, ds, hl, hcd⟩ := hn
  have h0 : 0 < s.size := by
    have := congrArg List.length hl
    simp at this
    omega
  have hs0 : s[0] = c := by
    have : s.data.toList[0]? = some c := by rw [hl]; rfl
    have h2 : s.data.toList[0]? = some s[0] := by
      rw [List.getElem?_eq_getElem (by simpa using h0)]
      rfl
    rw [h2] at this
    exact Option.some.inj this
  obtain ⟨z, hz⟩ : ∃ z, (s.toList == [48]) = z := ⟨_, rfl⟩
  have hzl : z = decide (s.data.toList = [48]) := by
    rw [← hz, ByteArray.toList_eq, Bool.eq_iff_iff]
    simp
  have hsz : s.data.toList.length = s.size := by simp
  by_cases h45 : c.toNat = 45
  case' pos =>
    have q1 : ((s[0].toNat : Int) == 45) = true := by rw [hs0, h45]; rfl
    have hds : ds ≠ [] := by
      rcases hcd with ⟨h, -⟩ | ⟨-, h, -⟩
      · unfold isDi at h; simp at h; omega
      · exact h
    obtain ⟨D, dr, hdr⟩ : ∃ D dr, ds = D :: dr := by
      cases ds with
      | nil => exact absurd rfl hds
      | cons D dr => exact ⟨D, dr, rfl⟩
    obtain ⟨t, ht⟩ : ∃ t, s.extract 1 s.size = t := ⟨_, rfl⟩
    have htl : t.data.toList = D :: dr := by
      rw [← ht, ByteArray.data_extract, Array.toList_extract, List.extract_eq_take_drop, hl, hdr]
      have : s.size = dr.length + 2 := by rw [← hsz, hl, hdr]; rfl
      rw [this]
      simp
    have hts : 0 < t.size := by
      have := congrArg List.length htl
      simp at this
      omega
    have ht0 : t[0] = D := by
      have : t.data.toList[0]? = some D := by rw [htl]; rfl
      have h2 : t.data.toList[0]? = some t[0] := by
        rw [List.getElem?_eq_getElem (by simpa using hts)]
        rfl
      rw [h2] at this
      exact Option.some.inj this
    have hI := Lib.hid (intD_head (l := s.data.toList) (D := D) (by
      have hc : s.data.toList.head? = some 45 := by rw [hl, u8_eq h45]; rfl
      rw [if_pos hc, hl, hdr]
      rfl))
    go_enter Tryz.func77, Tryz.ntmps77
    go_upto_region 4 with fail
    clear ht
  case' neg =>
    have q1 : ((s[0].toNat : Int) == 45) = false := by rw [hs0]; simp; omega
    obtain ⟨D, hcD⟩ : ∃ D, D = c := ⟨_, rfl⟩
    rw [← hcD] at hl hs0 h45 hcd
    clear hcD
    have hI := Lib.hid (intD_head (l := s.data.toList) (D := D) (by
      have hc : ¬ s.data.toList.head? = some 45 := by
        rw [hl]
        intro h
        injection h with h
        rw [h] at h45
        exact h45 rfl
      rw [if_neg hc, hl]
      rfl))
    go_enter Tryz.func77, Tryz.ntmps77
    go_upto_region 4 with fail
  all_goals
    have HZ := Lib.hid hzl
    by_cases hD : D.toNat = 48 ∧ z = false
    case' pos =>
      have q2 : ((D.toNat : Int) == 48) = true := by rw [hD.1]; rfl
      obtain ⟨h48, rfl⟩ := hD
      have HF : Hid (r = false) := by
        show _ = _
        have : ¬ s.data.toList = [48] := by have := HZ.out; simpa using this.symm
        rw [← HR.out, hI.out.1 ⟨h48, this⟩]
        rfl
      clear hzl hp hl hcd h48
      go_wp2_with fail
      go_ret
      exact ⟨by rw [HF.out]; rfl, Below.refl _ _⟩
    case' neg =>
      have hI2 := hI.out.2 fun h => hD ⟨h.1, by rw [HZ.out]; simpa using h.2⟩
      have q2 : ((D.toNat : Int) == 48) = false ∨ (((D.toNat : Int) == 48) = true ∧ z = true) := by
        by_cases h48 : D.toNat = 48
        · exact .inr ⟨by rw [h48]; rfl, by cases z; exact absurd ⟨h48, rfl⟩ hD; rfl⟩
        · exact .inl (by simp; omega)
      have HP := Lib.hid hp
      have HI2 := Lib.hid hI2
      have hE2 := hE.era
      clear hzl hp hl hcd hI2 hD
      rcases q2 with q2 | ⟨q2, rfl⟩
      all_goals
        rcases HP.out with ⟨v, hv⟩ | hv
        · have HV := Lib.hid hv
          have HF : Hid (r = true) := by show _ = _; rw [← HR.out, HI2.out.1 v hv]; rfl
          clear hv
          go_wp2_with (go_at_call 96; refine (Tryz.strconv_ParseInt_10_at64_ok s (by omega) v HV.out _).mono ?_; rintro e w1 ⟨rfl, hw1⟩)
          go_ret
          refine ⟨by rw [HF.out]; rfl, ?_⟩
          rcases hw1 with rfl | ⟨t, rfl⟩
          · exact Below.refl _ _
          · exact Lib.bytesWorld_below w _ t
        · have HV := Lib.hid hv
          have HF : Hid (r = false) := by show _ = _; rw [← HR.out, HI2.out.2 hv]; rfl
          obtain ⟨ev, hev, hif⟩ := hE2
          clear hv
          go_wp2_with (go_at_call 96; refine (Tryz.strconv_ParseInt_10_at64_range s (by omega) HV.out ev _ hev hif).mono ?_; rintro e w1 ⟨N, rfl, hN, -, hb1⟩)
          go_ret
          exact ⟨by rw [HF.out]; rfl, hb1⟩
end Go.Proofs.YtjendlnicbieoaaGreatDoor
/-
  Walks over package source's lexer: token.
-/
namespace Go.Proofs.YtjendlnicbieoaaGreatDoor
open Go.RowKit Go.Sort

theorem Fr.setNew {S : Nat → Prop} {w w1 : World} (h : Fr S w w1) {q : Addr} (hq : S q.block ∨ w.heap.size ≤ q.block) (u : Value) : Fr S w (w1.setCell q u) :=
  ⟨h.os, h.tape, h.output, by simpa [World.setCell] using h.size, fun k h1 h2 => (Below.heap_setCell _ _ _ _ (by rcases hq with hq | hq; (intro e; rw [e] at h2; exact h2 hq); omega)).trans (h.block k h1 h2)⟩
/-- A token as a value. -/
def tkV (k : Nat) (S : ByteArray) (n : Nat) : Value := .agg #[.int .i64 (k : Nat), .string S, .int .i64 (n : Nat)]
theorem ext_list (s : ByteArray) (i j : Nat) : (s.extract i j).data.toList = (bs s i).take (j - i) := by
  rw [ByteArray.data_extract, Array.toList_extract, List.extract_eq_take_drop]
  rfl
theorem ext_take {s : ByteArray} {i j : Nat} {u : Bs} (hij : i ≤ j) (hj : j ≤ s.size) (h : bs s i = u ++ bs s j) : (s.extract i j).data.toList = u ∧ u.length = j - i := by
  have hl : u.length = j - i := by
    have := congrArg List.length h
    rw [List.length_append, bs_len, bs_len] at this
    omega
  refine ⟨?_, hl⟩
  rw [ext_list, h, ← hl, List.take_left]
theorem tok_letter {s : ByteArray} {j j2 m : Nat} {c : UInt8} (hlt : j < s.size) (hc : s[j] = c) (hA : isLt c = true) (hjj : j ≤ j2) (hj2 : j2 ≤ s.size) (hdw : (bs s j).dropWhile isAn = bs s j2) (htw : bs s j = (bs s j).takeWhile isAn ++ bs s j2) :
    tokD c (bs s (j + 1)) m = (⟨if j2 - j ≤ 16 then 2 else 1, (s.extract j j2).data.toList, m⟩, bs s j2) := by
  obtain ⟨e1, e2⟩ := ext_take hjj hj2 htw
  have han : isAn c = true := by unfold isAn; rw [hA]; rfl
  rw [bs_cons hlt, hc, List.takeWhile_cons, if_pos han] at e1 e2
  rw [bs_cons hlt, hc, List.dropWhile_cons, if_pos han] at hdw
  unfold tokD
  rw [if_pos hA, e1, e2, hdw]
theorem tok_number {s : ByteArray} {j j2 m : Nat} {c : UInt8} (hlt : j < s.size) (hc : s[j] = c) (hA : isLt c = false) (hd : isDi c = true ∨ (c.toNat = 45 ∧ ((bs s (j + 1)).head?.map isDi) = some true)) (hjj : j + 1 ≤ j2) (hj2 : j2 ≤ s.size) (hdw : (bs s (j + 1)).dropWhile isDi = bs s j2) (htw : bs s (j + 1) = (bs s (j + 1)).takeWhile isDi ++ bs s j2) :
    tokD c (bs s (j + 1)) m = (⟨if (intD (s.extract j j2).data.toList).isSome = true then 3 else 1, (s.extract j j2).data.toList, m⟩, bs s j2) ∧ numS (s.extract j j2).data.toList := by
  have h2 : bs s j = (c :: (bs s (j + 1)).takeWhile isDi) ++ bs s j2 := by rw [bs_cons hlt, hc, List.cons_append, ← htw]
  obtain ⟨e1, -⟩ := ext_take (by omega) hj2 h2
  refine ⟨?_, ?_⟩
  · unfold tokD
    rw [if_neg (by rw [hA]; simp), if_pos hd, e1, hdw]
  · rw [e1]
    refine ⟨c, _, rfl, ?_⟩
    have hall : ((bs s (j + 1)).takeWhile isDi).all isDi = true := by
      rw [List.all_eq_true]
      intro x hx
      exact List.all_eq_true.1 List.all_takeWhile x hx
    rcases hd with hd | ⟨hd, hh⟩
    · exact .inl ⟨hd, hall⟩
    · refine .inr ⟨hd, ?_, hall⟩
      cases hb : bs s (j + 1) with
      | nil => rw [hb] at hh; simp at hh
      | cons x r =>
        rw [hb] at hh
        have : isDi x = true := by simpa using hh
        simp [this]
theorem ext_one {s : ByteArray} {j : Nat} {c : UInt8} (hlt : j < s.size) (hc : s[j] = c) : (s.extract j (j + 1)).data.toList = [c] := by
  rw [ext_list, bs_cons hlt, hc, show j + 1 - j = 1 by omega]
  rfl
theorem tok_one {s : ByteArray} {j m k : Nat} {c : UInt8} (hlt : j < s.size) (hc : s[j] = c) (hA : isLt c = false) (hd : ¬ (isDi c = true ∨ (c.toNat = 45 ∧ ((bs s (j + 1)).head?.map isDi) = some true))) (hk : k = if c.toNat = 40 ∨ c.toNat = 41 ∨ c.toNat = 44 ∨ c.toNat = 61 then 4 else 1) :
    tokD c (bs s (j + 1)) m = (⟨k, (s.extract j (j + 1)).data.toList, m⟩, bs s (j + 1)) := by
  rw [ext_one hlt hc, hk]
  unfold tokD
  rw [if_neg (by rw [hA]; simp), if_neg hd]
  split <;> rfl
/-- What token hands back. -/
def TokE (b : Nat) (T : TypeId) (s : ByteArray) (i n : Nat) (rest : List Value) (w : World) (e : Ending) (w' : World) : Prop :=
  FrB b w w' ∧ ∃ (j m k ln : Nat) (S : ByteArray), e = .returned (tkV k S ln) ∧ i ≤ j ∧ j ≤ s.size ∧ m ≤ j ∧ LxB w' b T s j m rest ∧ tok1 (bs s i) n = (⟨k, S.data.toList, ln⟩, bs s j, m) ∧ k ≤ 4 ∧ ln ≤ s.size
/-- The ways of a token: what has been read, its kind. -/
theorem TokE.of {b : Nat} {T : TypeId} {s : ByteArray} {i n : Nat} {rest : List Value} {w w' : World} {j j2 m k : Nat} {c : UInt8} (hsk : Hid (skipB false (bs s i) n = (bs s j, m))) (hj : j < s.size) (hc : s[j] = c) (hij : i ≤ j) (hmj : m ≤ j)
    (hf : FrB b w w') (hjj : j ≤ j2) (hj2 : j2 ≤ s.size) (hl : LxB w' b T s j2 m rest) (ht : Hid (tokD c (bs s (j + 1)) m = (⟨k, (s.extract j j2).data.toList, m⟩, bs s j2))) (hk : k ≤ 4) : TokE b T s i n rest w (.returned (tkV k (s.extract j j2) m)) w' := by
  refine ⟨hf, j2, m, k, m, _, rfl, by omega, hj2, by omega, hl, ?_, hk, by omega⟩
  unfold tok1
  rw [hsk.out, bs_cons hj, hc]
  dsimp only
  rw [ht.out]
set_option maxRecDepth 100000 in
set_option maxHeartbeats 4000000 in
theorem token_any (b : Nat) (T : TypeId) (s : ByteArray) (i n : Nat) (rest : List Value) (w : World) (h : LxB w b T s i n rest) (hs : s.size ≤ 4000000) (hi : i ≤ s.size) (hn : n ≤ i) (hE : EnvP w) (hb3 : b ≠ 3) :
    Calls Tryz.prog 48 #[.pointer (some ⟨b, 0, none⟩)] w (TokE b T s i n rest w) := by
  have hbl := h.lt
  have hr0 := Blk.new w 106 [.int .i64 0, .string ⟨#[]⟩, .int .i64 0]
  have h1 : LxB (w.alloc (.cells #[.int .i64 0, .string ⟨#[]⟩, .int .i64 0] 106)) b T s i n rest := Blk.alloc h _
  have hf1 : FrB b w (w.alloc (.cells #[.int .i64 0, .string ⟨#[]⟩, .int .i64 0] 106)) := Fr.alloc _
  have hE1 := hE.belowAll (below_new w (.cells #[.int .i64 0, .string ⟨#[]⟩, .int .i64 0] 106))
  have hB := blank_any b T s i n rest _ h1 hs hi hn
  go_enter Tryz.func48, Tryz.ntmps48
  go_upto_region 2 with (go_at_call 72; refine hB.mono ?_; rintro e w2 ⟨rfl, hf2, j, m, hij, hj, hmj, hsk, hl2⟩)
  have hf12 : FrB b w w2 := hf1.same hf2
  have hr2 := hr0.fr hf2 (by omega)
  have hE2 := hE1.fr hf2 (Ne.symm hb3)
  have hz2 := hf12.size
  have hrl := hr2.lt
  have HSK := Lib.hid hsk
  clear hr0 h1 hf1 hE1 hB hf2 hsk h hE
  generalize hrb : w.heap.size = rb at *
  have c0 := hl2.c 0 rfl
  have c1 := hl2.c 1 rfl
  have c2 := hl2.c 2 rfl
  by_cases hlt : j < s.size
  case' neg =>
    have hd : decide (s.size ≤ j) = true := decide_eq_true (by omega)
    have r0 := hr2.c 0 rfl
    have r1 := hr2.c 1 rfl
    have r2 := hr2.c 2 rfl
    have f0 := hr2.fz 0
    have f1 := hr2.fz 1
    have f2 := hr2.fz 2
-- WAYS
    go_quiet (fail)
    have hr3 := Blk.drewN hr2 nq
    have hl3 : LxB (w2.drewN nq) b T s j m rest := Blk.drewN hl2 nq
    have hf3 : FrB b w (w2.drewN nq) := hf12.drewN nq
    clear r0 r1 r2 f0 f1 f2 c0 c1 c2
    generalize w2.drewN nq = w3 at *
    have c0 := Blk.c hl3 0 rfl
    have c2 := Blk.c hl3 2 rfl
    have r0 := hr3.c 0 rfl
    have r1 := hr3.c 1 rfl
    have r2 := hr3.c 2 rfl
    have f0 := hr3.fz 0
    have f1 := hr3.fz 1
    have f2 := hr3.fz 2
    go_wp2_with fail
    have hr11 := ((hr3.set 0 (.int .i64 0)).set 1 (.string ⟨#[]⟩)).set 2 (.int .i64 (m : Nat))
    have hz3 := hf3.size
    have hf11 : FrB b w (((w3.setCell ⟨rb, 0, none⟩ (.int .i64 0)).setCell ⟨rb, 1, none⟩ (.string ⟨#[]⟩)).setCell ⟨rb, 2, none⟩ (.int .i64 (m : Nat))) := ((hf3.setNew (.inr (by dsimp only; omega)) _).setNew (.inr (by dsimp only; omega)) _).setNew (.inr (by dsimp only; omega)) _
    have hl11 : LxB (((w3.setCell ⟨rb, 0, none⟩ (.int .i64 0)).setCell ⟨rb, 1, none⟩ (.string ⟨#[]⟩)).setCell ⟨rb, 2, none⟩ (.int .i64 (m : Nat))) b T s j m rest := ((Blk.far hl3 (q := ⟨rb, 0, none⟩) (by dsimp only; omega) _).far (q := ⟨rb, 1, none⟩) (by dsimp only; omega) _).far (q := ⟨rb, 2, none⟩) (by dsimp only; omega) _
    clear r0 r1 r2 f0 f1 f2 c0 c2 hr3 hl3 hf3
    generalize ((w3.setCell ⟨rb, 0, none⟩ (.int .i64 0)).setCell ⟨rb, 1, none⟩ (.string ⟨#[]⟩)).setCell ⟨rb, 2, none⟩ (.int .i64 (m : Nat)) = w11 at *
    have d0 := hr11.c 0 rfl
    have d1 := hr11.c 1 rfl
    have d2 := hr11.c 2 rfl
    refine bodyPost_ret (v := tkV 0 ⟨#[]⟩ m) (by simp [results, Tryz.results48, go_sem, d0, d1, d2, tkV]) rfl ?_
    refine ⟨hf11, j, m, 0, m, ⟨#[]⟩, rfl, hij, hj, hmj, hl11, ?_, by omega, by omega⟩
    unfold tok1
    rw [HSK.out, bs_nil hlt]
  case' pos =>
    have hd : decide (s.size ≤ j) = false := decide_eq_false (by omega)
    obtain ⟨c, hc⟩ : ∃ c, s[j] = c := ⟨_, rfl⟩
    have HC := Lib.hid hc
    have hLe := letter_any c
    have hDi := digit_any c
    go_quiet (fail)
    have hr3 := Blk.drewN hr2 nq
    have hl3 : LxB (w2.drewN nq) b T s j m rest := Blk.drewN hl2 nq
    have hf3 : FrB b w (w2.drewN nq) := hf12.drewN nq
    have hE3 := hE2.fr (S := fun _ => False) (Fr.drewN nq) id
    clear c0 c1 c2 hr2 hl2 hf12 hE2
    generalize w2.drewN nq = w3 at *
    have c0 := Blk.c hl3 0 rfl
    have c1 := Blk.c hl3 1 rfl
    have c2 := Blk.c hl3 2 rfl
    go_upto_region 6 with fail
    have hbx := Blk.new w3 106 [.int .i64 1, .string ⟨#[]⟩, .int .i64 (m : Nat)]
    have hl4 : LxB (w3.alloc (.cells #[.int .i64 1, .string ⟨#[]⟩, .int .i64 (m : Nat)] 106)) b T s j m rest := Blk.alloc hl3 _
    have hr4 := hr3.alloc (.cells #[.int .i64 1, .string ⟨#[]⟩, .int .i64 (m : Nat)] 106)
    have hf4 : FrB b w (w3.alloc (.cells #[.int .i64 1, .string ⟨#[]⟩, .int .i64 (m : Nat)] 106)) := hf3.alloc _
    have hE4 := hE3.belowAll (below_new w3 (.cells #[.int .i64 1, .string ⟨#[]⟩, .int .i64 (m : Nat)] 106))
    have hbtb : b < w3.heap.size := Blk.lt hl3
    have hrtb : rb < w3.heap.size := hr3.lt
    have hz3 := hf3.size
    clear c0 c1 c2 hl3 hr3 hf3 hE3
    rw [List.toArray] at hbx
    generalize w3.alloc (.cells #[.int .i64 1, .string ⟨#[]⟩, .int .i64 (m : Nat)] 106) = w4 at *
    have hz4 := hf4.size
    generalize w3.heap.size = tb at *
    have htl := hbx.lt
    have c0 := Blk.c hl4 0 rfl
    have c1 := Blk.c hl4 1 rfl
    go_upto_region 8 with fail
    have f1 := Blk.fz hl4 1
    have k0 := hbx.c 0 rfl
    have kf := hbx.fz 0
    have hLT := hlt
    by_cases hA : isLt c = true
    case' pos =>
      rw [hA] at hLe
      have hW := while_any 75 isAn isp_an b T s j m rest w4 hl4 hs hj
      go_upto_region 10 with first
        | (go_at_call 73; refine (hLe _).mono ?_; rintro e w6 ⟨rfl, rfl⟩)
        | (go_at_call 74; refine hW.mono ?_; rintro e w8 ⟨rfl, hfw, j2, hjj, hj2, hdw, htw, hl8⟩)
      have HT := tok_letter hlt hc hA hjj hj2 hdw htw (m := m)
      have hbx8 := hbx.fr hfw (by omega)
      have hr8 := hr4.fr hfw (by omega)
      have hf8 := hf4.same hfw
      have hz8 := hfw.size
      clear c0 c1 f1 k0 kf hbx hr4 hl4 hfw hW hE4 hdw htw hz4
      have c1 := Blk.c hl8 1 rfl
      by_cases h16 : j2 - j ≤ 16
      case' pos =>
        rw [if_pos h16] at HT
        have q16 : (j2 : Int) - (j : Int) ≤ 16 := by omega
        have q17 : decide ((j2 : Int) - (j : Int) ≤ 16) = true := decide_eq_true q16
        have k0 := hbx8.c 0 rfl
        have kf := hbx8.fz 0
        have HTT := Lib.hid HT
        clear HT
        go_upto_region 20 with fail
        have hbx := hbx8.set 0 (.int .i64 2)
        have hl9 : LxB (w8.setCell ⟨tb, 0, none⟩ (.int .i64 2)) b T s j2 m rest := Blk.far hl8 (q := ⟨tb, 0, none⟩) (by dsimp only; omega) _
        have hr9 := hr8.far (q := ⟨tb, 0, none⟩) (by dsimp only; omega) (.int .i64 2)
        have hf9 : FrB b w (w8.setCell ⟨tb, 0, none⟩ (.int .i64 2)) := hf8.setNew (.inr (by dsimp only; omega)) _
        clear k0 kf c1 hbx8 hl8 hr8 hf8
        generalize w8.setCell ⟨tb, 0, none⟩ (.int .i64 2) = w9 at *
        have b0 := hbx.c 0 rfl
        have b1 := hbx.c 1 rfl
        have bf := hbx.fz 1
        have c0 := hl9.c 0 rfl
        have c1 := hl9.c 1 rfl
        have hsub1 : decide (j2 ≤ s.size) = true := decide_eq_true (by omega)
        have hsub2 : decide (j ≤ j2) = true := decide_eq_true (by omega)
        go_region
        have hbx2 := (hbx.set 1 (.string (s.extract j j2))).drew
        have hl10 : LxB ((w9.setCell ⟨tb, 1, none⟩ (.string (s.extract j j2))).drew) b T s j2 m rest := (Blk.far hl9 (q := ⟨tb, 1, none⟩) (by dsimp only; omega) _).drew
        have hr10 := (hr9.far (q := ⟨tb, 1, none⟩) (by dsimp only; omega) (.string (s.extract j j2))).drew
        have hf10 : FrB b w ((w9.setCell ⟨tb, 1, none⟩ (.string (s.extract j j2))).drew) := (hf9.setNew (.inr (by dsimp only; omega)) _).same Fr.drew
        clear b0 b1 bf c0 c1 hbx hl9 hr9 hf9
        generalize (w9.setCell ⟨tb, 1, none⟩ (.string (s.extract j j2))).drew = w10 at *
        have b0 := hbx2.c 0 rfl
        have b1 := hbx2.c 1 rfl
        have b2 := hbx2.c 2 rfl
        have r0 := hr10.c 0 rfl
        have r1 := hr10.c 1 rfl
        have r2 := hr10.c 2 rfl
        have f0 := hr10.fz 0
        have f1 := hr10.fz 1
        have f2 := hr10.fz 2
        clear hbx2
        go_wp2_with fail
        have hr11 := ((hr10.set 0 (.int .i64 2)).set 1 (.string (s.extract j j2))).set 2 (.int .i64 (m : Nat))
        have hf11 : FrB b w (((w10.setCell ⟨rb, 0, none⟩ (.int .i64 2)).setCell ⟨rb, 1, none⟩ (.string (s.extract j j2))).setCell ⟨rb, 2, none⟩ (.int .i64 (m : Nat))) := ((hf10.setNew (.inr (by dsimp only; omega)) _).setNew (.inr (by dsimp only; omega)) _).setNew (.inr (by dsimp only; omega)) _
        have hl11 : LxB (((w10.setCell ⟨rb, 0, none⟩ (.int .i64 2)).setCell ⟨rb, 1, none⟩ (.string (s.extract j j2))).setCell ⟨rb, 2, none⟩ (.int .i64 (m : Nat))) b T s j2 m rest := ((Blk.far hl10 (q := ⟨rb, 0, none⟩) (by dsimp only; omega) _).far (q := ⟨rb, 1, none⟩) (by dsimp only; omega) _).far (q := ⟨rb, 2, none⟩) (by dsimp only; omega) _
        clear r0 r1 r2 f0 f1 f2 hr10 hl10 hf10
        generalize ((w10.setCell ⟨rb, 0, none⟩ (.int .i64 2)).setCell ⟨rb, 1, none⟩ (.string (s.extract j j2))).setCell ⟨rb, 2, none⟩ (.int .i64 (m : Nat)) = w11 at *
        have d0 := hr11.c 0 rfl
        have d1 := hr11.c 1 rfl
        have d2 := hr11.c 2 rfl
        refine bodyPost_ret (v := tkV 2 (s.extract j j2) m) (by simp [results, Tryz.results48, go_sem, d0, d1, d2, tkV]) rfl ?_
        exact TokE.of HSK hlt HC.out hij hmj hf11 (by omega) (by omega) hl11 HTT (by omega)
      case' neg =>
        rw [if_neg h16] at HT
        have q16 : ¬ (j2 : Int) - (j : Int) ≤ 16 := by omega
        have q17 : decide ((j2 : Int) - (j : Int) ≤ 16) = false := decide_eq_false q16
        have HTT := Lib.hid HT
        clear HT
        go_upto_region 20 with fail
        have hbx := hbx8
        have hl9 := hl8
        have hr9 := hr8
        have hf9 := hf8
        clear c1 hbx8 hl8 hr8 hf8
        generalize w8 = w9 at *
        have b0 := hbx.c 0 rfl
        have b1 := hbx.c 1 rfl
        have bf := hbx.fz 1
        have c0 := hl9.c 0 rfl
        have c1 := hl9.c 1 rfl
        have hsub1 : decide (j2 ≤ s.size) = true := decide_eq_true (by omega)
        have hsub2 : decide (j ≤ j2) = true := decide_eq_true (by omega)
        go_region
        have hbx2 := (hbx.set 1 (.string (s.extract j j2))).drew
        have hl10 : LxB ((w9.setCell ⟨tb, 1, none⟩ (.string (s.extract j j2))).drew) b T s j2 m rest := (Blk.far hl9 (q := ⟨tb, 1, none⟩) (by dsimp only; omega) _).drew
        have hr10 := (hr9.far (q := ⟨tb, 1, none⟩) (by dsimp only; omega) (.string (s.extract j j2))).drew
        have hf10 : FrB b w ((w9.setCell ⟨tb, 1, none⟩ (.string (s.extract j j2))).drew) := (hf9.setNew (.inr (by dsimp only; omega)) _).same Fr.drew
        clear b0 b1 bf c0 c1 hbx hl9 hr9 hf9
        generalize (w9.setCell ⟨tb, 1, none⟩ (.string (s.extract j j2))).drew = w10 at *
        have b0 := hbx2.c 0 rfl
        have b1 := hbx2.c 1 rfl
        have b2 := hbx2.c 2 rfl
        have r0 := hr10.c 0 rfl
        have r1 := hr10.c 1 rfl
        have r2 := hr10.c 2 rfl
        have f0 := hr10.fz 0
        have f1 := hr10.fz 1
        have f2 := hr10.fz 2
        clear hbx2
        go_wp2_with fail
        have hr11 := ((hr10.set 0 (.int .i64 1)).set 1 (.string (s.extract j j2))).set 2 (.int .i64 (m : Nat))
        have hf11 : FrB b w (((w10.setCell ⟨rb, 0, none⟩ (.int .i64 1)).setCell ⟨rb, 1, none⟩ (.string (s.extract j j2))).setCell ⟨rb, 2, none⟩ (.int .i64 (m : Nat))) := ((hf10.setNew (.inr (by dsimp only; omega)) _).setNew (.inr (by dsimp only; omega)) _).setNew (.inr (by dsimp only; omega)) _
        have hl11 : LxB (((w10.setCell ⟨rb, 0, none⟩ (.int .i64 1)).setCell ⟨rb, 1, none⟩ (.string (s.extract j j2))).setCell ⟨rb, 2, none⟩ (.int .i64 (m : Nat))) b T s j2 m rest := ((Blk.far hl10 (q := ⟨rb, 0, none⟩) (by dsimp only; omega) _).far (q := ⟨rb, 1, none⟩) (by dsimp only; omega) _).far (q := ⟨rb, 2, none⟩) (by dsimp only; omega) _
        clear r0 r1 r2 f0 f1 f2 hr10 hl10 hf10
        generalize ((w10.setCell ⟨rb, 0, none⟩ (.int .i64 1)).setCell ⟨rb, 1, none⟩ (.string (s.extract j j2))).setCell ⟨rb, 2, none⟩ (.int .i64 (m : Nat)) = w11 at *
        have d0 := hr11.c 0 rfl
        have d1 := hr11.c 1 rfl
        have d2 := hr11.c 2 rfl
        refine bodyPost_ret (v := tkV 1 (s.extract j j2) m) (by simp [results, Tryz.results48, go_sem, d0, d1, d2, tkV]) rfl ?_
        exact TokE.of HSK hlt HC.out hij hmj hf11 (by omega) (by omega) hl11 HTT (by omega)
    case' neg =>
      rw [Bool.not_eq_true] at hA
      rw [hA] at hLe
      have hF61 := fun (d : Bool) (h : isDi c = d) => (show ∀ w, Calls Tryz.prog 76 #[.int .u8 (c.toNat : Nat)] w fun e w' => e = .returned (.bool d) ∧ w = w' from fun w => by rw [← h]; exact hDi w)
      by_cases hN : isDi c = true ∨ (c.toNat = 45 ∧ ((bs s (j + 1)).head?.map isDi) = some true)
      case' pos =>
        have hj1 : j + 1 ≤ s.size := hlt
        have hl5 : LxB (w4.setCell ⟨b, 1, none⟩ (.int .i64 ((j + 1 : Nat) : Int))) b T s (j + 1) m rest := LxB.set1 hl4 (j + 1)
        have hW := while_any 76 isDi isp_di b T s (j + 1) m rest _ hl5 hs hj1
        have hbx5 := hbx.far (q := ⟨b, 1, none⟩) (by dsimp only; omega) (.int .i64 ((j + 1 : Nat) : Int))
        have hr5 := hr4.far (q := ⟨b, 1, none⟩) (by dsimp only; omega) (.int .i64 ((j + 1 : Nat) : Int))
        have hf5 := hf4.set 1 (.int .i64 ((j + 1 : Nat) : Int))
        have hE5 := hE4.fr (S := fun k => k = b) (Fr.set (q := ⟨b, 1, none⟩) (u := .int .i64 ((j + 1 : Nat) : Int)) (.inl rfl)) (Ne.symm hb3)
        have hz5 : (w4.setCell ⟨b, 1, none⟩ (.int .i64 ((j + 1 : Nat) : Int))).heap.size = w4.heap.size := by simp [World.setCell]
        have hj1e : ((j + 1 : Nat) : Int) = (j : Int) + 1 := by omega
        rw [hj1e] at hW hbx5 hr5 hf5 hE5 hz5
        have hN2 : isDi c = true ∨ (isDi c = false ∧ c.toNat = 45 ∧ ∃ h : j + 1 < s.size, isDi s[j + 1] = true) := by
          rcases hN with hN | ⟨h1, h2⟩
          · exact .inl hN
          · cases hx : isDi c with
            | true => exact .inl rfl
            | false =>
              refine .inr ⟨rfl, h1, ?_⟩
              by_cases h : j + 1 < s.size
              · rw [bs_cons h] at h2
                exact ⟨h, by simpa using h2⟩
              · rw [bs_nil h] at h2
                simp at h2
        have HN := Lib.hid hN
        clear hN hl5 hj1e
        rcases hN2 with hx | ⟨hx, h45, hjs, hdj⟩
        case' inl =>
          have hD1 := hF61 true hx
          go_upto_region 15 with first
            | (go_at_call 73; refine (hLe _).mono ?_; rintro e w6 ⟨rfl, rfl⟩)
            | (go_at_call 76; refine (hD1 _).mono ?_; rintro e w6 ⟨rfl, rfl⟩)
            | (go_at_call 74; refine hW.mono ?_; rintro e w8 ⟨rfl, hfw, j2, hjj, hj2, hdw, htw, hl8⟩)
        case' inr =>
          have hD1 := hF61 false hx
          have hD2 := digit_any s[j + 1]
          rw [hdj] at hD2
          have q45 : ((c.toNat : Int) == 45) = true := by rw [h45]; rfl
          clear h45
          have qjs : decide ((j : Int) + 1 < (s.size : Int)) = true := decide_eq_true (by omega)
          go_upto_region 15 with first
            | (go_at_call 73; refine (hLe _).mono ?_; rintro e w6 ⟨rfl, rfl⟩)
            | (go_at_call 76; with_reducible refine (hD1 _).mono ?_; rintro e w6 ⟨rfl, rfl⟩)
            | (go_at_call 76; refine (hD2 _).mono ?_; rintro e w6 ⟨rfl, rfl⟩)
            | (go_at_call 74; refine hW.mono ?_; rintro e w8 ⟨rfl, hfw, j2, hjj, hj2, hdw, htw, hl8⟩)
        all_goals
          obtain ⟨HT, hnum⟩ := tok_number hlt HC.out hA HN.out hjj hj2 hdw htw (m := m)
          have hbx8 := hbx5.fr hfw (by omega)
          have hr8 := hr5.fr hfw (by omega)
          have hf8 := hf5.same hfw
          have hE8 := hE5.fr hfw (Ne.symm hb3)
          have hz8 := hfw.size
          have hts := ext_list s j j2
          have hsz : (s.extract j j2).size ≤ 4000000 := by
            have h1 := congrArg List.length hts
            simp only [Array.length_toList, ByteArray.size_data, List.length_take, bs_len] at h1
            omega
          have hIR := inRange_any (s.extract j j2) hsz hnum
          obtain ⟨vb, hvb⟩ : ∃ vb, (intD (s.extract j j2).data.toList).isSome = vb := ⟨_, rfl⟩
          rw [hvb] at hIR HT
          clear c0 c1 f1 k0 kf hbx hr4 hl4 hfw hW hE4 hdw htw hz4 hbx5 hr5 hf5 hE5 hts hnum hvb hF61 hD1
          have m0 := Blk.c hl8 0 rfl
          have m1 := Blk.c hl8 1 rfl
          have c0 := fun d os => cell_regrown m0 d os
          have c1 := fun d os => cell_regrown m1 d os
          have hsub1 : decide (j2 ≤ s.size) = true := decide_eq_true (by omega)
          have hsub2 : decide (j ≤ j2) = true := decide_eq_true (by omega)
          have cI : ∀ d os, Calls Tryz.prog 77 #[.string (s.extract j j2)] (grow (redrawn w8 d) os) fun e w'' => e = .returned (.bool vb) ∧ ∃ p : Regrown, w'' = grow (redrawn w8 p.d) p.os := fun d os => Calls.regrown_of (hIR _ (hE8.belowAll (below_regrown w8 d os)))
          refine wp_region_quiet_below (by kernel_rfl) (by kernel_rfl) ?_
          repeat (go_big_quiet_step (exact cI _ _))
          refine wpQuiet_nil ?_
          intro _ hw'
          obtain ⟨⟨dq, osq⟩, hw''⟩ := hw'
          subst hw''
          have hb7 := below_regrown w8 dq osq
          have hbx7 := hbx8.belowAll hb7
          have hr7 := hr8.belowAll hb7
          have hl7 : LxB (grow (redrawn w8 dq) osq) b T s j2 m rest := Blk.belowAll hl8 hb7
          have hf7 : FrB b w (grow (redrawn w8 dq) osq) := hf8.same (Fr.belowAll hb7)
          have hz7 := hb7.size
          clear c0 c1 cI m0 m1 hbx8 hr8 hl8 hf8 hE8 hb7 hIR
          generalize grow (redrawn w8 dq) osq = w7 at *
          have k0 := hbx7.c 0 rfl
          have kf := hbx7.fz 0
          cases vb
          case' true =>
            rw [if_pos rfl] at HT
            have HTT := Lib.hid HT
            clear HT
            go_upto_region 20 with fail
            have hbx := hbx7.set 0 (.int .i64 3)
            have hl9 : LxB (w7.setCell ⟨tb, 0, none⟩ (.int .i64 3)) b T s j2 m rest := Blk.far hl7 (q := ⟨tb, 0, none⟩) (by dsimp only; omega) _
            have hr9 := hr7.far (q := ⟨tb, 0, none⟩) (by dsimp only; omega) (.int .i64 3)
            have hf9 : FrB b w (w7.setCell ⟨tb, 0, none⟩ (.int .i64 3)) := hf7.setNew (.inr (by dsimp only; omega)) _
            clear k0 kf hbx7 hl7 hr7 hf7
            generalize w7.setCell ⟨tb, 0, none⟩ (.int .i64 3) = w9 at *
            have b0 := hbx.c 0 rfl
            have b1 := hbx.c 1 rfl
            have bf := hbx.fz 1
            have c0 := hl9.c 0 rfl
            have c1 := hl9.c 1 rfl
            have hsub1 : decide (j2 ≤ s.size) = true := decide_eq_true (by omega)
            have hsub2 : decide (j ≤ j2) = true := decide_eq_true (by omega)
            go_region
            have hbx2 := (hbx.set 1 (.string (s.extract j j2))).drew
            have hl10 : LxB ((w9.setCell ⟨tb, 1, none⟩ (.string (s.extract j j2))).drew) b T s j2 m rest := (Blk.far hl9 (q := ⟨tb, 1, none⟩) (by dsimp only; omega) _).drew
            have hr10 := (hr9.far (q := ⟨tb, 1, none⟩) (by dsimp only; omega) (.string (s.extract j j2))).drew
            have hf10 : FrB b w ((w9.setCell ⟨tb, 1, none⟩ (.string (s.extract j j2))).drew) := (hf9.setNew (.inr (by dsimp only; omega)) _).same Fr.drew
            clear b0 b1 bf c0 c1 hbx hl9 hr9 hf9
            generalize (w9.setCell ⟨tb, 1, none⟩ (.string (s.extract j j2))).drew = w10 at *
            have b0 := hbx2.c 0 rfl
            have b1 := hbx2.c 1 rfl
            have b2 := hbx2.c 2 rfl
            have r0 := hr10.c 0 rfl
            have r1 := hr10.c 1 rfl
            have r2 := hr10.c 2 rfl
            have f0 := hr10.fz 0
            have f1 := hr10.fz 1
            have f2 := hr10.fz 2
            clear hbx2
            go_wp2_with fail
            have hr11 := ((hr10.set 0 (.int .i64 3)).set 1 (.string (s.extract j j2))).set 2 (.int .i64 (m : Nat))
            have hf11 : FrB b w (((w10.setCell ⟨rb, 0, none⟩ (.int .i64 3)).setCell ⟨rb, 1, none⟩ (.string (s.extract j j2))).setCell ⟨rb, 2, none⟩ (.int .i64 (m : Nat))) := ((hf10.setNew (.inr (by dsimp only; omega)) _).setNew (.inr (by dsimp only; omega)) _).setNew (.inr (by dsimp only; omega)) _
            have hl11 : LxB (((w10.setCell ⟨rb, 0, none⟩ (.int .i64 3)).setCell ⟨rb, 1, none⟩ (.string (s.extract j j2))).setCell ⟨rb, 2, none⟩ (.int .i64 (m : Nat))) b T s j2 m rest := ((Blk.far hl10 (q := ⟨rb, 0, none⟩) (by dsimp only; omega) _).far (q := ⟨rb, 1, none⟩) (by dsimp only; omega) _).far (q := ⟨rb, 2, none⟩) (by dsimp only; omega) _
            clear r0 r1 r2 f0 f1 f2 hr10 hl10 hf10
            generalize ((w10.setCell ⟨rb, 0, none⟩ (.int .i64 3)).setCell ⟨rb, 1, none⟩ (.string (s.extract j j2))).setCell ⟨rb, 2, none⟩ (.int .i64 (m : Nat)) = w11 at *
            have d0 := hr11.c 0 rfl
            have d1 := hr11.c 1 rfl
            have d2 := hr11.c 2 rfl
            refine bodyPost_ret (v := tkV 3 (s.extract j j2) m) (by simp [results, Tryz.results48, go_sem, d0, d1, d2, tkV]) rfl ?_
            exact TokE.of HSK hlt HC.out hij hmj hf11 (by omega) (by omega) hl11 HTT (by omega)
          case' false =>
            rw [if_neg (by simp)] at HT
            have HTT := Lib.hid HT
            clear HT
            go_upto_region 20 with fail
            have hbx := hbx7
            have hl9 := hl7
            have hr9 := hr7
            have hf9 := hf7
            clear k0 kf hbx7 hl7 hr7 hf7
            generalize w7 = w9 at *
            have b0 := hbx.c 0 rfl
            have b1 := hbx.c 1 rfl
            have bf := hbx.fz 1
            have c0 := hl9.c 0 rfl
            have c1 := hl9.c 1 rfl
            have hsub1 : decide (j2 ≤ s.size) = true := decide_eq_true (by omega)
            have hsub2 : decide (j ≤ j2) = true := decide_eq_true (by omega)
            go_region
            have hbx2 := (hbx.set 1 (.string (s.extract j j2))).drew
            have hl10 : LxB ((w9.setCell ⟨tb, 1, none⟩ (.string (s.extract j j2))).drew) b T s j2 m rest := (Blk.far hl9 (q := ⟨tb, 1, none⟩) (by dsimp only; omega) _).drew
            have hr10 := (hr9.far (q := ⟨tb, 1, none⟩) (by dsimp only; omega) (.string (s.extract j j2))).drew
            have hf10 : FrB b w ((w9.setCell ⟨tb, 1, none⟩ (.string (s.extract j j2))).drew) := (hf9.setNew (.inr (by dsimp only; omega)) _).same Fr.drew
            clear b0 b1 bf c0 c1 hbx hl9 hr9 hf9
            generalize (w9.setCell ⟨tb, 1, none⟩ (.string (s.extract j j2))).drew = w10 at *
            have b0 := hbx2.c 0 rfl
            have b1 := hbx2.c 1 rfl
            have b2 := hbx2.c 2 rfl
            have r0 := hr10.c 0 rfl
            have r1 := hr10.c 1 rfl
            have r2 := hr10.c 2 rfl
            have f0 := hr10.fz 0
            have f1 := hr10.fz 1
            have f2 := hr10.fz 2
            clear hbx2
            go_wp2_with fail
            have hr11 := ((hr10.set 0 (.int .i64 1)).set 1 (.string (s.extract j j2))).set 2 (.int .i64 (m : Nat))
            have hf11 : FrB b w (((w10.setCell ⟨rb, 0, none⟩ (.int .i64 1)).setCell ⟨rb, 1, none⟩ (.string (s.extract j j2))).setCell ⟨rb, 2, none⟩ (.int .i64 (m : Nat))) := ((hf10.setNew (.inr (by dsimp only; omega)) _).setNew (.inr (by dsimp only; omega)) _).setNew (.inr (by dsimp only; omega)) _
            have hl11 : LxB (((w10.setCell ⟨rb, 0, none⟩ (.int .i64 1)).setCell ⟨rb, 1, none⟩ (.string (s.extract j j2))).setCell ⟨rb, 2, none⟩ (.int .i64 (m : Nat))) b T s j2 m rest := ((Blk.far hl10 (q := ⟨rb, 0, none⟩) (by dsimp only; omega) _).far (q := ⟨rb, 1, none⟩) (by dsimp only; omega) _).far (q := ⟨rb, 2, none⟩) (by dsimp only; omega) _
            clear r0 r1 r2 f0 f1 f2 hr10 hl10 hf10
            generalize ((w10.setCell ⟨rb, 0, none⟩ (.int .i64 1)).setCell ⟨rb, 1, none⟩ (.string (s.extract j j2))).setCell ⟨rb, 2, none⟩ (.int .i64 (m : Nat)) = w11 at *
            have d0 := hr11.c 0 rfl
            have d1 := hr11.c 1 rfl
            have d2 := hr11.c 2 rfl
            refine bodyPost_ret (v := tkV 1 (s.extract j j2) m) (by simp [results, Tryz.results48, go_sem, d0, d1, d2, tkV]) rfl ?_
            exact TokE.of HSK hlt HC.out hij hmj hf11 (by omega) (by omega) hl11 HTT (by omega)
      case' neg =>
        have hx : isDi c = false := by
          rw [← Bool.not_eq_true]
          exact fun h => hN (.inl h)
        have hD1 := hF61 false hx
        have h45d : c.toNat = 45 → ∀ h : j + 1 < s.size, isDi s[j + 1] = false := fun h1 h => by
          rw [← Bool.not_eq_true]
          exact fun h2 => hN (.inr ⟨h1, by rw [bs_cons h]; simpa using h2⟩)
        have HT := fun (k : Nat) (hk : k = if c.toNat = 40 ∨ c.toNat = 41 ∨ c.toNat = 44 ∨ c.toNat = 61 then 4 else 1) => tok_one (m := m) hlt HC.out hA hN hk
        have HTK := Lib.hid HT
        have hq : ∀ z : Int, (c.toNat : Int) = z → ((c.toNat : Int) == z) = true := fun z h => by rw [h]; simp
        have hqn : ∀ z : Int, ¬ (c.toNat : Int) = z → ((c.toNat : Int) == z) = false := fun z h => by simp; omega
        have H45D := Lib.hid h45d
        clear hN HT hF61 h45d hE4
        by_cases h45 : c.toNat = 45
        case' pos =>
          have q45 := hq 45 (by omega)
          have q40 := hqn 40 (by omega)
          have q41 := hqn 41 (by omega)
          have q44 := hqn 44 (by omega)
          have q61 := hqn 61 (by omega)
          have HTT := Lib.hid (HTK.out 1 (by rw [if_neg (by omega)]))
          have HD2 := Lib.hid (H45D.out h45)
          clear h45 hq hqn
          rcases Nat.lt_or_ge (j + 1) s.size with hjs | hjs
          case' inl =>
            have qjs : decide ((j : Int) + 1 < (s.size : Int)) = true := decide_eq_true (by omega)
            have hD2 := digit_any s[j + 1]
            rw [HD2.out hjs] at hD2
            go_upto_region 20 with first
              | (go_at_call 73; refine (hLe _).mono ?_; rintro e w6 ⟨rfl, rfl⟩)
              | (go_at_call 76; with_reducible refine (hD1 _).mono ?_; rintro e w6 ⟨rfl, rfl⟩)
              | (go_at_call 76; refine (hD2 _).mono ?_; rintro e w6 ⟨rfl, rfl⟩)
          case' inr =>
            have qjs : decide ((j : Int) + 1 < (s.size : Int)) = false := decide_eq_false (by omega)
            go_upto_region 20 with first
              | (go_at_call 73; refine (hLe _).mono ?_; rintro e w6 ⟨rfl, rfl⟩)
              | (go_at_call 76; with_reducible refine (hD1 _).mono ?_; rintro e w6 ⟨rfl, rfl⟩)
        case' neg =>
          have q45 := hqn 45 (by omega)
          by_cases hm : c.toNat = 40 ∨ c.toNat = 41 ∨ c.toNat = 44 ∨ c.toNat = 61
          case' neg =>
            have q40 := hqn 40 (by omega)
            have q41 := hqn 41 (by omega)
            have q44 := hqn 44 (by omega)
            have q61 := hqn 61 (by omega)
            have HTT := Lib.hid (HTK.out 1 (by rw [if_neg hm]))
            clear h45 hq hqn hm
            go_upto_region 20 with first
              | (go_at_call 73; refine (hLe _).mono ?_; rintro e w6 ⟨rfl, rfl⟩)
              | (go_at_call 76; with_reducible refine (hD1 _).mono ?_; rintro e w6 ⟨rfl, rfl⟩)
          case' pos =>
            have HTT := Lib.hid (HTK.out 4 (by rw [if_pos hm]))
            rcases hm with hm | hm | hm | hm
            case' inl =>
              have q40 := hq 40 (by omega)
              clear h45 hq hqn hm
            case' inr.inl =>
              have q40 := hqn 40 (by omega)
              have q41 := hq 41 (by omega)
              clear h45 hq hqn hm
            case' inr.inr.inl =>
              have q40 := hqn 40 (by omega)
              have q41 := hqn 41 (by omega)
              have q44 := hq 44 (by omega)
              clear h45 hq hqn hm
            case' inr.inr.inr =>
              have q40 := hqn 40 (by omega)
              have q41 := hqn 41 (by omega)
              have q44 := hqn 44 (by omega)
              have q61 := hq 61 (by omega)
              clear h45 hq hqn hm
            all_goals
              go_upto_region 20 with first
                | (go_at_call 73; refine (hLe _).mono ?_; rintro e w6 ⟨rfl, rfl⟩)
                | (go_at_call 76; with_reducible refine (hD1 _).mono ?_; rintro e w6 ⟨rfl, rfl⟩)
              obtain ⟨j2, hj2e⟩ : ∃ j2, j2 = j + 1 := ⟨_, rfl⟩
              have hjI : (j : Int) + 1 = (j2 : Int) := by omega
              have HTU : Hid (tokD c (bs s (j + 1)) m = (⟨4, (s.extract j j2).data.toList, m⟩, bs s j2)) := by rw [hj2e]; exact HTT
              have hwe : w4.setCell ⟨b, 1, none⟩ (.int .i64 ((j : Int) + 1)) = w4.setCell ⟨b, 1, none⟩ (.int .i64 (j2 : Nat)) := by rw [hjI]
              rw [hwe]
              have hjj : j ≤ j2 := by omega
              have hj2 : j2 ≤ s.size := by omega
              have hl5 : LxB (w4.setCell ⟨b, 1, none⟩ (.int .i64 (j2 : Nat))) b T s j2 m rest := LxB.set1 hl4 j2
              have hbx5 := hbx.far (q := ⟨b, 1, none⟩) (by dsimp only; omega) (.int .i64 (j2 : Nat))
              have hr5 := hr4.far (q := ⟨b, 1, none⟩) (by dsimp only; omega) (.int .i64 (j2 : Nat))
              have hf5 := hf4.set 1 (.int .i64 (j2 : Nat))
              clear c0 c1 f1 k0 kf hbx hl4 hr4 hf4 HTT hjI hj2e hwe HTK H45D
              have hbx := hbx5.set 0 (.int .i64 4)
              have hl9 : LxB ((w4.setCell ⟨b, 1, none⟩ (.int .i64 (j2 : Nat))).setCell ⟨tb, 0, none⟩ (.int .i64 4)) b T s j2 m rest := Blk.far hl5 (q := ⟨tb, 0, none⟩) (by dsimp only; omega) _
              have hr9 := hr5.far (q := ⟨tb, 0, none⟩) (by dsimp only; omega) (.int .i64 4)
              have hf9 : FrB b w ((w4.setCell ⟨b, 1, none⟩ (.int .i64 (j2 : Nat))).setCell ⟨tb, 0, none⟩ (.int .i64 4)) := hf5.setNew (.inr (by dsimp only; omega)) _
              clear hbx5 hl5 hr5 hf5
              generalize (w4.setCell ⟨b, 1, none⟩ (.int .i64 (j2 : Nat))).setCell ⟨tb, 0, none⟩ (.int .i64 4) = w9 at *
              have b0 := hbx.c 0 rfl
              have b1 := hbx.c 1 rfl
              have bf := hbx.fz 1
              have c0 := hl9.c 0 rfl
              have c1 := hl9.c 1 rfl
              have hsub1 : decide (j2 ≤ s.size) = true := decide_eq_true (by omega)
              have hsub2 : decide (j ≤ j2) = true := decide_eq_true (by omega)
              go_region
              have hbx2 := (hbx.set 1 (.string (s.extract j j2))).drew
              have hl10 : LxB ((w9.setCell ⟨tb, 1, none⟩ (.string (s.extract j j2))).drew) b T s j2 m rest := (Blk.far hl9 (q := ⟨tb, 1, none⟩) (by dsimp only; omega) _).drew
              have hr10 := (hr9.far (q := ⟨tb, 1, none⟩) (by dsimp only; omega) (.string (s.extract j j2))).drew
              have hf10 : FrB b w ((w9.setCell ⟨tb, 1, none⟩ (.string (s.extract j j2))).drew) := (hf9.setNew (.inr (by dsimp only; omega)) _).same Fr.drew
              clear b0 b1 bf c0 c1 hbx hl9 hr9 hf9
              generalize (w9.setCell ⟨tb, 1, none⟩ (.string (s.extract j j2))).drew = w10 at *
              have b0 := hbx2.c 0 rfl
              have b1 := hbx2.c 1 rfl
              have b2 := hbx2.c 2 rfl
              have r0 := hr10.c 0 rfl
              have r1 := hr10.c 1 rfl
              have r2 := hr10.c 2 rfl
              have f0 := hr10.fz 0
              have f1 := hr10.fz 1
              have f2 := hr10.fz 2
              clear hbx2
              go_wp2_with fail
              have hr11 := ((hr10.set 0 (.int .i64 4)).set 1 (.string (s.extract j j2))).set 2 (.int .i64 (m : Nat))
              have hf11 : FrB b w (((w10.setCell ⟨rb, 0, none⟩ (.int .i64 4)).setCell ⟨rb, 1, none⟩ (.string (s.extract j j2))).setCell ⟨rb, 2, none⟩ (.int .i64 (m : Nat))) := ((hf10.setNew (.inr (by dsimp only; omega)) _).setNew (.inr (by dsimp only; omega)) _).setNew (.inr (by dsimp only; omega)) _
              have hl11 : LxB (((w10.setCell ⟨rb, 0, none⟩ (.int .i64 4)).setCell ⟨rb, 1, none⟩ (.string (s.extract j j2))).setCell ⟨rb, 2, none⟩ (.int .i64 (m : Nat))) b T s j2 m rest := ((Blk.far hl10 (q := ⟨rb, 0, none⟩) (by dsimp only; omega) _).far (q := ⟨rb, 1, none⟩) (by dsimp only; omega) _).far (q := ⟨rb, 2, none⟩) (by dsimp only; omega) _
              clear r0 r1 r2 f0 f1 f2 hr10 hl10 hf10
              generalize ((w10.setCell ⟨rb, 0, none⟩ (.int .i64 4)).setCell ⟨rb, 1, none⟩ (.string (s.extract j j2))).setCell ⟨rb, 2, none⟩ (.int .i64 (m : Nat)) = w11 at *
              have d0 := hr11.c 0 rfl
              have d1 := hr11.c 1 rfl
              have d2 := hr11.c 2 rfl
              refine bodyPost_ret (v := tkV 4 (s.extract j j2) m) (by simp [results, Tryz.results48, go_sem, d0, d1, d2, tkV]) rfl ?_
              exact TokE.of HSK hlt HC.out hij hmj hf11 (by omega) (by omega) hl11 HTU (by omega)
        all_goals
          obtain ⟨j2, hj2e⟩ : ∃ j2, j2 = j + 1 := ⟨_, rfl⟩
          have hjI : (j : Int) + 1 = (j2 : Int) := by omega
          have HTU : Hid (tokD c (bs s (j + 1)) m = (⟨1, (s.extract j j2).data.toList, m⟩, bs s j2)) := by rw [hj2e]; exact HTT
          have hwe : w4.setCell ⟨b, 1, none⟩ (.int .i64 ((j : Int) + 1)) = w4.setCell ⟨b, 1, none⟩ (.int .i64 (j2 : Nat)) := by rw [hjI]
          rw [hwe]
          have hjj : j ≤ j2 := by omega
          have hj2 : j2 ≤ s.size := by omega
          have hl5 : LxB (w4.setCell ⟨b, 1, none⟩ (.int .i64 (j2 : Nat))) b T s j2 m rest := LxB.set1 hl4 j2
          have hbx5 := hbx.far (q := ⟨b, 1, none⟩) (by dsimp only; omega) (.int .i64 (j2 : Nat))
          have hr5 := hr4.far (q := ⟨b, 1, none⟩) (by dsimp only; omega) (.int .i64 (j2 : Nat))
          have hf5 := hf4.set 1 (.int .i64 (j2 : Nat))
          clear c0 c1 f1 k0 kf hbx hl4 hr4 hf4 HTT hjI hj2e hwe HTK H45D
          have hbx := hbx5
          have hl9 := hl5
          have hr9 := hr5
          have hf9 := hf5
          clear hbx5 hl5 hr5 hf5
          generalize w4.setCell ⟨b, 1, none⟩ (.int .i64 (j2 : Nat)) = w9 at *
          have b0 := hbx.c 0 rfl
          have b1 := hbx.c 1 rfl
          have bf := hbx.fz 1
          have c0 := hl9.c 0 rfl
          have c1 := hl9.c 1 rfl
          have hsub1 : decide (j2 ≤ s.size) = true := decide_eq_true (by omega)
          have hsub2 : decide (j ≤ j2) = true := decide_eq_true (by omega)
          go_region
          have hbx2 := (hbx.set 1 (.string (s.extract j j2))).drew
          have hl10 : LxB ((w9.setCell ⟨tb, 1, none⟩ (.string (s.extract j j2))).drew) b T s j2 m rest := (Blk.far hl9 (q := ⟨tb, 1, none⟩) (by dsimp only; omega) _).drew
          have hr10 := (hr9.far (q := ⟨tb, 1, none⟩) (by dsimp only; omega) (.string (s.extract j j2))).drew
          have hf10 : FrB b w ((w9.setCell ⟨tb, 1, none⟩ (.string (s.extract j j2))).drew) := (hf9.setNew (.inr (by dsimp only; omega)) _).same Fr.drew
          clear b0 b1 bf c0 c1 hbx hl9 hr9 hf9
          generalize (w9.setCell ⟨tb, 1, none⟩ (.string (s.extract j j2))).drew = w10 at *
          have b0 := hbx2.c 0 rfl
          have b1 := hbx2.c 1 rfl
          have b2 := hbx2.c 2 rfl
          have r0 := hr10.c 0 rfl
          have r1 := hr10.c 1 rfl
          have r2 := hr10.c 2 rfl
          have f0 := hr10.fz 0
          have f1 := hr10.fz 1
          have f2 := hr10.fz 2
          clear hbx2
          go_wp2_with fail
          have hr11 := ((hr10.set 0 (.int .i64 1)).set 1 (.string (s.extract j j2))).set 2 (.int .i64 (m : Nat))
          have hf11 : FrB b w (((w10.setCell ⟨rb, 0, none⟩ (.int .i64 1)).setCell ⟨rb, 1, none⟩ (.string (s.extract j j2))).setCell ⟨rb, 2, none⟩ (.int .i64 (m : Nat))) := ((hf10.setNew (.inr (by dsimp only; omega)) _).setNew (.inr (by dsimp only; omega)) _).setNew (.inr (by dsimp only; omega)) _
          have hl11 : LxB (((w10.setCell ⟨rb, 0, none⟩ (.int .i64 1)).setCell ⟨rb, 1, none⟩ (.string (s.extract j j2))).setCell ⟨rb, 2, none⟩ (.int .i64 (m : Nat))) b T s j2 m rest := ((Blk.far hl10 (q := ⟨rb, 0, none⟩) (by dsimp only; omega) _).far (q := ⟨rb, 1, none⟩) (by dsimp only; omega) _).far (q := ⟨rb, 2, none⟩) (by dsimp only; omega) _
          clear r0 r1 r2 f0 f1 f2 hr10 hl10 hf10
          generalize ((w10.setCell ⟨rb, 0, none⟩ (.int .i64 1)).setCell ⟨rb, 1, none⟩ (.string (s.extract j j2))).setCell ⟨rb, 2, none⟩ (.int .i64 (m : Nat)) = w11 at *
          have d0 := hr11.c 0 rfl
          have d1 := hr11.c 1 rfl
          have d2 := hr11.c 2 rfl
          refine bodyPost_ret (v := tkV 1 (s.extract j j2) m) (by simp [results, Tryz.results48, go_sem, d0, d1, d2, tkV]) rfl ?_
          exact TokE.of HSK hlt HC.out hij hmj hf11 (by omega) (by omega) hl11 HTU (by omega)
end Go.Proofs.YtjendlnicbieoaaGreatDoor
