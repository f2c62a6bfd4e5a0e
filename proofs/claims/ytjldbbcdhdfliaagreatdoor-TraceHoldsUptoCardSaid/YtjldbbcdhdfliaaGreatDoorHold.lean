/-
  A reading is decided by the bytes up to its place: two texts that begin alike are read alike as far as that. Plain.
-/
import Derived.Test.YtjldbbcdhdfliaaGreatDoorRrA
import Derived.Test.YtjldbbcdhdfliaaGreatDoorWNd
namespace Go.Proofs.YtjldbbcdhdfliaaGreatDoor
open Go.RowKit

/-- The first k bytes are the same (both texts may end ahead of that). -/
def Alike (s s' : ByteArray) (k : Nat) : Prop := s.data.toList.take k = s'.data.toList.take k
theorem Alike.symm {s s' : ByteArray} {k : Nat} (h : Alike s s' k) : Alike s' s k := Eq.symm h
theorem bt_get (s : ByteArray) (i : Nat) : bt s i = match s.data.toList[i]? with
    | some c => (c.toNat : Int)
    | none => -1 := by
  unfold bt
  split
  · rename_i h
    have : s.data.toList[i]? = some s[i] := by rw [List.getElem?_eq_getElem (by simpa using h)]; rfl
    rw [this]
  · rename_i h
    have : s.data.toList[i]? = none := List.getElem?_eq_none (by simp; omega)
    rw [this]
theorem Alike.bt {s s' : ByteArray} {k x : Nat} (h : Alike s s' k) (hx : x < k) : bt s x = bt s' x := by
  have h1 := congrArg (fun l => l[x]?) h
  simp only [List.getElem?_take, if_pos hx] at h1
  rw [bt_get, bt_get, h1]
theorem Alike.isB {s s' : ByteArray} {k x : Nat} {c : Int} (h : Alike s s' k) (hx : x < k) : isB s x c = isB s' x c := by
  unfold Go.Proofs.YtjldbbcdhdfliaaGreatDoor.isB
  rw [h.bt hx]
theorem Alike.dig {s s' : ByteArray} {k x : Nat} (h : Alike s s' k) (hx : x < k) : dig s x = dig s' x := by
  unfold Go.Proofs.YtjldbbcdhdfliaaGreatDoor.dig
  rw [h.bt hx]
theorem Alike.sub {s s' : ByteArray} {k st n : Nat} (h : Alike s s' k) (hx : st + n ≤ k) : (s.extract st (st + n)).toList = (s'.extract st (st + n)).toList := by
  rw [toList_extract, toList_extract]
  have h1 : ∀ l : List UInt8, (l.drop st).take (st + n - st) = ((l.take k).drop st).take (st + n - st) := by
    intro l
    rw [List.drop_take, List.take_take, Nat.min_eq_left (by omega)]
  rw [h1, h1 s'.data.toList, h]
/-- Where a reading ended. -/
def pl2 {α : Type} (r : Except Nat (α × Nat)) : Nat := match r with
  | .error j => j
  | .ok (_, j) => j
theorem numGo_ge (s : ByteArray) (most : Nat) : ∀ (f j m : Nat), j ≤ pl2 (numGo s most f j m)
  | 0, j, m => Nat.le_refl _
  | f + 1, j, m => by
    rw [numGo]
    split
    · dsimp only
      split
      · exact Nat.le_refl _
      · split
        · show j ≤ j + 1; omega
        · have := numGo_ge s most f (j + 1) (m * 10 + (bt s j - 48).toNat); omega
    · exact Nat.le_refl _
theorem numGo_loc {s s' : ByteArray} {k most : Nat} (h : Alike s s' k) : ∀ (d j m : Nat), s.size - j = d → 0 < m → pl2 (numGo s most (s.size - j) j m) < k → numGo s' most (s'.size - j) j m = numGo s most (s.size - j) j m := by
  intro d
  induction d with
  | zero =>
    intro j m hd hm hk
    have hs : dig s j = false := by
      cases hx : dig s j
      · rfl
      · have := dig_lt hx; omega
    rw [numGo_stop hs] at hk ⊢
    exact numGo_stop ((h.dig hk).symm.trans hs)
  | succ d ih =>
    intro j m hd hm hk
    cases hx : dig s j with
    | false =>
      rw [numGo_stop hx] at hk ⊢
      exact numGo_stop ((h.dig hk).symm.trans hx)
    | true =>
      have hge := numGo_ge s most (s.size - j) j m
      have hb := h.bt (x := j) (by omega)
      have hx' : dig s' j = true := (h.dig (by omega)).symm.trans hx
      rw [numGo_step hx hm] at hk ⊢
      rw [numGo_step hx' hm, ← hb]
      split
      · rfl
      · rename_i hc
        rw [if_neg hc] at hk
        exact ih (j + 1) _ (by omega) (by omega) hk
theorem num_loc {s s' : ByteArray} {k most i : Nat} (h : Alike s s' k) (hk : pl2 (num s most i) < k) : num s' most i = num s most i := by
  cases hx : dig s i with
  | false =>
    have e : num s most i = .error i := by unfold num; rw [hx]; rfl
    rw [e] at hk ⊢
    have hx' : dig s' i = false := (h.dig hk).symm.trans hx
    unfold num
    rw [hx']
    rfl
  | true =>
    have hi : i < k := by
      rw [num_first hx] at hk
      split at hk
      · have : i + 1 < k := hk; omega
      · have := numGo_ge s most (s.size - (i + 1)) (i + 1) (bt s i - 48).toNat; omega
    have hx' : dig s' i = true := (h.dig hi).symm.trans hx
    rw [num_first hx] at hk ⊢
    rw [num_first hx', ← h.bt hi]
    split
    · rfl
    · rename_i hc
      rw [if_neg hc] at hk
      exact numGo_loc h _ (i + 1) _ rfl (by omega) hk
theorem cand_loc {s s' : ByteArray} {k st n j : Nat} {m : Int → Bool} (h : Alike s s' k) (hk : st + n < k) : cand s' st n m j = cand s st n m j := by
  unfold cand
  rw [h.sub (by omega), h.isB hk]
theorem findC_loc {s s' : ByteArray} {k st n : Nat} {m : Int → Bool} (h : Alike s s' k) (hk : st + n < k) : ∀ f j, findC s' st n m f j = findC s st n m f j
  | 0, _ => rfl
  | f + 1, j => by rw [findC, findC, cand_loc h hk, findC_loc h hk f (j + 1)]
theorem wordGo_ge (s : ByteArray) (st : Nat) (m : Int → Bool) : ∀ (f n : Nat), st + n ≤ pl2 (wordGo s st m f n)
  | 0, n => Nat.le_refl _
  | f + 1, n => by
    rw [wordGo]
    split
    · exact Nat.le_refl _
    · split
      · show st + n ≤ st + n + 1; omega
      · have := wordGo_ge s st m f (n + 1); omega
theorem wordGo_loc {s s' : ByteArray} {k st : Nat} {m : Int → Bool} (h : Alike s s' k) : ∀ (f n : Nat), pl2 (wordGo s st m f n) < k → wordGo s' st m f n = wordGo s st m f n
  | 0, n, _ => rfl
  | f + 1, n, hk => by
    have hge := wordGo_ge s st m (f + 1) n
    have hlt : st + n < k := by omega
    rw [wordGo] at hk ⊢
    rw [wordGo, findC_loc h hlt]
    cases hc : findC s st n m 14 0 with
    | none => rfl
    | some j =>
      rw [hc] at hk
      dsimp only at hk ⊢
      split
      · rfl
      · rename_i hn
        rw [if_neg hn] at hk
        exact wordGo_loc h f (n + 1) hk
theorem word_loc {s s' : ByteArray} {k st : Nat} {m : Int → Bool} (h : Alike s s' k) (hk : pl2 (word s st m) < k) : word s' st m = word s st m := wordGo_loc h 7 0 hk
end Go.Proofs.YtjldbbcdhdfliaaGreatDoor
/-
  A value's reading is decided by the bytes up to its place. Plain.
-/
namespace Go.Proofs.YtjldbbcdhdfliaaGreatDoor
open Go.RowKit

def pl3 {α : Type} (r : Except Nat (α × Nat × Nat)) : Nat := match r with
  | .error j => j
  | .ok (_, j, _) => j
def pl4 {α β : Type} (r : Except Nat (α × β × Nat × Nat)) : Nat := match r with
  | .error j => j
  | .ok (_, _, j, _) => j
theorem pl4_withN (n : Int) (r : Except Nat (List VT × Nat × Nat)) : pl4 (withN n r) = pl3 r := by
  cases r with
  | error j => rfl
  | ok x => rfl
/-- Reading goes on; and two readers do alike where the place lies ahead of k. -/
structure Two (k : Nat) (rec rec' : Rec) : Prop where
  ge : ∀ m i p, i ≤ pl3 (rec m i p)
  loc : ∀ m i p, pl3 (rec m i p) < k → rec' m i p = rec m i p
section
variable {s s' : ByteArray} {k : Nat} {rec rec' : Rec} (ha : Alike s s' k) (h : Two k rec rec')
include h
theorem pOne_ge (m : Int → Bool) (l : List VT) (i p : Nat) : i ≤ pl3 (pOne rec m l i p) := by
  have := h.ge m i p
  unfold pOne
  cases hx : rec m i p with
  | error j => rw [hx] at this; exact this
  | ok x => rw [hx] at this; exact this
theorem pOne_loc (m : Int → Bool) (l : List VT) (i p : Nat) (hk : pl3 (pOne rec m l i p) < k) : pOne rec' m l i p = pOne rec m l i p := by
  have h1 : pl3 (rec m i p) < k := by
    unfold pOne at hk
    cases hx : rec m i p with
    | error j => rw [hx] at hk; exact hk
    | ok x => rw [hx] at hk; exact hk
  unfold pOne
  rw [h.loc m i p h1]
theorem pMore_ge (s : ByteArray) (m : Int → Bool) : ∀ (c : Nat) (l : List VT) (i p : Nat), i ≤ pl3 (pMore s rec m c l i p)
  | 0, _, _, _ => Nat.le_refl _
  | c + 1, l, i, p => by
    rw [pMore]
    split
    · have h1 := pOne_ge h m l (i + 1) p
      cases hx : pOne rec m l (i + 1) p with
      | error j => rw [hx] at h1; show i ≤ j; have : i + 1 ≤ j := h1; omega
      | ok x =>
        obtain ⟨l2, i2, p2⟩ := x
        rw [hx] at h1
        have h2 := pMore_ge s m c l2 i2 p2
        have : i + 1 ≤ i2 := h1
        show i ≤ pl3 (pMore s rec m c l2 i2 p2)
        omega
    · exact Nat.le_refl _
include ha in
theorem pMore_loc (m : Int → Bool) : ∀ (c : Nat) (l : List VT) (i p : Nat), pl3 (pMore s rec m c l i p) < k → pMore s' rec' m c l i p = pMore s rec m c l i p
  | 0, _, _, _, _ => rfl
  | c + 1, l, i, p, hk => by
    have hge := pMore_ge h s m (c + 1) l i p
    have hlt : i < k := by omega
    rw [pMore] at hk ⊢
    rw [pMore, ← ha.isB hlt]
    cases hb : isB s i 44 with
    | false => rfl
    | true =>
      rw [hb, if_pos rfl] at hk
      rw [if_pos rfl, if_pos rfl]
      have h1 : pl3 (pOne rec m l (i + 1) p) < k := by
        cases hx : pOne rec m l (i + 1) p with
        | error j => rw [hx] at hk; exact hk
        | ok x =>
          obtain ⟨l2, i2, p2⟩ := x
          rw [hx] at hk
          have := pMore_ge h s m c l2 i2 p2
          have hk2 : pl3 (pMore s rec m c l2 i2 p2) < k := hk
          show i2 < k
          omega
      rw [pOne_loc h m l (i + 1) p h1]
      cases hx : pOne rec m l (i + 1) p with
      | error j => rfl
      | ok x =>
        obtain ⟨l2, i2, p2⟩ := x
        rw [hx] at hk
        exact pMore_loc m c l2 i2 p2 hk
theorem pTwo_ge (s : ByteArray) (m m' : Int → Bool) (i p : Nat) : i ≤ pl3 (pTwo s rec m m' i p) := by
  have h1 := pOne_ge h m [] i p
  unfold pTwo
  cases hx : pOne rec m [] i p with
  | error j => rw [hx] at h1; exact h1
  | ok x =>
    obtain ⟨l2, i2, p2⟩ := x
    rw [hx] at h1
    have h2 : i ≤ i2 := h1
    dsimp only
    split
    · have := pOne_ge h m' l2 (i2 + 1) p2; omega
    · exact h2
include ha in
theorem pTwo_loc (m m' : Int → Bool) (i p : Nat) (hk : pl3 (pTwo s rec m m' i p) < k) : pTwo s' rec' m m' i p = pTwo s rec m m' i p := by
  have h1 : pl3 (pOne rec m [] i p) < k := by
    unfold pTwo at hk
    cases hx : pOne rec m [] i p with
    | error j => rw [hx] at hk; exact hk
    | ok x =>
      obtain ⟨l2, i2, p2⟩ := x
      rw [hx] at hk
      dsimp only at hk
      show i2 < k
      split at hk
      · have := pOne_ge h m' l2 (i2 + 1) p2; omega
      · exact hk
  unfold pTwo at hk ⊢
  rw [pOne_loc h m [] i p h1]
  cases hx : pOne rec m [] i p with
  | error j => rfl
  | ok x =>
    obtain ⟨l2, i2, p2⟩ := x
    rw [hx] at hk h1
    dsimp only at hk ⊢
    have h2 : i2 < k := h1
    rw [← ha.isB h2]
    split
    · rename_i hb
      rw [if_pos hb] at hk
      exact pOne_loc h m' l2 (i2 + 1) p2 hk
    · rfl
end
theorem num_ge (s : ByteArray) (most i : Nat) : i ≤ pl2 (num s most i) := by
  unfold num
  split
  · exact numGo_ge s most _ i 0
  · exact Nat.le_refl _
theorem pNum_ge (s : ByteArray) (most i : Nat) (rest : Nat → Except Nat (List VT × Nat × Nat)) (hr : ∀ i', i' ≤ pl3 (rest i')) : i ≤ pl4 (pNum s most i rest) := by
  have h1 := num_ge s most i
  unfold pNum
  cases hx : num s most i with
  | error j => rw [hx] at h1; exact h1
  | ok x =>
    obtain ⟨n, i'⟩ := x
    rw [hx] at h1
    have h2 : i ≤ i' := h1
    have h3 := hr i'
    show i ≤ pl4 (withN n (rest i'))
    rw [pl4_withN]
    omega
theorem pNum_loc {s s' : ByteArray} {k : Nat} (ha : Alike s s' k) (most i : Nat) (rest rest' : Nat → Except Nat (List VT × Nat × Nat)) (hr : ∀ i', i' ≤ pl3 (rest i')) (hl : ∀ i', pl3 (rest i') < k → rest' i' = rest i') (hk : pl4 (pNum s most i rest) < k) : pNum s' most i rest' = pNum s most i rest := by
  have h1 : pl2 (num s most i) < k := by
    unfold pNum at hk
    cases hx : num s most i with
    | error j => rw [hx] at hk; exact hk
    | ok x =>
      obtain ⟨n, i'⟩ := x
      rw [hx] at hk
      have hk2 : pl4 (withN n (rest i')) < k := hk
      rw [pl4_withN] at hk2
      have := hr i'
      show i' < k
      omega
  unfold pNum at hk ⊢
  rw [num_loc ha h1]
  cases hx : num s most i with
  | error j => rfl
  | ok x =>
    obtain ⟨n, i'⟩ := x
    rw [hx] at hk
    have hk2 : pl4 (withN n (rest i')) < k := hk
    rw [pl4_withN] at hk2
    dsimp only
    rw [hl i' hk2]
section
variable {s s' : ByteArray} {k : Nat} {rec rec' : Rec} (ha : Alike s s' k) (h : Two k rec rec')
include h
/-- wrap's values. -/
def wrapR (s : ByteArray) (rec : Rec) (p : Nat) (i' : Nat) : Except Nat (List VT × Nat × Nat) :=
  if isB s i' 44 then
    match pOne rec mEv [] (i' + 1) p with
    | .error j => .error j
    | .ok (l, i2, p') => pMore s rec mAny 8 l i2 p'
  else .error i'
theorem wrapR_ge (s : ByteArray) (p i' : Nat) : i' ≤ pl3 (wrapR s rec p i') := by
  unfold wrapR
  split
  · have h1 := pOne_ge h mEv [] (i' + 1) p
    cases hx : pOne rec mEv [] (i' + 1) p with
    | error j => rw [hx] at h1; show i' ≤ j; have : i' + 1 ≤ j := h1; omega
    | ok x =>
      obtain ⟨l2, i2, p2⟩ := x
      rw [hx] at h1
      have h2 : i' + 1 ≤ i2 := h1
      have h3 := pMore_ge h s mAny 8 l2 i2 p2
      show i' ≤ pl3 (pMore s rec mAny 8 l2 i2 p2)
      omega
  · exact Nat.le_refl _
include ha in
theorem wrapR_loc (p i' : Nat) (hk : pl3 (wrapR s rec p i') < k) : wrapR s' rec' p i' = wrapR s rec p i' := by
  have hge := wrapR_ge h s p i'
  unfold wrapR at hk hge ⊢
  rw [← ha.isB (by omega)]
  cases hb : isB s i' 44 with
  | false => rfl
  | true =>
    rw [hb, if_pos rfl] at hk
    rw [if_pos rfl, if_pos rfl]
    have h1 : pl3 (pOne rec mEv [] (i' + 1) p) < k := by
      cases hx : pOne rec mEv [] (i' + 1) p with
      | error j => rw [hx] at hk; exact hk
      | ok x =>
        obtain ⟨l2, i2, p2⟩ := x
        rw [hx] at hk
        have := pMore_ge h s mAny 8 l2 i2 p2
        have hk2 : pl3 (pMore s rec mAny 8 l2 i2 p2) < k := hk
        show i2 < k
        omega
    rw [pOne_loc h mEv [] (i' + 1) p h1]
    cases hx : pOne rec mEv [] (i' + 1) p with
    | error j => rfl
    | ok x =>
      obtain ⟨l2, i2, p2⟩ := x
      rw [hx] at hk
      exact pMore_loc ha h mAny 8 l2 i2 p2 hk
/-- choose's values. -/
def chooseR (s : ByteArray) (rec : Rec) (i p : Nat) : Except Nat (Int × List VT × Nat × Nat) := if isB s i 41 then .ok (0, [], i, p) else
    match pOne rec mEv [] i p with
    | .error j => .error j
    | .ok (l, i', p') => withN 0 (pMore s rec mEv 15 l i' p')
theorem chooseR_ge (s : ByteArray) (i p : Nat) : i ≤ pl4 (chooseR s rec i p) := by
  unfold chooseR
  split
  · exact Nat.le_refl _
  · have h1 := pOne_ge h mEv [] i p
    cases hx : pOne rec mEv [] i p with
    | error j => rw [hx] at h1; exact h1
    | ok x =>
      obtain ⟨l2, i2, p2⟩ := x
      rw [hx] at h1
      have h2 : i ≤ i2 := h1
      have h3 := pMore_ge h s mEv 15 l2 i2 p2
      show i ≤ pl4 (withN 0 (pMore s rec mEv 15 l2 i2 p2))
      rw [pl4_withN]
      omega
include ha in
theorem chooseR_loc (i p : Nat) (hk : pl4 (chooseR s rec i p) < k) : chooseR s' rec' i p = chooseR s rec i p := by
  have hge := chooseR_ge h s i p
  unfold chooseR at hk hge ⊢
  rw [← ha.isB (by omega)]
  cases hb : isB s i 41 with
  | true => rfl
  | false =>
    rw [hb, if_neg (by simp)] at hk
    rw [if_neg (by simp), if_neg (by simp)]
    have h1 : pl3 (pOne rec mEv [] i p) < k := by
      cases hx : pOne rec mEv [] i p with
      | error j => rw [hx] at hk; exact hk
      | ok x =>
        obtain ⟨l2, i2, p2⟩ := x
        rw [hx] at hk
        have := pMore_ge h s mEv 15 l2 i2 p2
        have hk2 : pl4 (withN 0 (pMore s rec mEv 15 l2 i2 p2)) < k := hk
        rw [pl4_withN] at hk2
        show i2 < k
        omega
    rw [pOne_loc h mEv [] i p h1]
    cases hx : pOne rec mEv [] i p with
    | error j => rfl
    | ok x =>
      obtain ⟨l2, i2, p2⟩ := x
      rw [hx] at hk
      have hk2 : pl4 (withN 0 (pMore s rec mEv 15 l2 i2 p2)) < k := hk
      rw [pl4_withN] at hk2
      dsimp only
      rw [pMore_loc ha h mEv 15 l2 i2 p2 hk2]
theorem pList_ge (s : ByteArray) (kd i p : Nat) : i ≤ pl4 (pList s rec kd i p) := by
  unfold pList
  split
  · rw [pl4_withN]; exact pTwo_ge h s _ _ i p
  · exact pNum_ge s _ i _ fun _ => Nat.le_refl _
  · exact pNum_ge s _ i _ fun _ => Nat.le_refl _
  · rw [pl4_withN]; exact pTwo_ge h s _ _ i p
  · rw [pl4_withN]; exact pOne_ge h _ _ i p
  · rw [pl4_withN]; exact pOne_ge h _ _ i p
  · exact chooseR_ge h s i p
  · exact pNum_ge s _ i _ fun i' => wrapR_ge h s p i'
  · exact pNum_ge s _ i _ fun i' => pMore_ge h s _ _ _ i' p
  · exact pNum_ge s _ i _ fun i' => pMore_ge h s _ _ _ i' p
  · exact Nat.le_refl _
include ha in
theorem pList_loc (kd i p : Nat) (hk : pl4 (pList s rec kd i p) < k) : pList s' rec' kd i p = pList s rec kd i p := by
  unfold pList at hk ⊢
  split at hk
  · rw [pl4_withN] at hk; rw [pTwo_loc ha h _ _ i p hk]
  · exact pNum_loc ha _ i _ _ (fun _ => Nat.le_refl _) (fun _ _ => rfl) hk
  · exact pNum_loc ha _ i _ _ (fun _ => Nat.le_refl _) (fun _ _ => rfl) hk
  · rw [pl4_withN] at hk; rw [pTwo_loc ha h _ _ i p hk]
  · rw [pl4_withN] at hk; rw [pOne_loc h _ _ i p hk]
  · rw [pl4_withN] at hk; rw [pOne_loc h _ _ i p hk]
  · exact chooseR_loc ha h i p hk
  · exact pNum_loc ha _ i _ _ (fun i' => wrapR_ge h s p i') (fun i' h9 => wrapR_loc ha h p i' h9) hk
  · exact pNum_loc ha _ i _ _ (fun i' => pMore_ge h s _ _ _ i' p) (fun i' h9 => pMore_loc ha h _ _ _ i' p h9) hk
  · exact pNum_loc ha _ i _ _ (fun i' => pMore_ge h s _ _ _ i' p) (fun i' h9 => pMore_loc ha h _ _ _ i' p h9) hk
  · rfl
end
theorem integer_ge (s : ByteArray) (i p : Nat) : i ≤ pl3 (integer s i p) := by
  unfold integer
  split
  · split
    · show i ≤ i + 1; omega
    · have h1 := num_ge s 9223372036854775808 (i + 1)
      cases hx : num s 9223372036854775808 (i + 1) with
      | error j => rw [hx] at h1; show i ≤ j; have : i + 1 ≤ j := h1; omega
      | ok x => rw [hx] at h1; show i ≤ x.2; have : i + 1 ≤ x.2 := h1; omega
  · have h1 := num_ge s 9223372036854775807 i
    cases hx : num s 9223372036854775807 i with
    | error j => rw [hx] at h1; exact h1
    | ok x => rw [hx] at h1; exact h1
theorem integer_loc {s s' : ByteArray} {k i p : Nat} (ha : Alike s s' k) (hk : pl3 (integer s i p) < k) : integer s' i p = integer s i p := by
  have hge := integer_ge s i p
  have hlt : i < k := by omega
  unfold integer at hk ⊢
  rw [← ha.isB hlt]
  cases hb : isB s i 45 with
  | false =>
    rw [hb, if_neg (by simp)] at hk
    rw [if_neg (by simp), if_neg (by simp)]
    have h1 : pl2 (num s 9223372036854775807 i) < k := by
      cases hx : num s 9223372036854775807 i with
      | error j => rw [hx] at hk; exact hk
      | ok x => rw [hx] at hk; exact hk
    rw [num_loc ha h1]
  | true =>
    rw [hb, if_pos rfl] at hk
    rw [if_pos rfl, if_pos rfl]
    have hlt2 : i + 1 < k := by
      split at hk
      · exact hk
      · have h1 := num_ge s 9223372036854775808 (i + 1)
        cases hx : num s 9223372036854775808 (i + 1) with
        | error j => rw [hx] at hk h1; have h2 : i + 1 ≤ j := h1; have h3 : j < k := hk; omega
        | ok x => rw [hx] at hk h1; have h2 : i + 1 ≤ x.2 := h1; have h3 : x.2 < k := hk; omega
    rw [← ha.isB hlt2]
    split
    · rfl
    · rename_i hb2
      rw [if_neg hb2] at hk
      have h1 : pl2 (num s 9223372036854775808 (i + 1)) < k := by
        cases hx : num s 9223372036854775808 (i + 1) with
        | error j => rw [hx] at hk; exact hk
        | ok x => rw [hx] at hk; exact hk
      rw [num_loc ha h1]
theorem word_ge (s : ByteArray) (st : Nat) (m : Int → Bool) : st ≤ pl2 (word s st m) := wordGo_ge s st m 7 0
theorem pVal_two {s s' : ByteArray} {k : Nat} (ha : Alike s s' k) : ∀ f, Two k (pVal s f) (pVal s' f)
  | 0 => ⟨fun _ _ _ => Nat.le_refl _, fun _ _ _ _ => rfl⟩
  | f + 1 => by
    have h := pVal_two ha f
    have hge : ∀ m i p, i ≤ pl3 (pVal s (f + 1) m i p) := by
      intro m i p
      rw [pVal]
      split
      · exact Nat.le_refl _
      · split
        · split
          · exact integer_ge s i (p + 1)
          · exact Nat.le_refl _
        · have h1 := word_ge s i m
          cases hx : word s i m with
          | error j => rw [hx] at h1; exact h1
          | ok x =>
            obtain ⟨kd, j⟩ := x
            rw [hx] at h1
            have h2 : i ≤ j := h1
            dsimp only
            split
            · exact h2
            · split
              · have h3 := pList_ge h s kd (j + 1) (p + 1)
                cases hy : pList s (pVal s f) kd (j + 1) (p + 1) with
                | error j' => rw [hy] at h3; show i ≤ j'; have : j + 1 ≤ j' := h3; omega
                | ok y =>
                  obtain ⟨n, l, j', p'⟩ := y
                  rw [hy] at h3
                  have h4 : j + 1 ≤ j' := h3
                  dsimp only
                  split
                  · show i ≤ j' + 1; omega
                  · show i ≤ j'; omega
              · exact h2
    refine ⟨hge, fun m i p hk => ?_⟩
    have hi : i < k := Nat.lt_of_le_of_lt (hge m i p) hk
    rw [pVal] at hk ⊢
    rw [pVal, ← ha.isB hi, ← ha.dig hi]
    split
    · rfl
    · rename_i hp
      rw [if_neg hp] at hk
      split
      · rename_i hb
        rw [if_pos hb] at hk
        split
        · rename_i hm
          rw [if_pos hm] at hk
          exact integer_loc ha hk
        · rfl
      · rename_i hb
        rw [if_neg hb] at hk
        have h1 : pl2 (word s i m) < k := by
          cases hx : word s i m with
          | error j => rw [hx] at hk; exact hk
          | ok x =>
            obtain ⟨kd, j⟩ := x
            rw [hx] at hk
            dsimp only at hk
            show j < k
            split at hk
            · exact hk
            · split at hk
              · have h3 := pList_ge h s kd (j + 1) (p + 1)
                cases hy : pList s (pVal s f) kd (j + 1) (p + 1) with
                | error j' => rw [hy] at h3 hk; have h4 : j + 1 ≤ j' := h3; have h5 : j' < k := hk; omega
                | ok y =>
                  obtain ⟨n, l, j', p'⟩ := y
                  rw [hy] at h3 hk
                  have h4 : j + 1 ≤ j' := h3
                  dsimp only at hk
                  split at hk
                  · have h5 : j' + 1 < k := hk; omega
                  · have h5 : j' < k := hk; omega
              · exact hk
        rw [word_loc ha h1]
        cases hx : word s i m with
        | error j => rfl
        | ok x =>
          obtain ⟨kd, j⟩ := x
          rw [hx] at hk h1
          have hj : j < k := h1
          dsimp only at hk ⊢
          split
          · rfl
          · rename_i hl
            rw [if_neg hl] at hk
            rw [← ha.isB hj]
            split
            · rename_i hb4
              rw [if_pos hb4] at hk
              have h3 : pl4 (pList s (pVal s f) kd (j + 1) (p + 1)) < k := by
                cases hy : pList s (pVal s f) kd (j + 1) (p + 1) with
                | error j' => rw [hy] at hk; exact hk
                | ok y =>
                  obtain ⟨n, l, j', p'⟩ := y
                  rw [hy] at hk
                  dsimp only at hk
                  show j' < k
                  split at hk
                  · have h5 : j' + 1 < k := hk; omega
                  · exact hk
              rw [pList_loc ha h kd (j + 1) (p + 1) h3]
              cases hy : pList s (pVal s f) kd (j + 1) (p + 1) with
              | error j' => rfl
              | ok y =>
                obtain ⟨n, l, j', p'⟩ := y
                rw [hy] at h3
                have hj' : j' < k := h3
                dsimp only
                rw [← ha.isB hj']
            · rfl
/-- What stands ahead of a wrong place decides nothing sooner. -/
theorem parse_loc {s s' : ByteArray} {k m at_ : Nat} (ha : Alike s s' k) (h : parse s = .error at_) (hat : at_ ≤ s.size) (hk : k ≤ at_) (h' : parse s' = .error m) : k ≤ m := by
  rcases Nat.lt_or_ge m k with hlt | hge
  · exfalso
    have h2 := pVal_two ha.symm 256
    unfold parse at h h'
    cases hx : pVal s' 256 mAny 0 0 with
    | error j =>
      rw [hx] at h'
      injection h' with h'
      subst h'
      have := h2.loc mAny 0 0 (by rw [hx]; exact hlt)
      rw [this, hx] at h
      injection h with h
      omega
    | ok x =>
      obtain ⟨t, i, p⟩ := x
      rw [hx] at h'
      dsimp only at h'
      split at h'
      · injection h' with h'
        subst h'
        have := h2.loc mAny 0 0 (by rw [hx]; exact hlt)
        rw [this, hx] at h
        dsimp only at h
        rw [if_pos (by omega)] at h
        injection h with h
        omega
      · cases h'
  · exact hge
end Go.Proofs.YtjldbbcdhdfliaaGreatDoor
/-
  What was read is the text of the value. Plain.
-/
namespace Go.Proofs.YtjldbbcdhdfliaaGreatDoor
open Go.RowKit

/-- The bytes from i up to j. -/
def seg (s : ByteArray) (i j : Nat) : List UInt8 := (s.data.toList.drop i).take (j - i)
theorem seg_app (s : ByteArray) {i j k : Nat} (h1 : i ≤ j) (h2 : j ≤ k) : seg s i k = seg s i j ++ seg s j k := by
  unfold seg
  rw [show k - i = (j - i) + (k - j) from by omega, List.take_add, List.drop_drop, show i + (j - i) = j from by omega]
theorem seg_self (s : ByteArray) (i : Nat) : seg s i i = [] := by unfold seg; simp
theorem seg_one {s : ByteArray} {i : Nat} (h : i < s.size) : seg s i (i + 1) = [s[i]] := by
  unfold seg
  have hl : i < s.data.toList.length := by simpa using h
  rw [show i + 1 - i = 1 from by omega, List.drop_eq_getElem_cons hl]
  rfl
theorem seg_isB {s : ByteArray} {i : Nat} {c : Nat} (h : isB s i (c : Int) = true) (hc : c < 256) : i < s.size ∧ seg s i (i + 1) = [UInt8.ofNat c] := by
  have hlt := isB_lt (by omega) h
  refine ⟨hlt, ?_⟩
  rw [seg_one hlt]
  unfold isB at h
  rw [decide_eq_true_eq, bt_in hlt] at h
  congr 1
  apply UInt8.toNat_inj.1
  rw [UInt8.toNat_ofNat']
  omega
theorem seg_dig {s : ByteArray} {i : Nat} (h : dig s i = true) : seg s i (i + 1) = [UInt8.ofNat (48 + (bt s i - 48).toNat)] := by
  have hlt := dig_lt h
  have hb := dig_bt h
  rw [seg_one hlt]
  rw [bt_in hlt] at hb ⊢
  congr 1
  apply UInt8.toNat_inj.1
  rw [UInt8.toNat_ofNat']
  omega
theorem dec_snoc {m d : Nat} (hm : 0 < m) (hd : d < 10) : Lib.decDigits (m * 10 + d) = Lib.decDigits m ++ [UInt8.ofNat (48 + d)] := by
  rw [Lib.decDigits, dif_neg (by omega), show (m * 10 + d) / 10 = m by omega, show (m * 10 + d) % 10 = d by omega]
theorem numGo_snd {s : ByteArray} {most : Nat} : ∀ (f j m n i' : Nat), 0 < m → numGo s most f j m = .ok (n, i') → j ≤ i' ∧ Lib.decDigits n = Lib.decDigits m ++ seg s j i'
  | 0, j, m, n, i', hm, h => by
    rw [numGo] at h
    injection h with h
    injection h with h1 h2
    subst h1 h2
    exact ⟨Nat.le_refl _, by rw [seg_self, List.append_nil]⟩
  | f + 1, j, m, n, i', hm, h => by
    rw [numGo] at h
    split at h
    · rename_i hd
      have hb := dig_bt hd
      dsimp only at h
      split at h
      · cases h
      · rw [if_neg (by omega)] at h
        obtain ⟨h1, h2⟩ := numGo_snd f (j + 1) _ n i' (by omega) h
        refine ⟨by omega, ?_⟩
        rw [h2, dec_snoc hm (by omega), seg_app s (show j ≤ j + 1 by omega) h1, seg_dig hd, List.append_assoc]
    · injection h with h
      injection h with h1 h2
      subst h1 h2
      exact ⟨Nat.le_refl _, by rw [seg_self, List.append_nil]⟩
theorem num_snd {s : ByteArray} {most i n i' : Nat} (h : num s most i = .ok (n, i')) : i < i' ∧ seg s i i' = Lib.decDigits n := by
  cases hd : dig s i with
  | false => unfold num at h; rw [hd] at h; cases h
  | true =>
    have hb := dig_bt hd
    rw [num_first hd] at h
    split at h
    · rename_i h0
      injection h with h
      injection h with h1 h2
      subst h1 h2
      refine ⟨by omega, ?_⟩
      rw [seg_dig hd, h0, Lib.decDigits_one (by omega)]
    · rename_i h0
      obtain ⟨h1, h2⟩ := numGo_snd _ (i + 1) _ n i' (by omega) h
      refine ⟨by omega, ?_⟩
      rw [h2, seg_app s (show i ≤ i + 1 by omega) h1, seg_dig hd, Lib.decDigits_one (by omega)]
theorem wordGo_snd {s : ByteArray} {st : Nat} {m : Int → Bool} : ∀ {f n k j : Nat}, wordGo s st m f n = .ok (k, j) → st ≤ j ∧ seg s st j = wdl k
  | 0, n, k, j, h => by rw [wordGo] at h; cases h
  | f + 1, n, k, j, h => by
    rw [wordGo] at h
    split at h
    · cases h
    · rename_i k2 hc
      split at h
      · rename_i hn
        injection h with h
        injection h with h1 h2
        subst h1 h2
        have h3 := cand_sub (findC_some hc).1
        refine ⟨by omega, ?_⟩
        unfold seg
        have hl : (wdl k2).length = n + 1 := by
          have : (wdB k2).size = (wdl k2).length := by simp [wdB, ByteArray.size]
          omega
        rw [show st + n + 1 - st = n + 1 from by omega, ← sub_eq, h3.1, ← hl, List.take_length]
      · exact wordGo_snd h
theorem word_snd {s : ByteArray} {st : Nat} {m : Int → Bool} {k j : Nat} (h : word s st m = .ok (k, j)) : st ≤ j ∧ seg s st j = wdl k := wordGo_snd h
end Go.Proofs.YtjldbbcdhdfliaaGreatDoor
/-
  What was read is the text of the value: values. Plain.
-/
namespace Go.Proofs.YtjldbbcdhdfliaaGreatDoor
open Go.RowKit

def SndR (s : ByteArray) (rec : Rec) : Prop := ∀ m i p t i' p', i ≤ s.size → p ≤ 256 → rec m i p = .ok (t, i', p') → seg s i i' = txt t ∧ shps t = true ∧ m t.kd = true
theorem pOne_snd {s : ByteArray} {rec : Rec} (hS : SndR s rec) {m : Int → Bool} {l : List VT} {i p : Nat} {l' : List VT} {i' p' : Nat} (hi : i ≤ s.size) (hp : p ≤ 256) (h : pOne rec m l i p = .ok (l', i', p')) : ∃ t, l' = l ++ [t] ∧ seg s i i' = txt t ∧ shps t = true ∧ m t.kd = true := by
  unfold pOne at h
  split at h
  · cases h
  · rename_i t i2 p2 he
    have h1 := hS _ _ _ _ _ _ hi hp he
    injection h with h
    injection h with h2 h3
    injection h3 with h3 h4
    subst h2 h3 h4
    exact ⟨t, rfl, h1⟩
section
variable {s : ByteArray} {rec : Rec} (hr : Goes s rec) (hS : SndR s rec)
include hr hS
theorem pMore_snd {m : Int → Bool} : ∀ (c : Nat) {l : List VT} {i p : Nat} {l' : List VT} {i' p' : Nat}, i ≤ s.size → p ≤ 256 → pMore s rec m c l i p = .ok (l', i', p') → ∃ r, l' = l ++ r ∧ r.length ≤ c ∧ seg s i i' = txtL r true ∧ shpsL r = true ∧ ∀ t ∈ r, m t.kd = true
  | 0, l, i, p, l', i', p', hi, hp, h => by
    rw [pMore] at h
    injection h with h
    injection h with h2 h3
    injection h3 with h3 h4
    subst h2 h3 h4
    exact ⟨[], by simp, by simp, by rw [seg_self, txtL], by rw [shpsL], by simp⟩
  | c + 1, l, i, p, l', i', p', hi, hp, h => by
    rw [pMore] at h
    split at h
    · rename_i hb
      obtain ⟨hlt, hs1⟩ := seg_isB (c := 44) hb (by omega)
      split at h
      · cases h
      · rename_i l2 i2 p2 he
        have hg := pOne_goes hr (by omega) hp he
        obtain ⟨t, rfl, h1, h2, h3⟩ := pOne_snd hS (by omega) hp he
        have hg2 := pMore_goes hr c (by omega) (by omega) h
        obtain ⟨r, rfl, h4, h5, h6, h7⟩ := pMore_snd c (by omega) (by omega) h
        refine ⟨t :: r, by simp, by simp; omega, ?_, ?_, ?_⟩
        · rw [seg_app s (show i ≤ i + 1 by omega) (show i + 1 ≤ i' by omega), seg_app s (show i + 1 ≤ i2 by omega) hg2.1, hs1, h1, h5, txtL]
          rfl
        · rw [shpsL, h2, h6]; rfl
        · intro x hx
          rcases List.mem_cons.1 hx with rfl | hx
          · exact h3
          · exact h7 x hx
    · injection h with h
      injection h with h2 h3
      injection h3 with h3 h4
      subst h2 h3 h4
      exact ⟨[], by simp, by simp, by rw [seg_self, txtL], by rw [shpsL], by simp⟩
theorem pTwo_snd {m m' : Int → Bool} {i p : Nat} {l' : List VT} {i' p' : Nat} (hi : i ≤ s.size) (hp : p ≤ 256) (h : pTwo s rec m m' i p = .ok (l', i', p')) : ∃ t1 t2, l' = [t1, t2] ∧ seg s i i' = txtL [t1, t2] false ∧ shpsL [t1, t2] = true ∧ m t1.kd = true ∧ m' t2.kd = true := by
  unfold pTwo at h
  split at h
  · cases h
  · rename_i l i2 p2 he
    have hg := pOne_goes hr hi hp he
    obtain ⟨t1, rfl, h1, h2, h3⟩ := pOne_snd hS hi hp he
    split at h
    · rename_i hb
      obtain ⟨hlt, hs1⟩ := seg_isB (c := 44) hb (by omega)
      have hg2 := pOne_goes hr (by omega) (by omega) h
      obtain ⟨t2, rfl, h4, h5, h6⟩ := pOne_snd hS (by omega) (by omega) h
      refine ⟨t1, t2, rfl, ?_, ?_, h3, h6⟩
      · rw [seg_app s hg.1 (show i2 ≤ i' by omega), seg_app s (show i2 ≤ i2 + 1 by omega) hg2.1, hs1, h1, h4, txtL, txtL, txtL]
        simp
      · rw [shpsL, shpsL, shpsL, h2, h5]; rfl
    · cases h
end
theorem itoa_nat (n : Nat) : Lib.itoa (n : Int) = Lib.decDigits n := by
  unfold Lib.itoa
  rw [if_neg (by omega)]
  rfl
theorem itoa_neg {n : Nat} (h : 0 < n) : Lib.itoa (-(n : Int)) = 45 :: Lib.decDigits n := by
  unfold Lib.itoa
  rw [if_pos (by omega)]
  simp
theorem pList_snd {s : ByteArray} {rec : Rec} (hr : Goes s rec) (hS : SndR s rec) {k i p : Nat} {n : Int} {l : List VT} {i' p' : Nat} (hk : 3 ≤ k ∧ k < 14 ∧ k ≠ 8) (hi : i ≤ s.size) (hp : p ≤ 256) (h : pList s rec k i p = .ok (n, l, i', p')) :
    seg s i i' = (if numd k then Lib.itoa n else []) ++ txtL l (numd k) ∧ shp k n l = true ∧ shpsL l = true := by
  unfold pList at h
  split at h
  · obtain ⟨rfl, h9⟩ := withN_ok h
    obtain ⟨t1, t2, rfl, h1, h2, _, _⟩ := pTwo_snd hr hS hi hp h9
    exact ⟨h1, by simp [shp, shpN], h2⟩
  · obtain ⟨n2, i2, he, rfl, h9⟩ := pNum_ok h
    have h0 := num_snd he
    injection h9 with h9
    injection h9 with h1 h2
    injection h2 with h2 h3
    subst h1 h2
    refine ⟨?_, by simp [shp, shpN], by rw [shpsL]⟩
    rw [h0.2, itoa_nat, txtL]; simp [numd]
  · obtain ⟨n2, i2, he, rfl, h9⟩ := pNum_ok h
    have h0 := num_snd he
    injection h9 with h9
    injection h9 with h1 h2
    injection h2 with h2 h3
    subst h1 h2
    refine ⟨?_, by simp [shp, shpN], by rw [shpsL]⟩
    rw [h0.2, itoa_nat, txtL]; simp [numd]
  · obtain ⟨rfl, h9⟩ := withN_ok h
    obtain ⟨t1, t2, rfl, h1, h2, h3, _⟩ := pTwo_snd hr hS hi hp h9
    refine ⟨h1, ?_, h2⟩
    unfold mChan at h3
    simp at h3
    simp [shp, shpN, fstKd, h3]
  · obtain ⟨rfl, h9⟩ := withN_ok h
    obtain ⟨t, rfl, h1, h2, h3⟩ := pOne_snd hS hi hp h9
    unfold mChan at h3
    simp at h3
    refine ⟨?_, by simp [shp, shpN, fstKd, h3], by rw [List.nil_append, shpsL, shpsL, h2]; rfl⟩
    rw [h1, List.nil_append, txtL, txtL]; simp [numd]
  · obtain ⟨rfl, h9⟩ := withN_ok h
    obtain ⟨t, rfl, h1, h2, h3⟩ := pOne_snd hS hi hp h9
    refine ⟨?_, by simp [shp, shpN], by rw [List.nil_append, shpsL, shpsL, h2]; rfl⟩
    rw [h1, List.nil_append, txtL, txtL]; simp [numd]
  · split at h
    · injection h with h
      injection h with h0 h
      injection h with h1 h2
      injection h2 with h2 h3
      subst h0 h1 h2
      exact ⟨by rw [seg_self, txtL]; simp [numd], by simp [shp, shpN], by rw [shpsL]⟩
    · split at h
      · cases h
      · rename_i l2 i2 p2 he
        have hg := pOne_goes hr hi hp he
        obtain ⟨t, rfl, h1, h2, h3⟩ := pOne_snd hS hi hp he
        obtain ⟨rfl, h9⟩ := withN_ok h
        have hg2 := pMore_goes hr 15 (by omega) (by omega) h9
        obtain ⟨r, rfl, h4, h5, h6, h7⟩ := pMore_snd hr hS 15 (by omega) (by omega) h9
        refine ⟨?_, ?_, ?_⟩
        · rw [seg_app s hg.1 hg2.1, h1, h5, List.nil_append, List.singleton_append, txtL]; simp [numd]
        · have he : ([] ++ [t] ++ r).all (fun t => isEv t.kd) = true := by
            rw [List.all_eq_true]
            intro x hx
            rw [List.nil_append, List.singleton_append] at hx
            rcases List.mem_cons.1 hx with rfl | hx
            · exact h3
            · exact h7 x hx
          unfold shp shpN
          rw [he]
          simp
          omega
        · rw [List.nil_append, List.singleton_append, shpsL, h2, h6]; rfl
  · obtain ⟨n2, i2, he, rfl, h9⟩ := pNum_ok h
    have h0 := num_snd he
    have hn := num_ok he hi (by omega)
    split at h9
    · rename_i hb
      obtain ⟨hlt, hs1⟩ := seg_isB (c := 44) hb (by omega)
      split at h9
      · cases h9
      · rename_i l2 i3 p3 he2
        have hg := pOne_goes hr (by omega) hp he2
        obtain ⟨t, rfl, h1, h2, h3⟩ := pOne_snd hS (by omega) hp he2
        have hg2 := pMore_goes hr 8 (by omega) (by omega) h9
        obtain ⟨r, rfl, h4, h5, h6, h7⟩ := pMore_snd hr hS 8 (by omega) (by omega) h9
        refine ⟨?_, ?_, ?_⟩
        · rw [seg_app s (show i ≤ i2 by omega) (show i2 ≤ i' by omega), seg_app s (show i2 ≤ i2 + 1 by omega) (show i2 + 1 ≤ i' by omega), seg_app s hg.1 hg2.1, h0.2, hs1, h1, h5, itoa_nat, List.nil_append, show txtL ([t] ++ r) (numd ((10 : Nat) : Int)) = 44 :: (txt t ++ txtL r true) from by rw [List.singleton_append, txtL]; rfl]
          simp [numd]
        · have h3' : isEv t.kd = true := h3
          unfold shp shpN
          simp [fstKd, h3']
          omega
        · rw [List.nil_append, List.singleton_append, shpsL, h2, h6]; rfl
    · cases h9
  · obtain ⟨n2, i2, he, rfl, h9⟩ := pNum_ok h
    have h0 := num_snd he
    have hn := num_ok he hi (by omega)
    have hg2 := pMore_goes hr 8 (by omega) (by omega) h9
    obtain ⟨r, rfl, h4, h5, h6, h7⟩ := pMore_snd hr hS 8 (by omega) (by omega) h9
    refine ⟨?_, ?_, ?_⟩
    · rw [seg_app s (show i ≤ i2 by omega) hg2.1, h0.2, h5, itoa_nat]; simp [numd]
    · unfold shp shpN
      simp
      omega
    · exact h6
  · obtain ⟨n2, i2, he, rfl, h9⟩ := pNum_ok h
    have h0 := num_snd he
    have hn := num_ok he hi (by omega)
    have hg2 := pMore_goes hr 8 (by omega) (by omega) h9
    obtain ⟨r, rfl, h4, h5, h6, h7⟩ := pMore_snd hr hS 8 (by omega) (by omega) h9
    refine ⟨?_, ?_, ?_⟩
    · rw [seg_app s (show i ≤ i2 by omega) hg2.1, h0.2, h5, itoa_nat]; simp [numd]
    · unfold shp shpN
      simp
      omega
    · exact h6
  · exfalso
    have hc : k = 3 ∨ k = 4 ∨ k = 5 ∨ k = 6 ∨ k = 7 ∨ k = 9 ∨ k = 10 ∨ k = 11 ∨ k = 12 ∨ k = 13 := by omega
    rcases hc with e | e | e | e | e | e | e | e | e | e <;> contradiction
theorem num_pos {s : ByteArray} {most i n j : Nat} (h : num s most i = .ok (n, j)) (h0 : isB s i 48 = false) : 0 < n := by
  rcases Nat.eq_zero_or_pos n with rfl | hp
  · exfalso
    obtain ⟨h1, h2⟩ := num_snd h
    have hd : dig s i = true := by
      cases hx : dig s i
      · unfold num at h; rw [hx] at h; cases h
      · rfl
    have hlt := dig_lt hd
    rw [seg_app s (show i ≤ i + 1 by omega) h1, seg_one hlt, Lib.decDigits_one (by omega)] at h2
    injection h2 with h2 _
    have hb : bt s i = 48 := by rw [bt_in hlt, h2]; rfl
    unfold isB at h0
    rw [hb] at h0
    simp at h0
  · exact hp
theorem pVal_snd (s : ByteArray) : ∀ f, SndR s (pVal s f)
  | 0, m, i, p, t, i', p', hi, hp, h => by rw [pVal] at h; cases h
  | f + 1, m, i, p, t, i', p', hi, hp, h => by
    rw [pVal] at h
    split at h
    · cases h
    · split at h
      · split at h
        · rename_i hm
          unfold integer at h
          split at h
          · rename_i hb
            obtain ⟨hlt, hs1⟩ := seg_isB (c := 45) hb (by omega)
            split at h
            · cases h
            · rename_i hz
              split at h
              · cases h
              · rename_i n j he
                have h0 := num_snd he
                have hpos := num_pos he (by simpa using hz)
                injection h with h
                injection h with h1 h2
                injection h2 with h2 h3
                subst h1 h2
                refine ⟨?_, by rw [shps, shpsL]; simp [shp, shpN], hm⟩
                rw [seg_app s (show i ≤ i + 1 by omega) (show i + 1 ≤ j by omega), hs1, h0.2, txt, if_pos rfl, itoa_neg hpos]
                rfl
          · split at h
            · cases h
            · rename_i n j he
              have h0 := num_snd he
              injection h with h
              injection h with h1 h2
              injection h2 with h2 h3
              subst h1 h2
              refine ⟨?_, by rw [shps, shpsL]; simp [shp, shpN], hm⟩
              rw [h0.2, txt, if_pos rfl, itoa_nat]
        · cases h
      · split at h
        · cases h
        · rename_i k j he
          have hw := word_goes he
          have hws := word_snd he
          split at h
          · rename_i hl
            injection h with h
            injection h with h1 h2
            injection h2 with h2 h3
            subst h1 h2
            refine ⟨?_, ?_, hw.2.2.2.1⟩
            · rw [hws.2, txt, if_neg (by omega), if_pos (by omega)]
              simp
            · rw [shps, shpsL]
              rcases hl with rfl | rfl <;> simp [shp, shpN]
          · rename_i hl
            split at h
            · rename_i hb
              obtain ⟨hlt, hs1⟩ := seg_isB (c := 40) hb (by omega)
              split at h
              · cases h
              · rename_i n l j' p2 hpl
                have hg := pList_goes (pVal_goes s f) (by omega) (by omega) hpl
                have hk2 : k ≠ 2 ∧ k ≠ 0 := by
                  constructor
                  · intro e; subst e; exact absurd hw.2.2.2.2 (by decide)
                  · intro e; subst e; exact absurd hw.2.2.2.2 (by decide)
                have hsl := pList_snd (pVal_goes s f) (pVal_snd s f) (by omega) (by omega) (by omega) hpl
                split at h
                · rename_i hb2
                  obtain ⟨hlt2, hs2⟩ := seg_isB (c := 41) hb2 (by omega)
                  injection h with h
                  injection h with h1 h2
                  injection h2 with h2 h3
                  subst h1 h2
                  refine ⟨?_, by rw [shps, hsl.2.1, hsl.2.2]; rfl, hw.2.2.2.1⟩
                  rw [seg_app s hws.1 (show j ≤ j' + 1 by omega), seg_app s (show j ≤ j + 1 by omega) (show j + 1 ≤ j' + 1 by omega), seg_app s hg.1 (show j' ≤ j' + 1 by omega), hws.2, hs1, hs2, hsl.1, txt, if_neg (show ¬ ((k : Int) = 2) by omega), if_neg (show ¬ ((k : Int) = 1 ∨ (k : Int) = 8) by omega)]
                  simp
                · cases h
            · cases h
/-- What Parse reads is the text of a value that may be. -/
theorem parse_snd {s : ByteArray} {t : VT} (h : parse s = .ok t) : txt t = s.data.toList ∧ right t = true := by
  have hnd := parse_nd h
  unfold parse at h
  split at h
  · cases h
  · rename_i t2 i p he
    have h1 := pVal_snd s 256 _ _ _ _ _ _ (Nat.zero_le _) (by omega) he
    have h2 := pVal_goes s 256 _ _ _ _ _ _ (Nat.zero_le _) (by omega) he
    split at h
    · cases h
    · rename_i hlt
      injection h with h
      subst h
      refine ⟨?_, ?_⟩
      · rw [← h1.1]
        unfold seg
        rw [List.drop_zero, List.take_of_length_le]
        have : s.data.toList.length = s.size := by simp
        omega
      · unfold right
        rw [small_nd, h1.2.1]
        simpa using hnd
end Go.Proofs.YtjldbbcdhdfliaaGreatDoor
/-
  The text of a number, or a word, is read as it. Plain.
-/
namespace Go.Proofs.YtjldbbcdhdfliaaGreatDoor
open Go.RowKit

def valD (l : List UInt8) : Nat := l.foldl (fun a c => a * 10 + (c.toNat - 48)) 0
theorem valD_snoc (l : List UInt8) (c : UInt8) : valD (l ++ [c]) = valD l * 10 + (c.toNat - 48) := by unfold valD; rw [List.foldl_append]; rfl
theorem valD_dec (n : Nat) : valD (Lib.decDigits n) = n := by
  induction n using Nat.strongRecOn with
  | _ n ih =>
    by_cases h : n < 10
    · rw [Lib.decDigits_one h]
      unfold valD
      simp only [List.foldl_cons, List.foldl_nil, UInt8.toNat_ofNat']
      omega
    · have e : n = (n / 10) * 10 + n % 10 := by omega
      have hs := dec_snoc (m := n / 10) (d := n % 10) (by omega) (by omega)
      rw [← e] at hs
      rw [hs, valD_snoc, ih (n / 10) (by omega), UInt8.toNat_ofNat']
      omega
theorem fold_ge : ∀ (b : List UInt8) (x : Nat), x ≤ b.foldl (fun a c => a * 10 + (c.toNat - 48)) x
  | [], x => Nat.le_refl _
  | c :: b, x => by
    rw [List.foldl_cons]
    have := fold_ge b (x * 10 + (c.toNat - 48))
    omega
theorem valD_app (a b : List UInt8) : valD a ≤ valD (a ++ b) := by
  unfold valD
  rw [List.foldl_append]
  exact fold_ge b _
theorem seg_cons {s : ByteArray} {i j : Nat} {c : UInt8} {l : List UInt8} (h : seg s i j = c :: l) : i < s.size ∧ i < j ∧ s.data.toList[i]? = some c ∧ seg s (i + 1) j = l := by
  have hlen := congrArg List.length h
  unfold seg at h hlen
  simp at hlen
  have hi : i < s.size := by omega
  have hij : i < j := by omega
  have h1 : seg s i j = seg s i (i + 1) ++ seg s (i + 1) j := seg_app s (by omega) (by omega)
  have h2 : seg s i j = c :: l := h
  rw [h1, seg_one hi] at h2
  injection h2 with h3 h4
  refine ⟨hi, hij, ?_, h4⟩
  rw [List.getElem?_eq_getElem (by simpa using hi), ← h3]
  rfl
theorem bt_of {s : ByteArray} {i : Nat} {c : UInt8} (h : s.data.toList[i]? = some c) : bt s i = (c.toNat : Int) := by rw [bt_get, h]
theorem dec_digits (n : Nat) : ∀ c ∈ Lib.decDigits n, 48 ≤ c.toNat ∧ c.toNat ≤ 57 := by
  induction n using Nat.strongRecOn with
  | _ n ih =>
    intro c hc
    by_cases h : n < 10
    · rw [Lib.decDigits_one h] at hc
      have hc := List.mem_singleton.1 hc
      subst hc
      rw [UInt8.toNat_ofNat']
      omega
    · have e : n = (n / 10) * 10 + n % 10 := by omega
      have hs := dec_snoc (m := n / 10) (d := n % 10) (by omega) (by omega)
      rw [← e] at hs
      rw [hs] at hc
      rcases List.mem_append.1 hc with hc | hc
      · exact ih (n / 10) (by omega) c hc
      · have hc := List.mem_singleton.1 hc
        subst hc
        rw [UInt8.toNat_ofNat']
        omega
theorem dec_head (n : Nat) (hn : 0 < n) : ∃ d ds, 1 ≤ d ∧ d ≤ 9 ∧ Lib.decDigits n = UInt8.ofNat (48 + d) :: ds := by
  induction n using Nat.strongRecOn with
  | _ n ih =>
    by_cases h : n < 10
    · exact ⟨n, [], hn, by omega, Lib.decDigits_one h⟩
    · have e : n = (n / 10) * 10 + n % 10 := by omega
      have hs := dec_snoc (m := n / 10) (d := n % 10) (by omega) (by omega)
      rw [← e] at hs
      obtain ⟨d, ds, h1, h2, h3⟩ := ih (n / 10) (by omega) (by omega)
      exact ⟨d, ds ++ [UInt8.ofNat (48 + n % 10)], h1, h2, by rw [hs, h3]; rfl⟩
theorem numGo_cmp {s : ByteArray} {most n : Nat} (hn : n ≤ most) : ∀ (ds : List UInt8) (j m : Nat), 0 < m → Lib.decDigits n = Lib.decDigits m ++ ds → seg s j (j + ds.length) = ds → dig s (j + ds.length) = false → numGo s most (s.size - j) j m = .ok (n, j + ds.length)
  | [], j, m, hm, hd, hs, hz => by
    rw [List.append_nil] at hd
    have : n = m := by rw [← valD_dec n, hd, valD_dec]
    subst this
    exact numGo_stop hz
  | c :: ds, j, m, hm, hd, hs, hz => by
    obtain ⟨h1, h2, h3, h4⟩ := seg_cons hs
    have hc := dec_digits n c (by rw [hd]; simp)
    have hb := bt_of h3
    have hdig : dig s j = true := by unfold dig; rw [hb]; simp; omega
    have hd2 : Lib.decDigits n = Lib.decDigits (m * 10 + (bt s j - 48).toNat) ++ ds := by
      rw [dec_snoc hm (by rw [hb]; omega), List.append_assoc, hd]
      congr 1
      show c :: ds = UInt8.ofNat (48 + (bt s j - 48).toNat) :: ds
      congr 1
      apply UInt8.toNat_inj.1
      rw [UInt8.toNat_ofNat', hb]
      omega
    have hle : m * 10 + (bt s j - 48).toNat ≤ n := by
      have := valD_app (Lib.decDigits (m * 10 + (bt s j - 48).toNat)) ds
      rw [← hd2, valD_dec, valD_dec] at this
      exact this
    rw [numGo_step hdig hm, if_neg (by omega)]
    have h5 : j + (c :: ds).length = (j + 1) + ds.length := by simp; omega
    rw [h5] at h4 hz ⊢
    exact numGo_cmp hn ds (j + 1) _ (by omega) hd2 h4 hz
theorem num_cmp {s : ByteArray} {most n i : Nat} (hn : n ≤ most) (hs : seg s i (i + (Lib.decDigits n).length) = Lib.decDigits n) (hz : dig s (i + (Lib.decDigits n).length) = false) : num s most i = .ok (n, i + (Lib.decDigits n).length) := by
  rcases Nat.eq_zero_or_pos n with rfl | hp
  · rw [Lib.decDigits_one (by omega)] at hs ⊢
    obtain ⟨h1, h2, h3, h4⟩ := seg_cons hs
    have hb := bt_of h3
    have hb2 : bt s i = 48 := by rw [hb]; rfl
    have hdig : dig s i = true := by unfold dig; rw [hb2]; rfl
    rw [num_first hdig, hb2, if_pos (by decide)]
    rfl
  · obtain ⟨d, ds, h1, h2, h3⟩ := dec_head n hp
    rw [h3] at hs hz ⊢
    obtain ⟨g1, g2, g3, g4⟩ := seg_cons hs
    have hb := bt_of g3
    rw [UInt8.toNat_ofNat'] at hb
    have hb2 : (bt s i - 48).toNat = d := by rw [hb]; omega
    have hdig : dig s i = true := by unfold dig; simp; omega
    rw [num_first hdig, hb2, if_neg (by omega)]
    have h5 : i + (UInt8.ofNat (48 + d) :: ds).length = (i + 1) + ds.length := by simp; omega
    rw [h5] at g4 hz ⊢
    exact numGo_cmp hn ds (i + 1) d (by omega) (by rw [h3, Lib.decDigits_one (by omega)]; rfl) g4 hz
/-- A word that stands is read, whatever follows. -/
theorem wordGo_cmp {s : ByteArray} {st k : Nat} {m : Int → Bool} (hk : k < 14) (hm : m k = true) (hw : 0 < (wdl k).length) (hs : seg s st (st + (wdl k).length) = wdl k) : ∀ (f n : Nat), n < (wdl k).length → (wdl k).length ≤ f + n → wordGo s st m f n = .ok (k, st + (wdl k).length) := by
  have hpre : ∀ n, n ≤ (wdl k).length → sub s st n = (wdl k).take n := by
    intro n hn
    rw [sub_eq]
    unfold seg at hs
    rw [show st + (wdl k).length - st = (wdl k).length from by omega] at hs
    have := congrArg (List.take n) hs
    rw [List.take_take, Nat.min_eq_left hn] at this
    exact this
  intro f
  induction f with
  | zero => intro n h1 h2; omega
  | succ f ih =>
    intro n h1 h2
    rw [wordGo]
    have hc : cand s st n m k = true := cand_of hm h1 (hpre (n + 1) (by omega))
    have hsz : ∀ j, (wdB j).size = (wdl j).length := fun j => by simp [wdB, ByteArray.size]
    cases hf : findC s st n m 14 0 with
    | none =>
      have := findC_none hf k (by omega) (by omega)
      rw [hc] at this
      cases this
    | some j =>
      have hj := findC_some hf
      have hjs := cand_sub hj.1
      have hjp : (wdl j).take (n + 1) = (wdl k).take (n + 1) := by rw [← hjs.1, hpre (n + 1) (by omega)]
      dsimp only
      by_cases hn : n + 1 = (wdB j).size
      · rw [if_pos hn]
        rw [hsz] at hn
        have e1 : (wdl k).take (wdl j).length = wdl j := by rw [← hn, ← hjp, hn, List.take_length]
        have e2 := prefix_free ⟨k, hk⟩ ⟨j, by omega⟩ (by show 0 < (wdl j).length; omega) e1
        have e3 : k = j := by injection e2
        subst e3
        rw [← hn]
        rfl
      · rw [if_neg hn]
        rw [hsz] at hn
        by_cases hl : n + 1 = (wdl k).length
        · exfalso
          have e1 : (wdl j).take (wdl k).length = wdl k := by rw [← hl, hjp, hl, List.take_length]
          have e2 := prefix_free ⟨j, by omega⟩ ⟨k, hk⟩ hw e1
          have e3 : j = k := by injection e2
          subst e3
          exact hn hl
        · exact ih (n + 1) (by omega) (by omega)
theorem word_cmp {s : ByteArray} {st k : Nat} {m : Int → Bool} (hk : k < 14) (hm : m k = true) (hw : 0 < (wdl k).length) (hs : seg s st (st + (wdl k).length) = wdl k) : word s st m = .ok (k, st + (wdl k).length) :=
  wordGo_cmp hk hm hw hs 7 0 hw (by have := wdl_len k; omega)
end Go.Proofs.YtjldbbcdhdfliaaGreatDoor
/-
  The text of a value that may be is read as it. Plain.
-/
namespace Go.Proofs.YtjldbbcdhdfliaaGreatDoor
open Go.RowKit

theorem seg_split {s : ByteArray} {i : Nat} {a b : List UInt8} (h : seg s i (i + (a ++ b).length) = a ++ b) : seg s i (i + a.length) = a ∧ seg s (i + a.length) (i + a.length + b.length) = b := by
  have h1 := seg_app s (show i ≤ i + a.length by omega) (show i + a.length ≤ i + (a ++ b).length by simp)
  rw [h] at h1
  have hl : (seg s i (i + a.length)).length = a.length := by
    have h2 := congrArg List.length h
    unfold seg at h2 ⊢
    simp at h2 ⊢
    omega
  have h3 := List.append_inj h1 hl.symm
  refine ⟨h3.1.symm, ?_⟩
  rw [show i + a.length + b.length = i + (a ++ b).length from by simp; omega]
  exact h3.2.symm
theorem seg_byte {s : ByteArray} {i : Nat} {c : UInt8} (h : seg s i (i + 1) = [c]) : isB s i (c.toNat : Int) = true := by
  obtain ⟨h1, _, h3, _⟩ := seg_cons h
  unfold isB
  rw [bt_of h3]
  simp
/-- A reader that reads what it should. -/
def CmpR (s : ByteArray) (rec : Rec) (p0 : Nat) : Prop := ∀ m i p t, p0 ≤ p → shps t = true → AllR t → m t.kd = true → seg s i (i + (txt t).length) = txt t → dig s (i + (txt t).length) = false → p + nd t ≤ 256 → rec m i p = .ok (t, i + (txt t).length, p + nd t)
section
variable {s : ByteArray} {rec : Rec} {p0 : Nat} (hC : CmpR s rec p0)
include hC
theorem pOne_cmp {m : Int → Bool} {l : List VT} {i p : Nat} {t : VT} (h0 : p0 ≤ p) (h1 : shps t = true) (h2 : AllR t) (h3 : m t.kd = true) (h4 : seg s i (i + (txt t).length) = txt t) (h5 : dig s (i + (txt t).length) = false) (h6 : p + nd t ≤ 256) : pOne rec m l i p = .ok (l ++ [t], i + (txt t).length, p + nd t) := by
  unfold pOne
  rw [hC m i p t h0 h1 h2 h3 h4 h5 h6]
theorem pMore_cmp {m : Int → Bool} : ∀ (c : Nat) (r : List VT) {l : List VT} {i p : Nat}, r.length ≤ c → p0 ≤ p → shpsL r = true → AllRL r → (∀ t ∈ r, m t.kd = true) → seg s i (i + (txtL r true).length) = txtL r true → dig s (i + (txtL r true).length) = false → isB s (i + (txtL r true).length) 44 = false → p + ndL r ≤ 256 → pMore s rec m c l i p = .ok (l ++ r, i + (txtL r true).length, p + ndL r)
  | 0, [], l, i, p, _, _, _, _, _, _, _, _, _ => by rw [pMore, txtL, ndL]; simp
  | 0, _ :: _, _, _, _, h, _, _, _, _, _, _, _, _ => by simp at h
  | c + 1, [], l, i, p, _, _, _, _, _, _, _, hb, _ => by
    rw [txtL] at hb
    rw [pMore, if_neg (by rw [show i = i + ([] : List UInt8).length from rfl, hb]; simp), txtL, ndL]
    simp
  | c + 1, t :: r, l, i, p, hc, h0, hsh, hr, hm, hs, hd, hb, hp => by
    rw [txtL] at hs hd hb ⊢
    rw [shpsL, Bool.and_eq_true] at hsh
    rw [AllRL] at hr
    rw [ndL] at hp ⊢
    simp only [if_true] at hs hd hb ⊢
    obtain ⟨a1, a2⟩ := seg_split hs
    obtain ⟨b1, b2⟩ := seg_split a2
    have hcomma := seg_byte (c := 44) a1
    simp only [List.length_singleton] at b1 b2
    have hnext : dig s (i + 1 + (txt t).length) = false ∧ True := by
      refine ⟨?_, trivial⟩
      cases r with
      | nil =>
        rw [txtL] at hd
        rw [show i + 1 + (txt t).length = i + ([44] ++ (txt t ++ [])).length from by simp; omega]
        exact hd
      | cons t2 r2 =>
        rw [txtL] at b2
        obtain ⟨c1, _⟩ := seg_split (a := [44]) b2
        have := seg_byte (c := 44) c1
        unfold isB at this
        unfold dig
        have h9 : bt s (i + 1 + (txt t).length) = 44 := by simpa using this
        rw [h9]
        rfl
    rw [pMore, if_pos (by simpa using hcomma)]
    rw [pOne_cmp hC h0 hsh.1 hr.1 (hm t (by simp)) b1 hnext.1 (by omega)]
    dsimp only
    have e : i + ([44] ++ (txt t ++ txtL r true)).length = i + 1 + (txt t).length + (txtL r true).length := by simp; omega
    rw [e] at hd hb ⊢
    rw [pMore_cmp c r (by simpa using hc) (by omega) hsh.2 hr.2 (fun x hx => hm x (by simp [hx])) b2 hd hb (by omega)]
    simp
    omega
end
end Go.Proofs.YtjldbbcdhdfliaaGreatDoor
/-
  The text of a value that may be is read as it: the lists. Plain.
-/
namespace Go.Proofs.YtjldbbcdhdfliaaGreatDoor
open Go.RowKit

theorem close_not {s : ByteArray} {j : Nat} (h : isB s j 41 = true) : dig s j = false ∧ isB s j 44 = false := by
  unfold isB at h ⊢
  have h1 : bt s j = 41 := by simpa using h
  unfold dig
  rw [h1]
  exact ⟨rfl, rfl⟩
theorem comma_not {s : ByteArray} {j : Nat} (h : isB s j 44 = true) : dig s j = false ∧ isB s j 41 = false := by
  unfold isB at h ⊢
  have h1 : bt s j = 44 := by simpa using h
  unfold dig
  rw [h1]
  exact ⟨rfl, rfl⟩
theorem itoa_pos {n : Int} (h : 0 ≤ n) : Lib.itoa n = Lib.decDigits n.toNat := by
  unfold Lib.itoa
  rw [if_neg (by omega)]
theorem wdl_letter : ∀ k : Fin 14, 5 ≤ k.val → ∃ c r, wdl k.val = c :: r ∧ c ≠ 41 := by
  intro k h
  have : ∀ k : Fin 14, 5 ≤ k.val → (match wdl k.val with | [] => false | c :: _ => c != 41) = true := by decide
  have := this k h
  split at this
  · cases this
  · rename_i c r e; exact ⟨c, r, e, by simpa using this⟩
theorem txt_open {t : VT} (h : isEv t.kd = true) : ∃ c r, txt t = c :: r ∧ c ≠ 41 := by
  obtain ⟨k, n, l⟩ := t
  have hk : 5 ≤ k ∧ k ≤ 13 := by
    unfold isEv VT.kd at h
    rw [Bool.and_eq_true, decide_eq_true_eq, decide_eq_true_eq] at h
    exact h
  obtain ⟨c, r, h1, h2⟩ := wdl_letter ⟨k.toNat, by omega⟩ (by show 5 ≤ k.toNat; omega)
  rw [txt, if_neg (by omega)]
  exact ⟨c, _, by rw [h1]; rfl, h2⟩
theorem not_close {s : ByteArray} {i : Nat} {a : List UInt8} {c : UInt8} {r : List UInt8} (ha : a = c :: r) (hc : c ≠ 41) (h : seg s i (i + a.length) = a) : isB s i 41 = false := by
  subst ha
  have := seg_byte (c := c) (seg_split (a := [c]) (b := r) h).1
  unfold isB at this ⊢
  have h1 : bt s i = (c.toNat : Int) := by simpa using this
  rw [h1]
  have : c.toNat ≠ 41 := fun e => hc (UInt8.toNat_inj.1 (by rw [e]; rfl))
  simp
  omega
section
variable {s : ByteArray} {rec : Rec} {p0 : Nat} (hC : CmpR s rec p0)
include hC
theorem pTwo_cmp {m m' : Int → Bool} {i p : Nat} {t u : VT} (h0 : p0 ≤ p) (h1 : shps t = true) (h1' : shps u = true) (h2 : AllR t) (h2' : AllR u) (h3 : m t.kd = true) (h3' : m' u.kd = true) (h4 : seg s i (i + (txtL [t, u] false).length) = txtL [t, u] false) (h5 : dig s (i + (txtL [t, u] false).length) = false) (h6 : p + ndL [t, u] ≤ 256) : pTwo s rec m m' i p = .ok ([t, u], i + (txtL [t, u] false).length, p + ndL [t, u]) := by
  have e : txtL [t, u] false = txt t ++ ([44] ++ txt u) := by simp [txtL]
  have en : ndL [t, u] = nd t + nd u := by simp [ndL]
  rw [e] at h4 h5 ⊢
  rw [en] at h6 ⊢
  obtain ⟨a1, a2⟩ := seg_split h4
  obtain ⟨b1, b2⟩ := seg_split a2
  have hcomma := seg_byte (c := 44) b1
  simp only [List.length_singleton] at b2
  have e2 : i + (txt t ++ ([44] ++ txt u)).length = i + (txt t).length + 1 + (txt u).length := by simp; omega
  rw [e2] at h5 ⊢
  unfold pTwo
  rw [pOne_cmp hC h0 h1 h2 h3 a1 (comma_not hcomma).1 (by omega)]
  dsimp only
  rw [if_pos (by simpa using hcomma), pOne_cmp hC (by omega) h1' h2' h3' b2 h5 (by omega)]
  simp
  omega
omit hC in
theorem pNum_cmp {most i p : Nat} {n : Int} {r : List UInt8} {l : List VT} {rest : Nat → Except Nat (List VT × Nat × Nat)} (h0 : 0 ≤ n) (h1 : n.toNat ≤ most) (h2 : seg s i (i + (Lib.itoa n ++ r).length) = Lib.itoa n ++ r) (h3 : dig s (i + (Lib.itoa n).length) = false) (h4 : rest (i + (Lib.itoa n).length) = .ok (l, i + (Lib.itoa n ++ r).length, p)) : pNum s most i rest = .ok (n, l, i + (Lib.itoa n ++ r).length, p) := by
  have h5 := (seg_split h2).1
  rw [itoa_pos h0] at h3 h4 h5 ⊢
  unfold pNum
  rw [num_cmp h1 h5 h3]
  dsimp only
  rw [h4]
  unfold withN
  dsimp only
  rw [Int.toNat_of_nonneg h0]
omit hC in
theorem txtL_next {r : List VT} {i : Nat} (h1 : seg s i (i + (txtL r true).length) = txtL r true) (h2 : dig s (i + (txtL r true).length) = false) : dig s i = false := by
  cases r with
  | nil => simpa [txtL] using h2
  | cons t r =>
    rw [txtL] at h1
    exact (comma_not (seg_byte (c := 44) (seg_split (a := [44]) h1).1)).1
theorem pList_cmp {k : Nat} {n : Int} {l : List VT} {i p : Nat} (h0 : p0 ≤ p) (hn : Rng n) (hsh : shp k n l = true) (hl : shpsL l = true) (hr : AllRL l) (hk1 : k ≠ 1) (hk2 : k ≠ 2) (hk8 : k ≠ 8) (hs : seg s i (i + ((if numd k then Lib.itoa n else []) ++ txtL l (numd k)).length) = (if numd k then Lib.itoa n else []) ++ txtL l (numd k)) (hc : isB s (i + ((if numd k then Lib.itoa n else []) ++ txtL l (numd k)).length) 41 = true) (hp : p + ndL l ≤ 256) :
    pList s rec k i p = .ok (n, l, i + ((if numd k then Lib.itoa n else []) ++ txtL l (numd k)).length, p + ndL l) := by
  have hkd := shp_kind hsh
  obtain ⟨hd, hco⟩ := close_not hc
  have hmore : ∀ {m : Int → Bool} {c : Nat} (j : Nat) (r l0 : List VT), r.length ≤ c → shpsL r = true → AllRL r → (∀ t ∈ r, m t.kd = true) → ∀ q, p0 ≤ q → q + ndL r ≤ 256 → j + (txtL r true).length = i + ((if numd k then Lib.itoa n else []) ++ txtL l (numd k)).length → seg s j (j + (txtL r true).length) = txtL r true → pMore s rec m c l0 j q = .ok (l0 ++ r, i + ((if numd k then Lib.itoa n else []) ++ txtL l (numd k)).length, q + ndL r) := by
    intro m c j r l0 a1 a2 a3 a4 q a5 a6 a7 a8
    rw [← a7]
    exact pMore_cmp hC c r a1 a5 a2 a3 a4 a8 (by rw [a7]; exact hd) (by rw [a7]; exact hco) a6
  have hk : k = 3 ∨ k = 4 ∨ k = 5 ∨ k = 6 ∨ k = 7 ∨ k = 9 ∨ k = 10 ∨ k = 11 ∨ k = 12 ∨ k = 13 := by omega
  rcases hk with rfl | rfl | rfl | rfl | rfl | rfl | rfl | rfl | rfl | rfl
  · -- 3
    have e : numd (((3 : Nat)) : Int) = false := rfl
    rw [e] at hs hd hco hc hmore ⊢
    simp only [Bool.false_eq_true, if_false, List.nil_append] at hs hd hco hc hmore ⊢
    simp [shp, shpN] at hsh
    obtain ⟨t, u, rfl⟩ : ∃ t u, l = [t, u] := by
      match l, hsh.2 with
      | [t, u], _ => exact ⟨t, u, rfl⟩
    simp [shpsL] at hl
    simp [AllRL] at hr
    have := pTwo_cmp hC (m := mAny) (m' := mAny) h0 hl.1 hl.2 hr.1 hr.2 rfl rfl hs hd hp
    show withN 0 _ = _
    rw [this, hsh.1]
    rfl
  · -- 4
    have e : numd (((4 : Nat)) : Int) = true := rfl
    rw [e] at hs hd hco hc hmore ⊢
    simp only [if_true] at hs hd hco hc hmore ⊢
    simp [shp, shpN] at hsh
    obtain ⟨hn0, rfl⟩ := hsh
    show pNum s 9223372036854775807 i _ = _
    have e1 : txtL [] true = [] := by rw [txtL]
    have e2 : ndL [] = 0 := by rw [ndL]
    rw [e1] at hs hd ⊢
    rw [e2]
    refine pNum_cmp hn0 (by have := hn.2; unfold Rng at hn; omega) hs (by simpa using hd) ?_
    simp
  · -- 5
    have e : numd (((5 : Nat)) : Int) = false := rfl
    rw [e] at hs hd hco hc hmore ⊢
    simp only [Bool.false_eq_true, if_false, List.nil_append] at hs hd hco hc hmore ⊢
    simp [shp, shpN] at hsh
    obtain ⟨t, u, rfl⟩ : ∃ t u, l = [t, u] := by
      match l, hsh.1.2 with
      | [t, u], _ => exact ⟨t, u, rfl⟩
    simp [shpsL] at hl
    simp [AllRL] at hr
    have := pTwo_cmp hC (m := mChan) (m' := mAny) h0 hl.1 hl.2 hr.1 hr.2 (by simpa [mChan, fstKd] using hsh.2) rfl hs hd hp
    show withN 0 _ = _
    rw [this, hsh.1.1]
    rfl
  · -- 6
    have e : numd (((6 : Nat)) : Int) = false := rfl
    rw [e] at hs hd hco hc hmore ⊢
    simp only [Bool.false_eq_true, if_false, List.nil_append] at hs hd hco hc hmore ⊢
    simp [shp, shpN] at hsh
    obtain ⟨t, rfl⟩ : ∃ t, l = [t] := by
      match l, hsh.1.2 with
      | [t], _ => exact ⟨t, rfl⟩
    simp [shpsL] at hl
    simp [AllRL] at hr
    have e1 : txtL [t] false = txt t := by simp [txtL]
    have e2 : ndL [t] = nd t := by simp [ndL]
    rw [e1] at hs hd ⊢
    rw [e2] at hp ⊢
    have := pOne_cmp hC (m := mChan) (l := []) h0 hl hr (by simpa [mChan, fstKd] using hsh.2) hs hd hp
    show withN 0 _ = _
    rw [this, hsh.1.1]
    rfl
  · -- 7
    have e : numd (((7 : Nat)) : Int) = false := rfl
    rw [e] at hs hd hco hc hmore ⊢
    simp only [Bool.false_eq_true, if_false, List.nil_append] at hs hd hco hc hmore ⊢
    simp [shp, shpN] at hsh
    obtain ⟨t, rfl⟩ : ∃ t, l = [t] := by
      match l, hsh.2 with
      | [t], _ => exact ⟨t, rfl⟩
    simp [shpsL] at hl
    simp [AllRL] at hr
    have e1 : txtL [t] false = txt t := by simp [txtL]
    have e2 : ndL [t] = nd t := by simp [ndL]
    rw [e1] at hs hd ⊢
    rw [e2] at hp ⊢
    have := pOne_cmp hC (m := mAny) (l := []) h0 hl hr rfl hs hd hp
    show withN 0 _ = _
    rw [this, hsh.1]
    rfl
  · -- 9
    have e : numd (((9 : Nat)) : Int) = false := rfl
    rw [e] at hs hd hco hc hmore ⊢
    simp only [Bool.false_eq_true, if_false, List.nil_append] at hs hd hco hc hmore ⊢
    simp [shp, shpN] at hsh
    obtain ⟨⟨hev, rfl⟩, hlen⟩ := hsh
    cases l with
    | nil =>
      rw [txtL] at hc ⊢
      rw [ndL]
      show (if isB s i 41 = true then _ else _) = _
      have hc2 : isB s i 41 = true := hc
      rw [if_pos hc2]
      rfl
    | cons t r =>
      have e1 : txtL (t :: r) false = txt t ++ txtL r true := by simp [txtL]
      rw [e1] at hs hd hmore ⊢
      rw [ndL] at hp ⊢
      simp [shpsL] at hl
      rw [AllRL] at hr
      obtain ⟨s1, s2⟩ := seg_split hs
      obtain ⟨c, q, g1, g2⟩ := txt_open (hev t (by simp))
      have hno := not_close g1 g2 s1
      have e3 : i + (txt t ++ txtL r true).length = i + (txt t).length + (txtL r true).length := by simp; omega
      show (if isB s i 41 = true then _ else _) = _
      rw [if_neg (by rw [hno]; simp), pOne_cmp hC (m := mEv) (l := []) h0 hl.1 hr.1 (hev t (by simp)) s1 (txtL_next s2 (by rw [← e3]; exact hd)) (by omega)]
      dsimp only
      rw [hmore (m := mEv) (c := 15) (i + (txt t).length) r _ (by simp at hlen; omega) hl.2 hr.2 (fun x hx => hev x (by simp [hx])) (p + nd t) (by omega) (by omega) e3.symm s2]
      show Except.ok _ = _
      rw [Nat.add_assoc]
      rfl
  · -- 10
    have e : numd (((10 : Nat)) : Int) = true := rfl
    rw [e] at hs hd hco hc hmore ⊢
    simp only [if_true] at hs hd hco hc hmore ⊢
    simp [shp, shpN] at hsh
    cases l with
    | nil => simp at hsh
    | cons t r =>
      have e1 : txtL (t :: r) true = [44] ++ (txt t ++ txtL r true) := by simp [txtL]
      rw [e1] at hs hd hmore ⊢
      rw [ndL] at hp ⊢
      simp [shpsL] at hl
      rw [AllRL] at hr
      obtain ⟨_, s2⟩ := seg_split hs
      obtain ⟨s3, s4⟩ := seg_split s2
      have hcomma := seg_byte (c := 44) s3
      simp only [List.length_singleton] at s4
      obtain ⟨s5, s6⟩ := seg_split s4
      have e3 : i + (Lib.itoa n ++ ([44] ++ (txt t ++ txtL r true))).length = i + (Lib.itoa n).length + 1 + (txt t).length + (txtL r true).length := by simp; omega
      show pNum s 63 i _ = _
      refine pNum_cmp (by omega) (by omega) hs (comma_not hcomma).1 ?_
      rw [if_pos (by simpa using hcomma), pOne_cmp hC (m := mEv) (l := []) h0 hl.1 hr.1 (by simpa [fstKd, mEv] using hsh.2) s5 (txtL_next s6 (by rw [← e3]; exact hd)) (by omega)]
      dsimp only
      rw [hmore (m := mAny) (c := 8) (i + (Lib.itoa n).length + 1 + (txt t).length) r _ (by simp at hsh; omega) hl.2 hr.2 (fun _ _ => rfl) (p + nd t) (by omega) (by omega) e3.symm s6]
      rw [Nat.add_assoc]
      rfl
  · -- 11
    have e : numd (((11 : Nat)) : Int) = true := rfl
    rw [e] at hs hd hco hc hmore ⊢
    simp only [if_true] at hs hd hco hc hmore ⊢
    simp [shp, shpN] at hsh
    show pNum s 63 i _ = _
    have hs2 := (seg_split hs).2
    have e3 : i + (Lib.itoa n ++ txtL l true).length = i + (Lib.itoa n).length + (txtL l true).length := by simp; omega
    refine pNum_cmp hsh.1.1 (by omega) hs (txtL_next hs2 (by rw [← e3]; exact hd)) ?_
    have := hmore (m := mAny) (c := 8) (i + (Lib.itoa n).length) l [] (by omega) hl hr (fun _ _ => rfl) p h0 hp e3.symm hs2
    simpa using this
  · -- 12
    have e : numd (((12 : Nat)) : Int) = true := rfl
    rw [e] at hs hd hco hc hmore ⊢
    simp only [if_true] at hs hd hco hc hmore ⊢
    simp [shp, shpN] at hsh
    show pNum s 63 i _ = _
    have hs2 := (seg_split hs).2
    have e3 : i + (Lib.itoa n ++ txtL l true).length = i + (Lib.itoa n).length + (txtL l true).length := by simp; omega
    refine pNum_cmp hsh.1.1 (by omega) hs (txtL_next hs2 (by rw [← e3]; exact hd)) ?_
    have := hmore (m := mAny) (c := 8) (i + (Lib.itoa n).length) l [] (by omega) hl hr (fun _ _ => rfl) p h0 hp e3.symm hs2
    simpa using this
  · -- 13
    have e : numd (((13 : Nat)) : Int) = true := rfl
    rw [e] at hs hd hco hc hmore ⊢
    simp only [if_true] at hs hd hco hc hmore ⊢
    simp [shp, shpN] at hsh
    obtain ⟨hn0, rfl⟩ := hsh
    show pNum s 9223372036854775807 i _ = _
    have e1 : txtL [] true = [] := by rw [txtL]
    have e2 : ndL [] = 0 := by rw [ndL]
    rw [e1] at hs hd ⊢
    rw [e2]
    refine pNum_cmp hn0 (by have := hn.2; unfold Rng at hn; omega) hs (by simpa using hd) ?_
    simp
end
end Go.Proofs.YtjldbbcdhdfliaaGreatDoor
/-
  The text of a value that may be is read as it: the whole. Plain.
-/
namespace Go.Proofs.YtjldbbcdhdfliaaGreatDoor
open Go.RowKit

theorem wdl_word : ∀ k : Fin 14, k.val ≠ 0 → k.val ≠ 2 → ∃ c r, wdl k.val = c :: r ∧ 97 ≤ c.toNat ∧ c.toNat ≤ 122 := by
  intro k h0 h2
  have : ∀ k : Fin 14, k.val ≠ 0 → k.val ≠ 2 → (match wdl k.val with | [] => false | c :: _ => decide (97 ≤ c.toNat) && decide (c.toNat ≤ 122)) = true := by decide
  have := this k h0 h2
  split at this
  · cases this
  · rename_i c r e; exact ⟨c, r, e, by simpa using this⟩
theorem seg_hd {s : ByteArray} {i : Nat} {a : List UInt8} {c : UInt8} {r : List UInt8} (ha : a = c :: r) (h : seg s i (i + a.length) = a) : bt s i = (c.toNat : Int) := by
  subst ha
  have := seg_byte (c := c) (seg_split (a := [c]) (b := r) h).1
  unfold isB at this
  simpa using this
theorem integer_cmp {s : ByteArray} {i p : Nat} {n : Int} (hn : Rng n) (h1 : seg s i (i + (Lib.itoa n).length) = Lib.itoa n) (h2 : dig s (i + (Lib.itoa n).length) = false) : (isB s i 45 || dig s i) = true ∧ integer s i p = .ok (.mk 2 n [], i + (Lib.itoa n).length, p) := by
  unfold Rng at hn
  rcases Int.lt_or_le n 0 with h0 | h0
  · have e : Lib.itoa n = [45] ++ Lib.decDigits (-n).toNat := by unfold Lib.itoa; rw [if_pos h0, show n.natAbs = (-n).toNat from by omega]; rfl
    rw [e] at h1 h2 ⊢
    obtain ⟨a1, a2⟩ := seg_split h1
    have hm := seg_byte (c := 45) a1
    have hm2 : isB s i 45 = true := by simpa using hm
    simp only [List.length_singleton] at a2
    have e2 : i + ([45] ++ Lib.decDigits (-n).toNat).length = i + 1 + (Lib.decDigits (-n).toNat).length := by simp; omega
    rw [e2] at h2 ⊢
    refine ⟨by rw [hm2]; rfl, ?_⟩
    obtain ⟨d, ds, g1, g2, g3⟩ := dec_head (-n).toNat (by omega)
    have hb := seg_hd g3 a2
    have hz : isB s (i + 1) 48 = false := by
      unfold isB
      rw [hb, UInt8.toNat_ofNat']
      simp
      omega
    unfold integer
    rw [if_pos hm2, if_neg (by rw [hz]; simp), num_cmp (by omega) a2 h2]
    dsimp only
    rw [show -(((-n).toNat : Nat) : Int) = n from by omega]
  · rw [itoa_pos h0] at h1 h2 ⊢
    have hdig : dig s i = true := by
      rcases Nat.eq_zero_or_pos n.toNat with hz | hz
      · rw [hz, Lib.decDigits_one (by omega)] at h1
        have := seg_hd rfl h1
        unfold dig
        rw [this]
        rfl
      · obtain ⟨d, ds, g1, g2, g3⟩ := dec_head n.toNat hz
        have hb := seg_hd g3 h1
        unfold dig
        rw [hb, UInt8.toNat_ofNat']
        simp
        omega
    have hm : isB s i 45 = false := by
      have := dig_bt hdig
      unfold isB
      simp
      omega
    refine ⟨by rw [hdig]; simp, ?_⟩
    unfold integer
    rw [if_neg (by rw [hm]; simp), num_cmp (by omega) h1 h2]
    dsimp only
    rw [Int.toNat_of_nonneg h0]
theorem nd_pos (t : VT) : 1 ≤ nd t := by cases t; rw [nd]; omega
theorem pVal_cmp (s : ByteArray) : ∀ f p0, 256 ≤ p0 + f → CmpR s (pVal s f) p0 := by
  intro f
  induction f with
  | zero =>
    intro p0 h0 m i p t h1 _ _ _ _ _ h7
    have := nd_pos t
    omega
  | succ f ih =>
    intro p0 h0 m i p t h1 hsh hr hm hs hd hp
    have hC := ih (p0 + 1) (by omega)
    have hpos := nd_pos t
    obtain ⟨k, n, l⟩ := t
    rw [shps, Bool.and_eq_true] at hsh
    rw [AllR] at hr
    obtain ⟨hk1, hk13⟩ := shp_kind hsh.1
    obtain ⟨k, rfl⟩ : ∃ k' : Nat, k = (k' : Int) := ⟨k.toNat, by omega⟩
    have hm' : m k = true := hm
    rw [pVal, if_neg (by omega)]
    by_cases h2 : k = 2
    · subst h2
      have hl : l = [] := by
        have := hsh.1
        simp [shp, shpN] at this
        exact this
      subst hl
      have e : txt (.mk ((2 : Nat) : Int) n []) = Lib.itoa n := by rw [txt, if_pos (by rfl)]
      have e2 : nd (.mk ((2 : Nat) : Int) n []) = 1 := by rw [nd, ndL]
      rw [e] at hs hd ⊢
      rw [e2]
      obtain ⟨g1, g2⟩ := integer_cmp (p := p + 1) hr.2.1 hs hd
      have hm2 : m 2 = true := hm'
      rw [if_pos g1, if_pos hm2, g2]
      rfl
    · obtain ⟨c, r, w1, w2, w3⟩ := wdl_word ⟨k, by omega⟩ (by show k ≠ 0; omega) h2
      have w1 : wdl k = c :: r := w1
      have e : txt (.mk (k : Int) n l) = wdl k ++ (if (k : Int) = 1 ∨ (k : Int) = 8 then [] else 40 :: ((if numd k then Lib.itoa n else []) ++ (txtL l (numd k) ++ [41]))) := by
        rw [txt, if_neg (by omega)]
        rfl
      rw [e] at hs hd ⊢
      obtain ⟨s1, s2⟩ := seg_split hs
      have hb := seg_hd w1 s1
      have hno : (isB s i 45 || dig s i) = false := by
        unfold isB dig
        rw [hb]
        simp
        omega
      rw [if_neg (by rw [hno]; simp), word_cmp (by omega) hm' (by rw [w1]; simp) s1]
      dsimp only
      by_cases h18 : k = 1 ∨ k = 8
      · rw [if_pos h18, if_pos (by omega)]
        have hnl : n = 0 ∧ l = [] := by
          have := hsh.1
          rcases h18 with rfl | rfl <;> simpa [shp, shpN] using this
        obtain ⟨rfl, rfl⟩ := hnl
        rw [nd, ndL]
        simp
      · rw [if_neg h18]
        rw [if_neg (show ¬ ((k : Int) = 1 ∨ (k : Int) = 8) by omega)] at s2 hd ⊢
        rw [show (40 : UInt8) :: ((if numd k then Lib.itoa n else []) ++ (txtL l (numd k) ++ [41])) = [40] ++ (((if numd k then Lib.itoa n else []) ++ txtL l (numd k)) ++ [41]) from by simp] at s2 hd ⊢
        obtain ⟨s3, s4⟩ := seg_split s2
        obtain ⟨s5, s6⟩ := seg_split s4
        have ho := seg_byte (c := 40) s3
        have hcl := seg_byte (c := 41) s6
        simp only [List.length_singleton] at s5 s6 hcl
        rw [nd] at hp ⊢
        rw [if_pos (by simpa using ho), pList_cmp hC (by omega) hr.2.1 hsh.1 hsh.2 hr.2.2 (by omega) h2 (by omega) s5 (by simpa using hcl) (by omega)]
        dsimp only
        rw [if_pos (by simpa using hcl)]
        simp
        omega
/-- Parse reads a value's text as that value. -/
theorem parse_txt {t : VT} (h : right t = true) (hr : AllR t) : parse ⟨(txt t).toArray⟩ = .ok t := by
  unfold right at h
  rw [small_nd, Bool.and_eq_true, decide_eq_true_eq] at h
  have hsz : (⟨(txt t).toArray⟩ : ByteArray).size = (txt t).length := by simp [ByteArray.size]
  have hseg : seg ⟨(txt t).toArray⟩ 0 (0 + (txt t).length) = txt t := by unfold seg; simp
  have hd : dig ⟨(txt t).toArray⟩ (0 + (txt t).length) = false := by
    cases hx : dig ⟨(txt t).toArray⟩ (0 + (txt t).length) with
    | false => rfl
    | true => have := dig_lt hx; rw [hsz] at this; omega
  have := pVal_cmp ⟨(txt t).toArray⟩ 256 0 (by omega) mAny 0 0 t (Nat.le_refl _) h.2 hr rfl hseg hd (by omega)
  unfold parse
  rw [this]
  dsimp only
  rw [if_neg (by rw [hsz]; omega)]
/-- Two values that may be with one text are one. -/
theorem txt_inj {t u : VT} (ht : right t = true) (hu : right u = true) (h1 : AllR t) (h2 : AllR u) (h : txt t = txt u) : t = u := by
  have a := parse_txt ht h1
  have b := parse_txt hu h2
  rw [h, b] at a
  injection a with a
  exact a.symm
end Go.Proofs.YtjldbbcdhdfliaaGreatDoor
/-
  An error's place lies within the text; the texts ahead of it; two right values are the same just where their texts are. Plain.
-/
namespace Go.Proofs.YtjldbbcdhdfliaaGreatDoor
open Go.RowKit

theorem numGo_err {s : ByteArray} {most : Nat} : ∀ (f j m k : Nat), numGo s most f j m = .error k → k < s.size
  | 0, j, m, k, h => by rw [numGo] at h; cases h
  | f + 1, j, m, k, h => by
    rw [numGo] at h
    split at h
    · rename_i hd
      dsimp only at h
      split at h
      · injection h with h
        subst h
        exact dig_lt hd
      · split at h
        · cases h
        · exact numGo_err f _ _ k h
    · cases h
theorem num_err {s : ByteArray} {most i k : Nat} (hi : i ≤ s.size) (h : num s most i = .error k) : k ≤ s.size := by
  unfold num at h
  split at h
  · exact Nat.le_of_lt (numGo_err _ _ _ _ h)
  · injection h with h
    omega
theorem wordGo_err {s : ByteArray} {st : Nat} {m : Int → Bool} : ∀ (f n k : Nat), st + n ≤ s.size → wordGo s st m f n = .error k → k ≤ s.size
  | 0, n, k, hn, h => by
    rw [wordGo] at h
    injection h with h
    omega
  | f + 1, n, k, hn, h => by
    rw [wordGo] at h
    split at h
    · injection h with h
      omega
    · rename_i k2 he
      have h1 := findC_some he
      have h2 := cand_lt h1.1
      split at h
      · cases h
      · exact wordGo_err f (n + 1) k (by omega) h
def Errs (s : ByteArray) (rec : Rec) : Prop := ∀ m i p j, i ≤ s.size → p ≤ 256 → rec m i p = .error j → j ≤ s.size
section
variable {s : ByteArray} {rec : Rec} (hg : Goes s rec) (hr : Errs s rec)
include hr
theorem pOne_err {m : Int → Bool} {l : List VT} {i p j : Nat} (hi : i ≤ s.size) (hp : p ≤ 256) (h : pOne rec m l i p = .error j) : j ≤ s.size := by
  unfold pOne at h
  split at h
  · rename_i j' he
    injection h with h
    subst h
    exact hr m i p _ hi hp he
  · cases h
include hg
theorem pMore_err {m : Int → Bool} : ∀ (c : Nat) {l : List VT} {i p j : Nat}, i ≤ s.size → p ≤ 256 → pMore s rec m c l i p = .error j → j ≤ s.size
  | 0, l, i, p, j, hi, hp, h => by rw [pMore] at h; cases h
  | c + 1, l, i, p, j, hi, hp, h => by
    rw [pMore] at h
    split at h
    · rename_i hb
      have hlt := isB_lt (by omega) hb
      split at h
      · rename_i j' he
        injection h with h
        subst h
        exact pOne_err hr (by omega) hp he
      · rename_i l2 i2 p2 he
        have h1 := pOne_goes hg (by omega) hp he
        exact pMore_err c (by omega) (by omega) h
    · cases h
theorem pTwo_err {m m' : Int → Bool} {i p j : Nat} (hi : i ≤ s.size) (hp : p ≤ 256) (h : pTwo s rec m m' i p = .error j) : j ≤ s.size := by
  unfold pTwo at h
  split at h
  · rename_i j' he
    injection h with h
    subst h
    exact pOne_err hr hi hp he
  · rename_i l2 i2 p2 he
    have h1 := pOne_goes hg hi hp he
    split at h
    · rename_i hb
      have hlt := isB_lt (by omega) hb
      exact pOne_err hr (by omega) (by omega) h
    · injection h with h
      omega
omit hr hg in
theorem withN_err {n : Int} {r : Except Nat (List VT × Nat × Nat)} {j : Nat} (h : withN n r = .error j) : r = .error j := by
  unfold withN at h
  split at h
  · injection h with h
    rw [h]
  · cases h
omit hr hg in
theorem pNum_err {most i : Nat} {rest : Nat → Except Nat (List VT × Nat × Nat)} {j : Nat} (hi : i ≤ s.size) (h9 : 9 ≤ most) (hrest : ∀ i', i' ≤ s.size → rest i' = .error j → j ≤ s.size) (h : pNum s most i rest = .error j) : j ≤ s.size := by
  unfold pNum at h
  split at h
  · rename_i j' he
    injection h with h
    subst h
    exact num_err hi he
  · rename_i n i2 he
    have := num_ok he hi h9
    exact hrest i2 (by omega) (withN_err h)
theorem pList_err {k i p j : Nat} (hi : i ≤ s.size) (hp : p ≤ 256) (h : pList s rec k i p = .error j) : j ≤ s.size := by
  unfold pList at h
  split at h
  · exact pTwo_err hg hr hi hp (withN_err h)
  · exact pNum_err hi (by omega) (fun _ _ h => by cases h) h
  · exact pNum_err hi (by omega) (fun _ _ h => by cases h) h
  · exact pTwo_err hg hr hi hp (withN_err h)
  · exact pOne_err hr hi hp (withN_err h)
  · exact pOne_err hr hi hp (withN_err h)
  · split at h
    · cases h
    · split at h
      · rename_i j' he
        injection h with h
        subst h
        exact pOne_err hr hi hp he
      · rename_i l2 i2 p2 he
        have h1 := pOne_goes hg hi hp he
        exact pMore_err hg hr 15 (by omega) (by omega) (withN_err h)
  · refine pNum_err hi (by omega) (fun i' hi' h9 => ?_) h
    split at h9
    · rename_i hb
      have hlt := isB_lt (by omega) hb
      split at h9
      · rename_i j' he
        injection h9 with h9
        subst h9
        exact pOne_err hr (by omega) hp he
      · rename_i l2 i3 p3 he
        have h1 := pOne_goes hg (by omega) hp he
        exact pMore_err hg hr 8 (by omega) (by omega) h9
    · injection h9 with h9
      omega
  · exact pNum_err hi (by omega) (fun i' hi' h9 => pMore_err hg hr 8 (by omega) (by omega) h9) h
  · exact pNum_err hi (by omega) (fun i' hi' h9 => pMore_err hg hr 8 (by omega) (by omega) h9) h
  · cases h
end
theorem pVal_err (s : ByteArray) : ∀ f, Errs s (pVal s f)
  | 0, m, i, p, j, hi, hp, h => by
    rw [pVal] at h
    injection h with h
    omega
  | f + 1, m, i, p, j, hi, hp, h => by
    rw [pVal] at h
    split at h
    · injection h with h
      omega
    · split at h
      · rename_i hb
        have hlt : i < s.size := by
          simp only [Bool.or_eq_true] at hb
          rcases hb with hb | hb
          · exact isB_lt (by omega) hb
          · exact dig_lt hb
        split at h
        · unfold integer at h
          split at h
          · split at h
            · injection h with h
              omega
            · split at h
              · rename_i j' he
                injection h with h
                subst h
                exact num_err (by omega) he
              · cases h
          · split at h
            · rename_i j' he
              injection h with h
              subst h
              exact num_err (by omega) he
            · cases h
        · injection h with h
          omega
      · split at h
        · rename_i j' he
          injection h with h
          subst h
          exact wordGo_err 7 0 _ (by omega) he
        · rename_i k j2 he
          have hw := word_goes he
          split at h
          · cases h
          · split at h
            · rename_i hb
              have hlt := isB_lt (by omega) hb
              split at h
              · rename_i j' hl
                injection h with h
                subst h
                exact pList_err (pVal_goes s f) (pVal_err s f) (by omega) (by omega) hl
              · rename_i n l j' p2 hl
                have h1 := pList_goes (pVal_goes s f) (by omega) (by omega) hl
                split at h
                · cases h
                · injection h with h
                  omega
            · injection h with h
              omega
/-- An error's place lies within the text, or at its end. -/
theorem parse_le {s : ByteArray} {j : Nat} (h : parse s = .error j) : j ≤ s.size := by
  unfold parse at h
  split at h
  · rename_i j' he
    injection h with h
    subst h
    exact pVal_err s 256 mAny 0 0 _ (by omega) (by omega) he
  · split at h
    · injection h with h
      omega
    · cases h
/-- What stands ahead of a wrong place is wrong at its end, if at all; whatever follows it, no place ahead of that is wrong. -/
theorem parse_ahead {s x : ByteArray} {at_ m : Nat} (h : parse s = .error at_) (hx : Alike s x at_) (h' : parse x = .error m) : at_ ≤ m :=
  parse_loc hx h (parse_le h) (Nat.le_refl _) h'
mutual
theorem eqT_eq : ∀ {t u : VT}, eqT t u = true → t = u
  | .mk k n l, .mk k' n' l', h => by
    rw [eqT] at h
    simp only [Bool.and_eq_true, decide_eq_true_eq] at h
    obtain ⟨⟨⟨h1, h2⟩, h3⟩, h4⟩ := h
    subst h1 h2
    rw [eqL_eq h3 h4]
theorem eqL_eq : ∀ {l l' : List VT}, l.length = l'.length → eqL l l' = true → l = l'
  | [], [], _, _ => rfl
  | [], _ :: _, hl, _ => by simp at hl
  | _ :: _, [], hl, _ => by simp at hl
  | t :: r, t' :: r', hl, h => by
    rw [eqL] at h
    simp only [Bool.and_eq_true] at h
    rw [eqT_eq h.1, eqL_eq (by simpa using hl) h.2]
end
/-- Two right values are the same just where their texts are. -/
theorem same_txt {t u : VT} (ht : right t = true) (hu : right u = true) (h1 : AllR t) (h2 : AllR u) : (decide (txt t = txt u)) = (small t && small u && eqT t u) := by
  have st : small t = true := by unfold right at ht; simp at ht; exact ht.1
  have su : small u = true := by unfold right at hu; simp at hu; exact hu.1
  rw [st, su, Bool.eq_iff_iff]
  simp only [decide_eq_true_eq, Bool.and_self, Bool.true_and]
  constructor
  · intro h
    rw [txt_inj ht hu h1 h2 h]
    exact eqT_refl u
  · intro h
    rw [eqT_eq h]
end Go.Proofs.YtjldbbcdhdfliaaGreatDoor
