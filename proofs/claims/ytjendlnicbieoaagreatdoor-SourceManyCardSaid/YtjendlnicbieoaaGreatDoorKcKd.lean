/-
  SourceBounds' texts: what they are read as. Plain, no walk.
-/
import Derived.Test.YtjendlnicbieoaaGreatDoorPlC
import Derived.Test.YtjendlnicbieoaaGreatDoorKaKb
namespace Go.Proofs.YtjendlnicbieoaaGreatDoor

/-- 'fun a() = ' -/
def hdA : Bs := [102, 117, 110, 32, 97, 40, 41, 32, 61, 32]
def wFirst : Bs := [102, 105, 114, 115, 116]
def repB (n : Nat) (u : Bs) : Bs := (List.replicate n u).flatten
def bd_s1 (m : Nat) : Bs := [102, 117, 110, 32, 97, 40, 41, 32, 61, 32, 49] ++ List.replicate m 32
def bd_t (k lines : Nat) : Bs := hdA ++ repB k (wFirst ++ [40]) ++ List.replicate lines 10 ++ [49] ++ List.replicate k 41
theorem lex_sps (l : Bs) (n : Nat) : ∀ m, lex (List.replicate m 32 ++ l) n = lex l n
  | 0 => rfl
  | m + 1 => by rw [List.replicate_succ, List.cons_append, lex_sp, lex_sps l n m]
theorem lex_nls (l : Bs) : ∀ (m n : Nat), lex (List.replicate m 10 ++ l) n = lex l (n + m)
  | 0, n => rfl
  | m + 1, n => by rw [List.replicate_succ, List.cons_append, lex_nl, lex_nls l m (n + 1), show n + 1 + m = n + (m + 1) by omega]
theorem lex_cps (l : Bs) (n : Nat) : ∀ m, lex (List.replicate m 41 ++ l) n = List.replicate m ⟨4, [41], n⟩ ++ lex l n
  | 0 => rfl
  | m + 1 => by rw [List.replicate_succ, List.cons_append, lex_mark (.inr (.inl rfl)), lex_cps l n m]; rfl
/-- 'first(' so often. -/
def firT : Nat → List Tk
  | 0 => []
  | k + 1 => ⟨2, wFirst, 0⟩ :: ⟨4, [40], 0⟩ :: firT k
theorem lex_firs (l : Bs) : ∀ k, lex (repB k (wFirst ++ [40]) ++ l) 0 = firT k ++ lex l 0
  | 0 => rfl
  | k + 1 => by
    have h : repB (k + 1) (wFirst ++ [40]) ++ l = 102 :: ([105, 114, 115, 116] ++ 40 :: (repB k (wFirst ++ [40]) ++ l)) := by simp [repB, List.replicate_succ, wFirst]
    rw [h, lex_word (by decide) (by decide) (by decide) (by intro c hc; injection hc with hc; rw [← hc]; decide), lex_mark (.inl rfl), lex_firs l k]
    rfl
def hdT : List Tk := [⟨2, [102, 117, 110], 0⟩, ⟨2, [97], 0⟩, ⟨4, [40], 0⟩, ⟨4, [41], 0⟩, ⟨4, [61], 0⟩]
theorem lex_hd (l : Bs) : lex (hdA ++ l) 0 = hdT ++ lex l 0 := by
  show lex (102 :: ([117, 110] ++ 32 :: (97 :: ([] ++ (40 :: 41 :: 32 :: 61 :: 32 :: l))))) 0 = _
  rw [lex_word (by decide) (by decide) (by decide) (by intro c hc; injection hc with hc; rw [← hc]; decide), lex_sp, lex_word (by decide) (by decide) (by decide) (by intro c hc; injection hc with hc; rw [← hc]; decide),
    lex_mark (.inl rfl), lex_mark (.inr (.inl rfl)), lex_sp, lex_mark (.inr (.inr (.inr rfl))), lex_sp]
  rfl
theorem lex_one {l : Bs} {n : Nat} (h : sepS l) : lex (49 :: l) n = ⟨3, [49], n⟩ :: lex l n := by
  have h1 : Lib.itoa 1 = [49] := by kernel_rfl
  have := lex_num (v := 1) (l := l) (n := n) ⟨by decide, by decide⟩ h
  rw [h1] at this
  exact this
theorem sep_rep (c : UInt8) (hc : isAn c = false) : ∀ m, sepS (List.replicate m c)
  | 0 => by intro d hd; simp at hd
  | m + 1 => by intro d hd; rw [List.replicate_succ] at hd; injection hd with hd; rw [← hd]; exact hc
theorem lex_s1 (m : Nat) : lex (bd_s1 m) 0 = hdT ++ [⟨3, [49], 0⟩, ⟨0, [], 0⟩] := by
  have h : bd_s1 m = hdA ++ (49 :: (List.replicate m 32 ++ [])) := by simp [bd_s1, hdA]
  rw [h, lex_hd, List.append_nil, lex_one (sep_rep 32 (by decide) m)]
  have := lex_sps [] 0 m
  rw [List.append_nil] at this
  rw [this, lex_nil]
theorem srcP_lex (s : Bs) (h : s.length ≤ 1048576) : srcP s = match sub (pFuns (s.length + 2) (s.length + 2) ⟨[], [], []⟩ (lex s 0)) fun p => sub (resol p.names p.uses (p.fns.map fnOf)) fun fs => .ok (p.names, fs) with
  | .error n => .wrong n
  | .ok x => if okP x.2 = true then .ok x.2 x.1 else .bad := by
  unfold srcP
  rw [if_neg (by omega)]
  rfl
/-- The text of about a megabyte. -/
theorem src_s1 (m : Nat) (h : m ≤ 1048565) : srcP (bd_s1 m) = .ok [⟨0, [⟨1, 1, []⟩]⟩] [[97]] := by
  have hl : (bd_s1 m).length = m + 11 := by simp [bd_s1]
  rw [srcP_lex _ (by omega), lex_s1, hl]
  rfl
theorem src_long {s : Bs} (h : 1048576 < s.length) : srcP s = .long := by
  unfold srcP
  rw [if_pos h]
/-- A number beneath so many others. -/
def chF : Nat → Nat → Fo
  | 0, a => .cons a 1 1 .nil .nil
  | k + 1, a => .cons a 11 0 (chF k (a + 1)) .nil
theorem chF_size : ∀ k a, sizeF (chF k a) = k + 1
  | 0, _ => rfl
  | k + 1, a => by rw [chF, sizeF, chF_size k]; simp [sizeF]; omega
theorem chF_cnt : ∀ k a, cntF (chF k a) = 1
  | 0, _ => rfl
  | _ + 1, _ => rfl
theorem chF_wf : ∀ k a (lt : Bool) , wfF lt 0 0 (chF k a)
  | 0, a, lt => by
    refine ⟨⟨rfl, rfl, ?_, ⟨by decide, by decide⟩, trivial⟩, trivial⟩
    cases lt <;> decide
  | k + 1, a, lt => by
    have hd : depK lt 0 0 = 0 := by cases lt <;> rfl
    refine ⟨⟨?_, ?_, ?_, ⟨by decide, by decide⟩, ?_⟩, trivial⟩
    · rw [chF_cnt]; rfl
    · rw [hd]; rfl
    · rw [hd]; decide
    · rw [hd]; exact chF_wf k (a + 1) _
/-- What such an expression is read as. -/
theorem pE_ch {lines : Nat} {R : List Tk} (hR : R ≠ []) : ∀ (k a f : Nat), k < f → a + k ≤ 199 → pE 0 f [] a (firT k ++ ⟨3, [49], lines⟩ :: (List.replicate k ⟨4, [41], lines⟩ ++ R)) = .ok (chF k a, [], R)
  | 0, a, 0, h, _ => by omega
  | k + 1, a, 0, h, _ => by omega
  | 0, a, f + 1, _, ha => by
    rw [pE, if_neg (by omega)]
    show pNode _ _ _ _ _ (⟨3, [49], lines⟩ :: R) = _
    obtain ⟨x, r, rfl⟩ := List.exists_cons_of_ne_nil hR
    have hi : intD [49] = some 1 := by kernel_rfl
    unfold pNode
    rw [if_pos (show (hd (⟨3, [49], lines⟩ :: x :: r)).k = 3 from rfl), show (hd (⟨3, [49], lines⟩ :: x :: r)).s = [49] from rfl, hi]
    rfl
  | k + 1, a, f + 1, h, ha => by
    have ih := pE_ch (lines := lines) (R := ⟨4, [41], lines⟩ :: R) (by simp) k (a + 1) f (by omega) (by omega)
    rw [pE, if_neg (by omega)]
    have e : firT (k + 1) ++ ⟨3, [49], lines⟩ :: (List.replicate (k + 1) ⟨4, [41], lines⟩ ++ R) = ⟨2, wFirst, 0⟩ :: ⟨4, [40], 0⟩ :: (firT k ++ ⟨3, [49], lines⟩ :: (List.replicate k ⟨4, [41], lines⟩ ++ ⟨4, [41], lines⟩ :: R)) := by
      rw [List.replicate_succ', List.append_assoc]
      rfl
    rw [e]
    generalize hX : firT k ++ ⟨3, [49], lines⟩ :: (List.replicate k ⟨4, [41], lines⟩ ++ ⟨4, [41], lines⟩ :: R) = X at ih
    obtain ⟨y, X', rfl⟩ : ∃ y X', X = y :: X' := by
      rw [← hX]
      cases k with
      | zero => exact ⟨_, _, rfl⟩
      | succ k => exact ⟨_, _, rfl⟩
    obtain ⟨x, r, rfl⟩ := List.exists_cons_of_ne_nil hR
    have hk : kwOf wFirst = some (11, 4) := by kernel_rfl
    unfold pNode
    rw [if_neg (show ¬ (hd (⟨2, wFirst, 0⟩ :: ⟨4, [40], 0⟩ :: y :: X')).k = 3 by show ¬ (2 = 3); decide), if_neg (show ¬ (hd (⟨2, wFirst, 0⟩ :: ⟨4, [40], 0⟩ :: y :: X')).k ≠ 2 by show ¬ (2 ≠ 2); decide), show (hd (⟨2, wFirst, 0⟩ :: ⟨4, [40], 0⟩ :: y :: X')).s = wFirst from rfl, hk]
    show pOne (pE 0 f []) a 11 (⟨4, [40], 0⟩ :: y :: X') = _
    unfold pOne need
    rw [if_pos (show isM 40 (⟨4, [40], 0⟩ :: y :: X') = true from rfl)]
    show sub (pE 0 f [] (a + 1) (y :: X')) _ = _
    rw [ih]
    rfl
/-- Too many of them. -/
theorem pE_many {lines : Nat} {R : List Tk} : ∀ (k a f : Nat), k < f → a ≤ 200 → 200 ≤ a + k → pE 0 f [] a (firT k ++ ⟨3, [49], lines⟩ :: R) = .error (if a + k = 200 then lines else 0)
  | 0, a, 0, h, _, _ => by omega
  | k + 1, a, 0, h, _, _ => by omega
  | 0, a, f + 1, _, h1, h2 => by
    rw [pE, if_pos (by omega), if_pos (by omega)]
    rfl
  | k + 1, a, f + 1, h, h1, h2 => by
    by_cases ha : 200 ≤ a
    · rw [pE, if_pos ha, if_neg (by omega)]
      rfl
    · have ih := pE_many (lines := lines) (R := R) k (a + 1) f (by omega) (by omega) (by omega)
      rw [pE, if_neg ha]
      have e : firT (k + 1) ++ ⟨3, [49], lines⟩ :: R = ⟨2, wFirst, 0⟩ :: ⟨4, [40], 0⟩ :: (firT k ++ ⟨3, [49], lines⟩ :: R) := rfl
      rw [e]
      generalize hX : firT k ++ ⟨3, [49], lines⟩ :: R = X at ih
      obtain ⟨y, X', rfl⟩ : ∃ y X', X = y :: X' := by
        rw [← hX]
        cases k with
        | zero => exact ⟨_, _, rfl⟩
        | succ k => exact ⟨_, _, rfl⟩
      have hk : kwOf wFirst = some (11, 4) := by kernel_rfl
      unfold pNode
      rw [if_neg (show ¬ (hd (⟨2, wFirst, 0⟩ :: ⟨4, [40], 0⟩ :: y :: X')).k = 3 by show ¬ (2 = 3); decide), if_neg (show ¬ (hd (⟨2, wFirst, 0⟩ :: ⟨4, [40], 0⟩ :: y :: X')).k ≠ 2 by show ¬ (2 ≠ 2); decide), show (hd (⟨2, wFirst, 0⟩ :: ⟨4, [40], 0⟩ :: y :: X')).s = wFirst from rfl, hk]
      show pOne (pE 0 f []) a 11 (⟨4, [40], 0⟩ :: y :: X') = _
      unfold pOne need
      rw [if_pos (show isM 40 (⟨4, [40], 0⟩ :: y :: X') = true from rfl)]
      show sub (pE 0 f [] (a + 1) (y :: X')) _ = _
      rw [ih, show a + 1 + k = a + (k + 1) by omega]
      rfl
theorem lex_t (k lines : Nat) : lex (bd_t k lines) 0 = hdT ++ (firT k ++ ⟨3, [49], lines⟩ :: (List.replicate k ⟨4, [41], lines⟩ ++ [⟨0, [], lines⟩])) := by
  have h : bd_t k lines = hdA ++ (repB k (wFirst ++ [40]) ++ (List.replicate lines 10 ++ (49 :: (List.replicate k 41)))) := by simp [bd_t]
  have h2 := lex_cps [] lines k
  rw [List.append_nil] at h2
  rw [h, lex_hd, lex_firs, lex_nls, lex_one (sep_rep 41 (by decide) k), Nat.zero_add, h2, lex_nil]
theorem bd_len (k lines : Nat) : (bd_t k lines).length = 11 + 7 * k + lines := by
  have h : ∀ k, (repB k (wFirst ++ [40])).length = 6 * k := by
    intro k
    induction k with
    | zero => rfl
    | succ k ih => unfold repB at ih ⊢; rw [List.replicate_succ, List.flatten_cons, List.length_append, ih]; simp [wFirst]; omega
  simp [bd_t, h, hdA]
  omega
/-- Two texts are the same program as far as the expression. -/
theorem pFuns_hd (g f : Nat) (T : List Tk) (hT : T ≠ []) : pFuns g (f + 1) ⟨[], [], []⟩ (hdT ++ T) = sub (pE 0 g [] 0 T) fun y => pFuns g f ⟨[[97]], [(0, y.1)], [] ++ y.2.1⟩ y.2.2 := by
  obtain ⟨x, r, rfl⟩ := List.exists_cons_of_ne_nil hT
  rw [pFuns, if_neg (show ¬ (hd (hdT ++ x :: r)).k = 0 by show ¬ (2 = 0); decide)]
  have e : pFun g ⟨[], [], []⟩ (hdT ++ x :: r) = sub (pE 0 g [] 0 (x :: r)) fun y => .ok (⟨[[97]], [(0, y.1)], [] ++ y.2.1⟩, y.2.2) := by
    rfl
  rw [e]
  cases pE 0 g [] 0 (x :: r) <;> rfl
theorem src_t_ok (k lines : Nat) (hk : k ≤ 199) (hl : lines ≤ 1000) : ∃ ns, ns.length = k + 1 ∧ srcP (bd_t k lines) = .ok [⟨0, ns⟩] [[97]] := by
  have hlen := bd_len k lines
  refine ⟨flat 0 (chF k 0), by rw [flat_length, chF_size], ?_⟩
  rw [srcP_lex _ (by omega), lex_t, hlen, pFuns_hd _ _ _ (by cases k <;> simp [firT]), pE_ch (by simp) k 0 _ (by omega) (by omega)]
  have hf := okF_flat (t := chF k 0) (ps := 0) (by decide) (by decide) (chF_cnt k 0) (by rw [chF_size]; omega) (chF_wf k 0 false)
  have hn : ∀ k a, ∀ x ∈ flat a (chF k a), namesOp x.op = false := by
    intro k
    induction k with
    | zero => intro a x hx; simp [chF, flat] at hx; rw [hx]; rfl
    | succ k ih => intro a x hx; simp [chF, flat] at hx; rcases hx with hx | hx; (rw [hx]; rfl); exact ih _ x hx
  have hok : okP [⟨0, flat 0 (chF k 0)⟩] = true := by
    have h3 : (flat 0 (chF k 0)).all (nameOk [⟨0, flat 0 (chF k 0)⟩]) = true := by
      rw [List.all_eq_true]
      intro x hx
      unfold nameOk
      rw [hn k 0 x hx]
      rfl
    unfold okP
    simp [hf, h3]
  show (if okP [⟨0, flat 0 (chF k 0)⟩] = true then RdR.ok [⟨0, flat 0 (chF k 0)⟩] [[97]] else .bad) = _
  rw [if_pos hok]
theorem src_t_no (k lines : Nat) (hk : 200 ≤ k) (hk2 : k ≤ 100000) (hl : lines ≤ 1000) : srcP (bd_t k lines) = .wrong (if k = 200 then lines else 0) := by
  have hlen := bd_len k lines
  rw [srcP_lex _ (by omega), lex_t, hlen, pFuns_hd _ _ _ (by cases k <;> simp [firT]), pE_many k 0 _ (by omega) (by omega) (by omega), Nat.zero_add]
  rfl
end Go.Proofs.YtjendlnicbieoaaGreatDoor
/-
  Layer 9's statements: SourceBounds, for every input.
-/
namespace Go.Proofs.YtjendlnicbieoaaGreatDoor
open Go.RowKit Go.Sort
attribute [local go_sem] Oper.semAt_some

theorem toks_s2 (m : Nat) (h : m ≤ 1048575) : toksL ⟨(97 :: List.replicate m 32).toArray⟩ = [⟨2, [97], 0⟩] := by
  have hs : (⟨(97 :: List.replicate m 32).toArray⟩ : ByteArray).size = m + 1 := by simp [ByteArray.size]
  have hb : bs ⟨(97 :: List.replicate m 32).toArray⟩ 0 = 97 :: List.replicate m 32 := by simp [bs]
  unfold toksL lexG
  rw [if_neg (by omega), hb]
  have h1 := lex_word (c := 97) (u := []) (l := List.replicate m 32) (n := 0) (by decide) (by decide) (by decide) (sep_rep 32 (by decide) m)
  rw [List.nil_append] at h1
  have h2 := lex_sps [] 0 m
  rw [List.append_nil] at h2
  rw [h1, h2, lex_nil]
  rfl
theorem toks_long {s : ByteArray} (h : 1048576 < s.size) : toksL s = [] := by
  unfold toksL
  rw [if_pos h]
/-- So many copies of a text. -/
def rpB (u : ByteArray) (n : Int) : ByteArray := ⟨(Lib.repeatL u.data.toList n.toNat).toArray⟩
theorem repL_flat (l : Bs) : ∀ n, Lib.repeatL l n = repB n l
  | 0 => rfl
  | n + 1 => by rw [Lib.repeatL, repL_flat l n]; rfl
theorem repB_one (c : UInt8) : ∀ n, repB n [c] = List.replicate n c
  | 0 => rfl
  | n + 1 => by
    have := repB_one c n
    unfold repB at this ⊢
    rw [List.replicate_succ, List.flatten_cons, this]
    rfl
theorem rpB_size (u : ByteArray) (n : Int) : (rpB u n).size = n.toNat * u.size := by
  show (Lib.repeatL u.data.toList n.toNat).toArray.size = _
  rw [List.size_toArray, Lib.repeatL_length, Array.length_toList]
  rfl
theorem repS (u : ByteArray) (n : Int) (h0 : 0 ≤ n) (h1 : n ≤ 2000000) (hu : u.size ≤ 10) (w : World) : Calls Tryz.prog 19 #[.string u, .int .i64 n] w fun e w' => e = .returned (.string (rpB u n)) ∧ (rpB u n).size ≤ 20000000 ∧ Below w.heap.size w w' := by
  obtain ⟨c, rfl⟩ := Int.eq_ofNat_of_zero_le h0
  have hle : u.size * c ≤ 10 * 2000000 := Nat.mul_le_mul hu (by omega)
  refine (Tryz.strings_Repeat u c w (by omega) (by omega)).mono ?_
  rintro e w' ⟨rfl, hb⟩
  exact ⟨rfl, by rw [rpB_size, Int.toNat_natCast, Nat.mul_comm]; omega, hb⟩
theorem rpB_data (u : ByteArray) (n : Int) : (rpB u n).data.toList = repB n.toNat u.data.toList := by
  show (Lib.repeatL u.data.toList n.toNat).toArray.toList = _
  rw [repL_flat]
set_option maxRecDepth 100000 in
set_option maxHeartbeats 4000000 in
theorem sbounds_out (more many lines : Int) (hin : ¬ (-1 ≤ more ∧ more ≤ 1 ∧ 1 ≤ many ∧ many ≤ 300 ∧ 0 ≤ lines ∧ lines ≤ 20)) (w : World) (hE : EnvS w) :
    Calls Tryz.prog 6 #[.int .i64 more, .int .i64 many, .int .i64 lines] w fun e w' => e = .returned (.bool true) ∧ Below w.heap.size w w' := by
  have hw := works_any w hE
  have hc : decide (more < -1) = true ∨ (decide (more < -1) = false ∧ (decide (more > 1) = true ∨ (decide (more > 1) = false ∧ (decide (many < 1) = true ∨ (decide (many < 1) = false ∧ (decide (many > 300) = true ∨ (decide (many > 300) = false ∧ (decide (lines < 0) = true ∨ (decide (lines < 0) = false ∧ decide (lines > 20) = true))))))))) := by
    simp only [decide_eq_true_eq, decide_eq_false_iff_not]
    omega
  clear hin
  refine callsIn_wide.1 (callsIn_of_wp_marks (n := 4) Tryz.func6 rfl trivial ?_ rfl)
  simp only [Tryz.ntmps6, List.size_toArray, List.length_cons, List.length_nil, Nat.reduceAdd, Nat.reduceSub, Array.replicate_succ, Array.replicate_zero, List.push_toArray, List.append_toArray, List.nil_append, List.cons_append]
  refine wpIn_wide.2 ?_
  rcases hc with h1 | ⟨h1, h2 | ⟨h2, h3 | ⟨h3, h4 | ⟨h4, h5 | ⟨h5, h6⟩⟩⟩⟩⟩
  all_goals
    go_wp2_with (go_at_call 8; refine hw.mono ?_; rintro e w1 ⟨rfl, hb⟩)
    exact ⟨.bool true, by simp [results, Tryz.results6, go_sem], rfl, hb⟩
/-- Parse at a text whose reading is told. -/
theorem parseG (l : Bs) {r : RdR} (h : srcP l = r) (hl : l.length ≤ 4000000) (S : ByteArray) (hS : S.data.toList = l) (w : World) (hE : EnvS w) :
    Calls Tryz.prog 15 #[.string S] w fun e w' => ∃ pa pc, e = .returned (.tuple #[.agg #[.slice pa r.fs.length pc], .int .i64 (r.ln : Nat), .int .i64 (r.no : Nat)]) ∧ Below w.heap.size w w' ∧ PAt (fun g => w.heap.size ≤ g ∧ g < w'.heap.size) w' r.fs pa pc :=
  parseC S (by rw [hS]; exact h) (by rw [← hS] at hl; exact hl) rfl rfl rfl w hE
def bdS (more : Int) : Bs := bd_s1 (1048565 + more).toNat
theorem bdS_length (more : Int) : (bdS more).length = (1048565 + more).toNat + 11 := by simp [bdS, bd_s1]
theorem bdS_long {more : Int} (h : 0 < more) : srcP (bdS more) = .long := src_long (by rw [bdS_length]; omega)
theorem bdS_ok {more : Int} (h : more ≤ 0) : srcP (bdS more) = .ok [⟨0, [⟨1, 1, []⟩]⟩] [[97]] := src_s1 _ (by omega)
theorem bdS_data (more : Int) : ((⟨#[102, 117, 110, 32, 97, 40, 41, 32, 61, 32, 49]⟩ : ByteArray) ++ rpB ⟨#[32]⟩ (1048565 + more)).data.toList = bdS more := by
  rw [ByteArray.data_append, Array.toList_append, rpB_data]
  unfold bdS bd_s1
  rw [repB_one]
def bdU (more : Int) : ByteArray := (⟨#[97]⟩ : ByteArray) ++ rpB ⟨#[32]⟩ (1048575 + more)
theorem bdU_size (more : Int) : (bdU more).size = (1048575 + more).toNat + 1 := by
  unfold bdU
  rw [ByteArray.size_append, rpB_size, show (⟨#[97]⟩ : ByteArray).size = 1 from rfl, show (⟨#[32]⟩ : ByteArray).size = 1 from rfl]
  omega
theorem bdU_long {more : Int} (h : 0 < more) : toksL (bdU more) = [] := toks_long (by rw [bdU_size]; omega)
theorem bdU_ok {more : Int} (h : more ≤ 0) : toksL (bdU more) = [⟨2, [97], 0⟩] := by
  have e : bdU more = ⟨(97 :: List.replicate (1048575 + more).toNat 32).toArray⟩ := by
    have h2 : (bdU more).data.toList = 97 :: List.replicate (1048575 + more).toNat 32 := by
      unfold bdU
      rw [ByteArray.data_append, Array.toList_append, rpB_data, repB_one]
      rfl
    rw [← h2]
  rw [e]
  exact toks_s2 _ (by omega)
def bdT (many lines : Int) : Bs := bd_t (many - 1).toNat lines.toNat
theorem bdT_data (many lines : Int) : ((((⟨#[102, 117, 110, 32, 97, 40, 41, 32, 61, 32]⟩ : ByteArray) ++ rpB ⟨#[102, 105, 114, 115, 116, 40]⟩ (many - 1)) ++ rpB ⟨#[10]⟩ lines) ++ ⟨#[49]⟩ ++ rpB ⟨#[41]⟩ (many - 1)).data.toList = bdT many lines := by
  simp only [ByteArray.data_append, Array.toList_append, rpB_data]
  unfold bdT bd_t
  rw [repB_one, repB_one]
  rfl
theorem bdT_len {many lines : Int} (h4 : many ≤ 300) (h6 : lines ≤ 20) : (bdT many lines).length ≤ 4000000 := by
  unfold bdT
  rw [bd_len]
  omega
theorem bdT_ok {many lines : Int} (h3 : 1 ≤ many) (h4 : many ≤ 200) (h6 : lines ≤ 20) : ∃ ns, (ns.length : Int) = many ∧ srcP (bdT many lines) = .ok [⟨0, ns⟩] [[97]] := by
  obtain ⟨ns, h1, h2⟩ := src_t_ok (many - 1).toNat lines.toNat (by omega) (by omega)
  exact ⟨ns, by omega, h2⟩
theorem bdT_no {many lines : Int} (h3 : 200 < many) (h4 : many ≤ 300) (h6 : lines ≤ 20) : srcP (bdT many lines) = .wrong (if many = 201 then lines.toNat else 0) := by
  have h := src_t_no (many - 1).toNat lines.toNat (by omega) (by omega) (by omega)
  unfold bdT
  rw [h]
  by_cases e : many = 201
  · rw [if_pos e, if_pos (by omega)]
  · rw [if_neg e, if_neg (by omega)]
theorem PAt.lower {B : Nat} {w w' : World} {p : List Fn} {pa : Option Addr} {cap : Nat} (h : PAt (· < B) w p pa cap) (hb : Below B w w') : PAt (· < B) w' p pa cap :=
  ⟨h.fs.keep fun g hg o => hb.cell (p := ⟨g, o, none⟩) hg, h.le, h.cap⟩
set_option maxRecDepth 100000 in
set_option maxHeartbeats 8000000 in
theorem sbounds_in (more many lines : Int) (h1 : -1 ≤ more) (h2 : more ≤ 1) (h3 : 1 ≤ many) (h4 : many ≤ 300) (h5 : 0 ≤ lines) (h6 : lines ≤ 20) (w : World) (hE : EnvS w) :
    Calls Tryz.prog 6 #[.int .i64 more, .int .i64 many, .int .i64 lines] w fun e w' => e = .returned (.bool true) ∧ Below w.heap.size w w' := by
  have d1 : decide (more < -1) = false := by simp; omega
  have d2 : decide (more > 1) = false := by simp; omega
  have d3 : decide (many < 1) = false := by simp; omega
  have d4 : decide (many > 300) = false := by simp; omega
  have d5 : decide (lines < 0) = false := by simp; omega
  have d6 : decide (lines > 20) = false := by simp; omega
  have hR1 := repS ⟨#[32]⟩
  have hcase : ∃ (fs1 : List Fn) (n1 n2 : Nat) (no1 : Int), (∀ S : ByteArray, S.data.toList = bdS more → ∀ w, EnvS w → Calls Tryz.prog 15 #[.string S] w fun e w' => ∃ pa pc, e = .returned (.tuple #[.agg #[.slice pa n1 pc], .int .i64 0, .int .i64 no1]) ∧ Below w.heap.size w w' ∧ PAt (fun g => w.heap.size ≤ g ∧ g < w'.heap.size) w' fs1 pa pc) ∧
      (toksL (bdU more)).length = n2 ∧ fs1.length = n1 ∧ ((decide (more > 0) = true ∧ decide (more ≤ 0) = false ∧ no1 = 3 ∧ n2 = 0) ∨ (decide (more > 0) = false ∧ decide (more ≤ 0) = true ∧ no1 = 0 ∧ n2 = 1 ∧ fs1 = [⟨0, [⟨1, 1, []⟩]⟩])) := by
    by_cases h : 0 < more
    · exact ⟨[], 0, 0, 3, fun S hS w hE => parseG (bdS more) (bdS_long h) (by rw [bdS_length]; omega) S hS w hE, by rw [bdU_long h]; rfl, rfl, .inl ⟨by simpa using h, by simp; omega, rfl, rfl⟩⟩
    · exact ⟨[⟨0, [⟨1, 1, []⟩]⟩], 1, 1, 0, fun S hS w hE => parseG (bdS more) (bdS_ok (by omega)) (by rw [bdS_length]; omega) S hS w hE, by rw [bdU_ok (by omega)]; rfl, rfl, .inr ⟨by simp; omega, by simp; omega, rfl, rfl, rfl⟩⟩
  obtain ⟨fs1, n1, n2, no1, hP1, hn2, hf1, hAB⟩ := hcase
  have HP1 := Lib.hid hP1
  have HN2 := Lib.hid hn2
  have HF1 := Lib.hid hf1
  have HAB := Lib.hid hAB
  clear hP1 hn2 hf1 hAB
  refine callsIn_wide.1 (callsIn_of_wp_marks (n := 4) Tryz.func6 rfl trivial ?_ rfl)
  simp only [Tryz.ntmps6, List.size_toArray, List.length_cons, List.length_nil, Nat.reduceAdd, Nat.reduceSub, Array.replicate_succ, Array.replicate_zero, List.push_toArray, List.append_toArray, List.nil_append, List.cons_append]
  refine wpIn_wide.2 ?_
  go_upto_region 5 with first
    | (go_at_call 19; refine (hR1 _ (by omega) (by omega) (by decide) _).mono ?_; rintro e w1 ⟨rfl, hz1, hb1⟩; have hE1 := hE.belowAll hb1)
    | (go_at_call 15; refine (HP1.out _ (bdS_data more) _ hE1).mono ?_; rintro e w2 ⟨pa1, pc1, rfl, hb2, hA1⟩; have hE2 := hE1.belowAll hb2)
  have hbp := Blk.new w2 24 [.slice pa1 n1 pc1]
  have hb3 := below_new w2 (.cells #[.slice pa1 n1 pc1] 24)
  have hbw2 := hb1.trans (hb2.mono hb1.size)
  have hbw3 := hbw2.trans (hb3.mono hbw2.size)
  have hA2 : PAt (· < w2.heap.size) w2 fs1 pa1 pc1 := hA1.all
  have hA3 := hA2.lower hb3
  have hE3 := hE2.belowAll hb3
  have hz3 : w2.heap.size < (w2.alloc (.cells #[.slice pa1 n1 pc1] 24)).heap.size := by simp
  have hz2 := hbw2.size
  clear hb1 hb2 hb3 hA1 hA2 hE1 hE2 hz1
  generalize w2.alloc (.cells #[.slice pa1 n1 pc1] 24) = w3 at *
  generalize w2.heap.size = bp at *
  have hTk := Tokens_any (bdU more)
  unfold bdU at hTk
  go_upto_region 6 with first
    | (go_at_call 19; refine (hR1 _ (by omega) (by omega) (by decide) _).mono ?_; rintro e w4 ⟨rfl, hz4, hb4⟩)
    | (go_at_call 20; refine (hTk _).mono ?_; rintro e w5 ⟨rfl, hb5, hsb⟩)
  clear hTk
  have hb35 := hb4.trans (hb5.mono hb4.size)
  have hbw5 := hbw3.trans (hb35.mono hbw3.size)
  have hE5 := hE3.belowAll hb35
  have hbp5 := hbp.belowAll hb35
  have hA5 := hA3.lower (hb35.mono (show bp ≤ w3.heap.size by omega))
  have hz5 : w4.heap.size < w5.heap.size := hsb.lt
  have hz4 := hb4.size
  clear hb4 hb5 hb35 hbw3 hE3 hbp hA3
  generalize w4.heap.size = sb at *
  have hnf := fnilT
  have hkk := Blk.new w5 3 [.int .i64 0]
  have hb6 := below_new w5 (.cells #[.int .i64 0] 3)
  go_upto_region 9 with fail
  clear hnf
  have hbw6 := hbw5.trans (hb6.mono hbw5.size)
  have hE6 := hE5.belowAll hb6
  have hbp6 := hbp5.belowAll hb6
  have hsb6 := hsb.belowAll hb6
  have hA6 := hA5.lower (hb6.mono (show bp ≤ w5.heap.size by omega))
  have hz6 : w5.heap.size < (w5.alloc (.cells #[.int .i64 0] 3)).heap.size := by simp
  clear hbw5 hE5 hbp5 hsb hA5 hb6
  go_wp2_with fail
  generalize w5.alloc (.cells #[.int .i64 0] 3) = wK at *
  generalize w5.heap.size = nb at *
  have HW : Hid (∀ W, Fr (fun g => g = nb ∨ wK.heap.size ≤ g) wK W → Below nb wK W) := fun W hf => hf.toBelow nb (fun k hk => by omega) (by omega)
  have HE := Lib.hid hE6
  have HBW := Lib.hid hbw6
  have hw5 := hE.size
  have hnbw : w.heap.size ≤ nb := by omega
  clear hE6 hbw6
  refine wpIn_wide.1 (wp_rangeP (n := 4) (gf := 47) (lb := #[.pointer (some ⟨sb, 0, none⟩)]) rfl (enters_of Tryz.func47 (by kernel_rfl) rfl) (tokens_iter _ (bdU more) (by rw [bdU_size]; omega) sb wK (by show 3 < _; omega)) (fun _ => rfl)
    (fun pre W => Fr (fun g => g = nb ∨ wK.heap.size ≤ g) wK W ∧ Blk W nb 3 [.int .i64 (pre.length : Nat)])
    (fun _ _ _ => False) ?_ ?_ ?_ ?_ ?_ ?_ ?_)
  · rintro pre W W' ⟨h1, h2⟩ hg
    exact ⟨h1.same (hg.more fun k _ e => .inr e), h2.fr hg (by omega)⟩
  · rintro c pre W W' h0 hg
    exact h0.elim
  · rintro pre W ⟨h1, h2⟩
    exact ⟨hsb6.fr h1 (by omega), (HE.out.below (HW.out W h1) (by omega)).p⟩
  · intro W hg
    exact ⟨Fr.grown hg (fun g hg => by cases hg), hkk.fr (S := fun _ => False) (Fr.grown hg (fun g hg => by cases hg)) (fun h => h)⟩
  · rintro pre x W ⟨hf, hk⟩ hG hWl
    have hpl : pre.length ≤ 2000000 := by
      obtain ⟨r, hr⟩ := hG
      have := congrArg List.length hr
      rw [List.length_append, HN2.out] at this
      rcases HAB.out with ⟨-, -, -, h⟩ | ⟨-, -, -, h, -⟩ <;> omega
    have hq : (pre ++ [x]).length = pre.length + 1 := by simp
    have HQ := Lib.hid hq
    rw [show encT x = #[.int .i64 (x.ln : Nat), .string ⟨x.s.toArray⟩] from rfl]
    clear hG hq
    gi_wp2
    refine ⟨World.grownBy.refl _ _, ?_⟩
    intro w7 hg7 hl7 hr7
    have hf7 : Fr (fun g => g = nb ∨ wK.heap.size ≤ g) wK w7 := hf.same (Fr.grown hg7 (fun g hg => by injection hg with hg; exact .inl (.inr (by omega))))
    have hk7 := hk.fr (S := fun k => k = wK.heap.size + 1) (Fr.grown hg7 (fun g hg => by injection hg with hg; exact .inl hg.symm)) (by omega)
    have k0 := hk7.c 0 rfl
    have k1 := hk7.fz 0
    clear hr7 hg7 hf hk hWl
    gi_wp2
    refine ⟨?_, ?_, ?_⟩
    · exact Fr.set (.inl (by dsimp only; omega))
    · exact hf7.same (Fr.set (.inl (.inl rfl)))
    · rw [HQ.out]
      exact hk7.set 0 _
  · rintro xs W hS ⟨hf, hk⟩ hD
    unfold SL at hS
    rw [hS, HN2.out] at hk
    have hb7 := HW.out W hf
    have hbW := HBW.out.trans (hb7.mono hnbw)
    have hEW := HE.out.below hb7 (by omega)
    have hAW := hA6.lower (hb7.mono (show bp ≤ nb by omega))
    have hbpW := hbp6.below hb7 (by omega)
    have hdl : wK.heap.size < W.heap.size := lt_of_heap hD
    have hzW := hf.size
    clear hS hf HW hsb6 hA6 hbp6 hkk
    generalize wK.heap.size = db at *
    have k0 := hk.c 0 rfl
    have p0 := hbpW.c 0 rfl
    have hN := num_any
    have hR2 := repS ⟨#[102, 105, 114, 115, 116, 40]⟩
    have hR3 := repS ⟨#[10]⟩
    have hR4 := repS ⟨#[41]⟩
    go_upto_region 11 with fail
    go_cut [98] from 70 to 99 (fun s98 wx => s98 = .bool false ∧ Below W.heap.size W wx)
    case first =>
      rcases HAB.out with ⟨m1, m2, rfl, rfl⟩ | ⟨m1, m2, rfl, rfl, rfl⟩
      · clear HP1 HN2 HF1 HAB
        go_wp2_with (go_at_call 13; refine (hN _ _).mono ?_; rintro e w8 ⟨rfl, rfl⟩)
        go_meet
        exact ⟨by simp, Below.refl _ _⟩
      · have hn1 : n1 = 1 := HF1.out.symm
        subst hn1
        have hSz := Size_any [⟨0, [⟨1, 1, []⟩]⟩] pa1 pc1 W ⟨hAW.fs.more fun _ hg => Nat.lt_of_lt_of_le hg (by omega), hAW.le, hAW.cap⟩ (by decide) (by decide)
        clear HP1 HN2 HF1 HAB hAW
        have hs1 : sizeN [⟨0, [⟨1, 1, []⟩]⟩] = 1 := rfl
        rw [hs1] at hSz
        unfold prV at hSz
        simp only [List.length_cons, List.length_nil, Nat.zero_add] at hSz
        clear hs1
        go_wp2_with first
          | (go_at_call 13; refine (hN _ _).mono ?_; rintro e w8 ⟨rfl, rfl⟩)
          | (go_at_call 21; refine hSz.mono ?_; rintro e w8 ⟨rfl, hb8⟩)
        go_meet
        exact ⟨by simp, hb8⟩
    case rest =>
      obtain ⟨rfl, hq⟩ := hcut
      clear k0 p0 hAW hbpW hk HP1 HN2 HF1 HAB
      have hcase : ∃ (fs2 : List Fn) (n3 : Nat) (ln2 no2 : Int), (∀ S : ByteArray, S.data.toList = bdT many lines → ∀ w, EnvS w → Calls Tryz.prog 15 #[.string S] w fun e w' => ∃ pa pc, e = .returned (.tuple #[.agg #[.slice pa n3 pc], .int .i64 ln2, .int .i64 no2]) ∧ Below w.heap.size w w' ∧ PAt (fun g => w.heap.size ≤ g ∧ g < w'.heap.size) w' fs2 pa pc) ∧
          ((decide (many ≤ 200) = true ∧ no2 = 0 ∧ ln2 = 0 ∧ n3 = 1 ∧ ∃ ns : List Nd, fs2 = [⟨0, ns⟩] ∧ (ns.length : Int) = many) ∨ (decide (many ≤ 200) = false ∧ no2 = 90 ∧ ((many == 201) = true ∧ ln2 = lines ∨ (many == 201) = false ∧ ln2 = 0))) := by
        by_cases h : many ≤ 200
        · obtain ⟨ns, hl, hs⟩ := bdT_ok (lines := lines) h3 h h6
          exact ⟨[⟨0, ns⟩], 1, 0, 0, fun S hS w hE => parseG (bdT many lines) hs (bdT_len h4 h6) S hS w hE, .inl ⟨by simpa using h, rfl, rfl, rfl, ns, rfl, hl⟩⟩
        · have hs := bdT_no (lines := lines) (by omega : 200 < many) h4 h6
          by_cases e : many = 201
          · rw [if_pos e] at hs
            refine ⟨[], 0, (lines.toNat : Nat), 90, fun S hS w hE => parseG (bdT many lines) hs (bdT_len h4 h6) S hS w hE, .inr ⟨by simp; omega, rfl, .inl ⟨by simpa using e, by omega⟩⟩⟩
          · rw [if_neg e] at hs
            exact ⟨[], 0, 0, 90, fun S hS w hE => parseG (bdT many lines) hs (bdT_len h4 h6) S hS w hE, .inr ⟨by simp; omega, rfl, .inr ⟨by simpa using e, rfl⟩⟩⟩
      obtain ⟨fs2, n3, ln2, no2, hP2, hcs⟩ := hcase
      have HP2 := Lib.hid hP2
      have HCS := Lib.hid hcs
      clear hP2 hcs
      go_upto_region 15 with first
        | (go_at_call 19; refine (repS _ _ (by omega) (by omega) (by decide) _).mono ?_; rintro e w9 ⟨rfl, hz9, hb9⟩; have hq := hq.trans (hb9.mono hq.size); clear hb9)
        | (go_at_call 15; refine (HP2.out _ (bdT_data many lines) _ (hEW.below hq hEW.size)).mono ?_; rintro e w12 ⟨pa2, pc2, rfl, hb12, hA12⟩)
      have hb13 := below_new w12 (.cells #[.slice pa2 n3 pc2] 24)
      have hqb := Blk.new w12 24 [.slice pa2 n3 pc2]
      have hA13 := (hA12.all.lower hb13)
      have hq := hq.trans ((hb12.trans (hb13.mono hb12.size)).mono hq.size)
      have hz13 : w12.heap.size < (w12.alloc (.cells #[.slice pa2 n3 pc2] 24)).heap.size := by simp
      clear hb12 hb13 hA12 hz9
      generalize w12.alloc (.cells #[.slice pa2 n3 pc2] 24) = w13 at *
      generalize w12.heap.size = bq at *
      have hE13 := hEW.below hq hEW.size
      have q0 := hqb.c 0 rfl
      have fin : ∀ (Wf : World), Below W.heap.size W Wf → Wf.heap[db]? = some (.deferred (some [])) ∧ Below w.heap.size w Wf := fun Wf hb => ⟨(hb.block db hdl).trans hD, hbW.trans (hb.mono hbW.size)⟩
      have FIN := Lib.hid fin
      have HE13 := Lib.hid hE13
      clear fin
      rcases HCS.out with ⟨m1, rfl, rfl, rfl, ns, rfl, hns⟩ | ⟨m1, rfl, ⟨m2, rfl⟩ | ⟨m2, rfl⟩⟩
      · have hSz := Size_any [⟨0, ns⟩] pa2 pc2 w13 ⟨hA13.fs.more fun _ hg => Nat.lt_of_lt_of_le hg (by omega), hA13.le, hA13.cap⟩ (by simp) (by intro f hf; rw [List.mem_singleton.1 hf]; show ns.length ≤ _; omega)
        have hs1 : ((sizeN [⟨0, ns⟩] : Nat) : Int) = many := by rw [← hns]; simp [sizeN]
        rw [hs1] at hSz
        unfold prV at hSz
        simp only [List.length_cons, List.length_nil, Nat.zero_add] at hSz
        clear hs1 hns HCS HP2 hA13
        go_wp2_with first
          | (go_at_call 13; refine (hN _ _).mono ?_; rintro e w8 ⟨rfl, rfl⟩)
          | (go_at_call 21; refine hSz.mono ?_; rintro e w14 ⟨rfl, hb14⟩; have hE14 := HE13.out.belowAll hb14)
          | (go_at_call 8; refine (works_any _ hE14).mono ?_; rintro e w15 ⟨rfl, hb15⟩)
        obtain ⟨hD9, hb9⟩ := FIN.out w15 (hq.trans ((hb14.trans (hb15.mono hb14.size)).mono hq.size))
        refine ⟨by simp, .inl ⟨_, _, rfl, run_takeDeferred hD9, ?_⟩⟩
        exact ⟨.bool true, by simp [results, Tryz.results6, go_sem], rfl, ⟨hb9.os, hb9.tape, hb9.output, by simpa using hb9.size, fun j hj => (World.putObj_heap_other (by omega)).trans (hb9.block j hj)⟩⟩
      all_goals
        clear HCS HP2 hA13
        go_wp2_with first
          | (go_at_call 13; refine (hN _ _).mono ?_; rintro e w8 ⟨rfl, rfl⟩)
          | (go_at_call 8; refine (works_any _ hE13).mono ?_; rintro e w15 ⟨rfl, hb15⟩)
        obtain ⟨hD9, hb9⟩ := FIN.out w15 (hq.trans (hb15.mono hq.size))
        refine ⟨by simp, .inl ⟨_, _, rfl, run_takeDeferred hD9, ?_⟩⟩
        exact ⟨.bool true, by simp [results, Tryz.results6, go_sem], rfl, ⟨hb9.os, hb9.tape, hb9.output, by simpa using hb9.size, fun j hj => (World.putObj_heap_other (by omega)).trans (hb9.block j hj)⟩⟩
  · rintro c pre W hSp h0 hD
    exact h0.elim
theorem sbounds_law (more many lines : Int) (w : World) (hE : EnvS w) : Calls Tryz.prog 6 #[.int .i64 more, .int .i64 many, .int .i64 lines] w fun e w' => e = .returned (.bool true) ∧ Below w.heap.size w w' := by
  by_cases hin : -1 ≤ more ∧ more ≤ 1 ∧ 1 ≤ many ∧ many ≤ 300 ∧ 0 ≤ lines ∧ lines ≤ 20
  · obtain ⟨h1, h2, h3, h4, h5, h6⟩ := hin
    exact sbounds_in more many lines h1 h2 h3 h4 h5 h6 w hE
  · exact sbounds_out more many lines hin w hE
end Go.Proofs.YtjendlnicbieoaaGreatDoor
