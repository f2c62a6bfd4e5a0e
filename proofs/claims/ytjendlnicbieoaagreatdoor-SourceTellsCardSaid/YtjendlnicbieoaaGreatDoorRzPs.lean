/-
  Package source: read's deferred function.
-/
import Derived.Test.YtjendlnicbieoaaGreatDoorUrRw
import Derived.Test.YtjendlnicbieoaaGreatDoorProA
namespace Go.Proofs.YtjendlnicbieoaaGreatDoor
open Go.RowKit Go.Sort

/-- The panic that says where a text is wrong, in the list of panics. -/
def WrP (n : Nat) (b : Bool) : PanicEntry := { v := .iface 119 (.int .i64 (n : Nat)), recovered := b }
/-- read's four results, in blocks of their own. -/
structure R4 (w : World) (b : Nat) (vp vn vl ve : Value) : Prop where
  p : B1 w b 24 vp
  n : B1 w (b + 1) 60 vn
  l : B1 w (b + 1 + 1) 3 vl
  e : B1 w (b + 1 + 1 + 1) 27 ve
def R4ptrs (b : Nat) : Array Value := #[.pointer (some ⟨b, 0, none⟩), .pointer (some ⟨b + 1, 0, none⟩), .pointer (some ⟨b + 1 + 1, 0, none⟩), .pointer (some ⟨b + 1 + 1 + 1, 0, none⟩)]
theorem R4.fr {S : Nat → Prop} {w w' : World} {b : Nat} {vp vn vl ve : Value} (h : R4 w b vp vn vl ve) (hf : Fr S w w') (hS : ∀ q, b ≤ q → q ≤ b + 1 + 1 + 1 → ¬ S q) : R4 w' b vp vn vl ve :=
  ⟨h.p.fr hf (hS _ (by omega) (by omega)), h.n.fr hf (hS _ (by omega) (by omega)), h.l.fr hf (hS _ (by omega) (by omega)), h.e.fr hf (hS _ (by omega) (by omega))⟩
/-- The four cells written. -/
def set4 (w : World) (b : Nat) (vp vn vl ve : Value) : World := (((w.setCell ⟨b, 0, none⟩ vp).setCell ⟨b + 1, 0, none⟩ vn).setCell ⟨b + 1 + 1, 0, none⟩ vl).setCell ⟨b + 1 + 1 + 1, 0, none⟩ ve
theorem R4.set {w : World} {b : Nat} {vp vn vl ve vp' vn' vl' ve' : Value} (h : R4 w b vp vn vl ve) : R4 (set4 w b vp' vn' vl' ve') b vp' vn' vl' ve' := by
  unfold set4
  exact ⟨(((h.p.set 0 vp').far (by dsimp only; omega) _).far (by dsimp only; omega) _).far (by dsimp only; omega) _, (((h.n.far (by dsimp only; omega) _).set 0 vn').far (by dsimp only; omega) _).far (by dsimp only; omega) _, (((h.l.far (by dsimp only; omega) _).far (by dsimp only; omega) _).set 0 vl').far (by dsimp only; omega) _, (((h.e.far (by dsimp only; omega) _).far (by dsimp only; omega) _).far (by dsimp only; omega) _).set 0 ve'⟩
theorem set4_below {w : World} {b B : Nat} (vp vn vl ve : Value) (hB : B ≤ b) : Below B w (set4 w b vp vn vl ve) := by
  unfold set4
  exact ((((Below.refl B w).setCell (p := ⟨b, 0, none⟩) hB _).setCell (p := ⟨b + 1, 0, none⟩) (by dsimp only; omega) _).setCell (p := ⟨b + 1 + 1, 0, none⟩) (by dsimp only; omega) _).setCell (p := ⟨b + 1 + 1 + 1, 0, none⟩) (by dsimp only; omega) _
theorem assert_wrong (v : Value) (w : World) : (Instr.typeAssert (.iface 119 v) 20 119 true).run Tryz.prog w = .ok (.tuple #[v, .bool true]) w := by kernel_rfl
set_option maxRecDepth 100000 in
set_option maxHeartbeats 2000000 in
theorem rdD_wrong (b n : Nat) (vp vn vl ve : Value) (older : List PanicEntry) (w : World) (h : R4 w b vp vn vl ve) :
    CallsD Tryz.prog 58 (R4ptrs b) (.panicking (WrP n false :: older)) w fun e u' w' =>
      e = .returned (.tuple #[]) ∧ u' = .panicking (WrP n true :: older) ∧ w' = set4 w b (.slice none 0 0) (.slice none 0 0) (.int .i64 (n : Nat)) (.int .i64 90) := by
  have c0 := h.p.c 0 rfl
  have c1 := h.n.c 0 rfl
  have c2 := h.l.c 0 rfl
  have c3 := h.e.c 0 rfl
  have z0 := h.p.fz 0
  have z1 := h.n.fz 0
  have z2 := h.l.fz 0
  have z3 := h.e.fz 0
  unfold WrP R4ptrs set4
  refine callsD_of_wpS Tryz.func58 rfl fun c₀ cs hu => ?_
  apply wpS_seq
  apply wpS_region
  simp [wpOpsS, go_sem, recoverD, hu, Tryz.ntmps58, Exit.thenS]
  have hta := assert_wrong (.int .i64 (n : Nat))
  refine wpS_of_wp ?_
  simp only [Array.replicate_succ, Array.replicate_zero, List.push_toArray, List.append_toArray, List.nil_append, List.cons_append, List.setIfInBounds_toArray, List.set_cons_succ, List.set_cons_zero]
  go_wp2_with fail
  exact ⟨rfl, _, rfl, .tuple #[], results_none rfl _ _ _, rfl, rfl, rfl⟩
set_option maxRecDepth 100000 in
set_option maxHeartbeats 1000000 in
theorem rdD_none (b : Nat) (w : World) : CallsD Tryz.prog 58 (R4ptrs b) .returning w fun e u' w' => e = .returned (.tuple #[]) ∧ u' = .returning ∧ w' = w := by
  unfold R4ptrs
  refine callsD_of_wpS Tryz.func58 rfl fun c₀ cs hu => ?_
  apply wpS_seq
  apply wpS_region
  simp [wpOpsS, go_sem, recoverD, hu, Tryz.ntmps58, Exit.thenS]
  refine wpS_of_wp ?_
  simp only [Array.replicate_succ, Array.replicate_zero, List.push_toArray, List.append_toArray, List.nil_append, List.cons_append, List.setIfInBounds_toArray, List.set_cons_succ, List.set_cons_zero]
  go_wp2_with fail
  cases c₀
  exact ⟨rfl, _, rfl, .tuple #[], results_none rfl _ _ _, rfl, hu, rfl⟩
end Go.Proofs.YtjendlnicbieoaaGreatDoor
/-
  Package source: the tokens of a text, the reader's start.
-/
namespace Go.Proofs.YtjendlnicbieoaaGreatDoor
open Go.RowKit Go.Sort

theorem tokD_nu (c : UInt8) (r : Bs) (n : Nat) : ((tokD c r n).1.k = 3 → (intD (tokD c r n).1.s).isSome = true) ∧ (tokD c r n).1.s.length ≤ r.length + 1 := by
  have tw : ∀ p : UInt8 → Bool, (r.takeWhile p).length ≤ r.length := fun p => by
    have := congrArg List.length (List.takeWhile_append_dropWhile (p := p) (l := r))
    rw [List.length_append] at this
    omega
  unfold tokD
  split
  · refine ⟨fun h => ?_, ?_⟩
    · dsimp only at h
      split at h <;> omega
    · have := tw isAn
      simp only [List.length_cons]
      omega
  · split
    · refine ⟨fun h => ?_, ?_⟩
      · dsimp only at h ⊢
        split at h
        · assumption
        · omega
      · have := tw isDi
        simp only [List.length_cons]
        omega
    · split
      · exact ⟨fun h => by dsimp only at h; omega, by simp⟩
      · exact ⟨fun h => by dsimp only at h; omega, by simp⟩
theorem tok1_nu (l : Bs) (n : Nat) : ((tok1 l n).1.k = 3 → (intD (tok1 l n).1.s).isSome = true) ∧ (tok1 l n).1.s.length ≤ l.length := by
  have hs := skipB_len l false n
  unfold tok1
  split
  · exact ⟨fun h => by dsimp only at h; omega, by simp⟩
  · rename_i c r m he
    rw [he] at hs
    obtain ⟨h1, h2⟩ := tokD_nu c r m
    simp only [List.length_cons] at hs
    exact ⟨h1, by dsimp only; omega⟩
theorem lex_nu : ∀ (k : Nat) (l : Bs) (n : Nat), l.length ≤ k → (∀ t ∈ lex l n, (t.k = 3 → (intD t.s).isSome = true) ∧ t.s.length ≤ l.length) ∧ (lex l n).length ≤ l.length + 1
  | k, l, n, hk => by
    obtain ⟨t1, t2⟩ := tok1_nu l n
    rw [lex_eq]
    split
    · exact ⟨fun t ht => by rw [List.mem_singleton.1 ht]; exact ⟨t1, t2⟩, by simp⟩
    · rename_i hne
      have hl := tok1_len l n hne
      match k with
      | 0 => omega
      | k + 1 =>
        obtain ⟨h1, h2⟩ := lex_nu k (tok1 l n).2.1 (tok1 l n).2.2 (by omega)
        refine ⟨fun t ht => ?_, by simp only [List.length_cons]; omega⟩
        rcases List.mem_cons.1 ht with rfl | ht
        · exact ⟨t1, t2⟩
        · obtain ⟨e1, e2⟩ := h1 t ht
          exact ⟨e1, by omega⟩
/-- move, whatever the two tokens are. -/
theorem move_raw (R : Nat) (s : ByteArray) (i n k1 : Nat) (S1 : ByteArray) (l1 k2 : Nat) (S2 : ByteArray) (l2 : Nat) (tl : List Value) (w : World) (hl : LxB w R 124 s i n (tkC k1 S1 l1 (tkC k2 S2 l2 tl))) (hi : i ≤ s.size) (hn : n ≤ i) (hs : s.size ≤ 4000000) (hE : EnvP w) (hb3 : R ≠ 3) :
    Calls Tryz.prog 59 #[.pointer (some ⟨R, 0, none⟩)] w fun e w' => e = .returned (.tuple #[]) ∧ FrB R w w' ∧ EnvP w' ∧ ∃ (j m k : Nat) (S : ByteArray) (ln : Nat), LxB w' R 124 s j m (tkC k2 S2 l2 (tkC k S ln tl)) ∧ j ≤ s.size ∧ m ≤ j ∧ k ≤ 4 ∧ ln ≤ s.size ∧ tok1 (bs s i) n = (tkO k S ln, bs s j, m) := by
  go_enter Tryz.func59, Tryz.ntmps59
  refine move_region (i := i) (n := n) (k1 := k1) (S1 := S1) (l1 := l1) (k2 := k2) (S2 := S2) (l2 := l2) (tl := tl) (s := s) (R := R) mv_shape (by simp) rfl hl hs hi hn hE hb3 ?_
  intro a W j m k ln S hU hf hE2 hij hj hm hk hln htk hl2'
  obtain ⟨us, hus, rfl⟩ := hU.list (by simp)
  refine bodyPost_end (results_none rfl _ _ _) rfl ?_
  exact ⟨rfl, hf, hE2, j, m, k, S, ln, hl2', hj, hm, hk, hln, htk⟩
/-- The reader before the first token, when two have been read on. -/
theorem rdr_start {w : World} {R : Nat} {s : ByteArray} {tl : List Value} {j1 m1 j2 m2 ka : Nat} {Sa : ByteArray} {la kb : Nat} {Sb : ByteArray} {lb : Nat} (hs : s.size ≤ 4000000) (hl : LxB w R 124 s j2 m2 (tkC ka Sa la (tkC kb Sb lb tl))) (hj : j2 ≤ s.size) (hm : m2 ≤ j2)
    (h1 : tok1 (bs s 0) 0 = (tkO ka Sa la, bs s j1, m1)) (h2 : tok1 (bs s j1) m1 = (tkO kb Sb lb, bs s j2, m2)) (hka : ka ≤ 4) (hkb : kb ≤ 4) (hla : la ≤ s.size) (hlb : lb ≤ s.size) : Rdr w R s (toksF (s.data.toList.length + 1) s.data.toList 0) tl := by
  have e0 : bs s 0 = s.data.toList := by simp [bs]
  have el : toksF (s.data.toList.length + 1) s.data.toList 0 = lex (bs s 0) 0 := by rw [e0]; rfl
  have hend2 : kb = 0 → lex (bs s j2) m2 = [tkO kb Sb lb] := fun hk => by
    obtain ⟨e1, e2⟩ := tok1_end h2 hk
    rw [e2, lex_nil, e1]
  have hend1 : ka = 0 → tkO kb Sb lb = tkO ka Sa la := fun hk => by
    obtain ⟨e1, e2⟩ := tok1_end h1 hk
    rw [e2] at h2
    have h3 : tok1 [] m1 = (⟨0, [], m1⟩, [], m1) := rfl
    rw [h3] at h2
    injection h2 with h4 _
    rw [← h4, e1]
  have hts : lex (bs s 0) 0 = strm s j2 m2 (tkO ka Sa la) (tkO kb Sb lb) := by
    rw [lex_eq, h1]
    dsimp only
    unfold strm
    split
    · rfl
    · rw [lex_eq, h2]
  rw [el]
  refine ⟨fun t ht => ?_, j2, m2, ka, Sa, la, kb, Sb, lb, hl, hj, hm, hla, hlb, hka, hkb, hts, hend2, hend1⟩
  obtain ⟨q1, q2⟩ := (lex_nu _ (bs s 0) 0 (Nat.le_refl _)).1 t ht
  refine ⟨q1, Nat.le_trans q2 ?_⟩
  rw [bs_len]
  omega
theorem pFun_le {g : Nat} {p : PP} {ts : List Tk} {x : PP × List Tk} (h : pFun g p ts = .ok x) : x.2.length ≤ (mv ts).length := by
  unfold pFun at h
  obtain ⟨-, h⟩ := need_is h
  split at h
  · obtain ⟨-, h⟩ := need_is h
    obtain ⟨v, h1, h⟩ := sub_is h
    obtain ⟨-, h⟩ := need_is h
    obtain ⟨y, h2, h⟩ := sub_is h
    have e1 := pPar_le h1
    have e2 := (pE_tk _ _ _ _ _ h2).1
    have e3 := mv_le (mv ts)
    have e4 := mv_le v.2
    injection h with h
    subst h
    dsimp only
    omega
  · cases h
theorem pFun_one {g : Nat} {p : PP} {ts : List Tk} {x : PP × List Tk} (h : pFun g p ts = .ok x) : x.1.fns.length = p.fns.length + 1 ∧ isW wFun ts = true := by
  unfold pFun at h
  obtain ⟨hh, h⟩ := need_is h
  split at h
  · obtain ⟨-, h⟩ := need_is h
    obtain ⟨v, h1, h⟩ := sub_is h
    obtain ⟨-, h⟩ := need_is h
    obtain ⟨y, h2, h⟩ := sub_is h
    injection h with h
    subst h
    exact ⟨by simp, by simp only [Bool.and_eq_true] at hh; exact hh.1⟩
  · cases h
end Go.Proofs.YtjendlnicbieoaaGreatDoor
/-
  Package source: read.
-/
namespace Go.Proofs.YtjendlnicbieoaaGreatDoor
open Go.RowKit Go.Sort

/-- A row of strings. -/
def IsSs (ok : Nat → Prop) (w : World) (l : List Bs) (a : Option Addr) : Prop := ∀ (j : Nat) (x : Bs), l[j]? = some x → ∃ g o : Nat, a = some ⟨g, o, none⟩ ∧ ok g ∧ w.cell? ⟨g, o + j, none⟩ = some (.string ⟨x.toArray⟩)
theorem IsSs.keep {ok : Nat → Prop} {w w' : World} {l : List Bs} {a : Option Addr} (hi : IsSs ok w l a) (h : ∀ g, ok g → ∀ o, w'.cell? ⟨g, o, none⟩ = w.cell? ⟨g, o, none⟩) : IsSs ok w' l a := fun j x hx => by
  obtain ⟨g, o, h1, h2, h3⟩ := hi j x hx
  exact ⟨g, o, h1, h2, (h g h2 _).trans h3⟩
theorem IsSs.more {ok ok' : Nat → Prop} {w : World} {l : List Bs} {a : Option Addr} (hi : IsSs ok w l a) (h : ∀ g, ok g → ok' g) : IsSs ok' w l a := fun j x hx => by
  obtain ⟨g, o, h1, h2, h3⟩ := hi j x hx
  exact ⟨g, o, h1, h g h2, h3⟩
/-- How read ends. -/
def RdEnds (r : RdR) (w : World) (e : Ending) (w' : World) : Prop := Below w.heap.size w w' ∧ match r with
  | .long => e = .returned (.tuple #[.agg #[.slice none 0 0], .slice none 0 0, .int .i64 0, .int .i64 3])
  | .wrong n => e = .returned (.tuple #[.agg #[.slice none 0 0], .slice none 0 0, .int .i64 (n : Nat), .int .i64 90])
  | .bad => e = .returned (.tuple #[.agg #[.slice none 0 0], .slice none 0 0, .int .i64 0, .int .i64 70])
  | .ok fs names => ∃ pa pc na nc, e = .returned (.tuple #[prV fs pa pc, .slice na names.length nc, .int .i64 0, .int .i64 0]) ∧ PAt (fun g => w.heap.size ≤ g ∧ g < w'.heap.size) w' fs pa pc ∧ names.length ≤ nc ∧ nc ≤ maxLen ∧ IsSs (fun g => w.heap.size ≤ g ∧ g < w'.heap.size) w' names na
theorem NA.Ok.isI {w : World} {lo : Nat} {x : NA} (h : x.Ok w lo) : IsI (fun g => lo ≤ g ∧ g < w.heap.size) w x.nd.l x.la := by
  intro j y hy
  obtain ⟨a, c, e, -, -, hc⟩ := row_form h.1
  injection e with e1 _ _
  obtain ⟨g, rfl, h1, h2, h3⟩ := hc j (.int .i64 y) (by simp [intsV, hy])
  exact ⟨g, 0, e1, ⟨h1, h2⟩, by rw [Nat.zero_add]; exact h3, h.2.2.2 y (List.mem_of_getElem? hy)⟩
theorem nas_isNs {w : World} {lo n c : Nat} {a : Option Addr} {ns : List NA} (h : w.ownsRow lo 59 3 (.slice a n c) n (ns.flatMap NA.cs)) (hk : ∀ x ∈ ns, x.Ok w lo) : IsNs (fun g => lo ≤ g ∧ g < w.heap.size) w (ns.map NA.nd) a := by
  intro j y hy
  rw [List.getElem?_map] at hy
  obtain ⟨x, hx, rfl⟩ := Option.map_eq_some_iff.1 hy
  obtain ⟨a', c', e, -, -, hc⟩ := row_form h
  injection e with e1 _ _
  have hxk := hk x (List.mem_of_getElem? hx)
  obtain ⟨g, rfl, h1, h2, h3⟩ := hc (j * 3 + 0) _ (na_at hx (j := 0) (v := .int .i64 x.nd.op) rfl)
  subst e1
  have h4 := row_c h (na_at hx (j := 1) (v := .int .i64 x.nd.n) rfl)
  have h5 := row_c h (na_at hx (j := 2) (v := .slice x.la x.nd.l.length x.lc) rfl)
  obtain ⟨al, cl, el, hl1, hl2, -⟩ := row_form hxk.1
  injection el with el1 el2 el3
  exact ⟨g, 0, x.la, x.lc, rfl, ⟨h1, h2⟩, by simpa using h3, by simpa using h4, by simpa using h5, by omega, by omega, hxk.isI, hxk.2.1, hxk.2.2.1⟩
theorem Rv.pAt {w : World} {lo R : Nat} {names : List Bs} {us : List Us} {fas : List FA} {vN : Value} {fa : Option Addr} {fc : Nat} {vU : Value} (h : Rv w lo R names us fas vN fa fc vU) (hps : ∀ x ∈ fas, x.ps ≤ 9) : PAt (fun g => lo ≤ g ∧ g < w.heap.size) w (fas.map FA.fn) fa fc := by
  obtain ⟨a', c', e, h1, h2, hc⟩ := row_form h.rF
  injection e with e1 _ e3
  subst e1 e3
  refine ⟨fun j f hf => ?_, by simpa using h1, h2⟩
  rw [List.getElem?_map] at hf
  obtain ⟨x, hx, rfl⟩ := Option.map_eq_some_iff.1 hf
  have hxk := h.fns x (List.mem_of_getElem? hx)
  have hp := hps x (List.mem_of_getElem? hx)
  obtain ⟨g, rfl, k1, k2, k3⟩ := hc (j * 2 + 0) _ (fa_at hx (j := 0) (v := .int .i64 (x.ps : Nat)) rfl)
  have k4 := row_c h.rF (fa_at hx (j := 1) (v := .slice x.da x.ns.length x.dc) rfl)
  obtain ⟨al, cl, el, hl1, hl2, -⟩ := row_form hxk.1
  injection el with el1 el2 el3
  have hln : x.fn.ns.length = x.ns.length := by simp [FA.fn]
  exact ⟨g, 0, x.da, x.dc, rfl, ⟨k1, k2⟩, by simpa [FA.fn] using k3, by rw [hln]; simpa using k4, by rw [hln]; omega, by omega, nas_isNs hxk.1 hxk.2, ⟨by show (-9223372036854775808 : Int) ≤ (x.ps : Nat); omega, by show ((x.ps : Nat) : Int) ≤ 9223372036854775807; omega⟩⟩
theorem Rv.isSs {w : World} {lo R : Nat} {names : List Bs} {us : List Us} {fas : List FA} {na : Option Addr} {nc : Nat} {fa : Option Addr} {fc : Nat} {vU : Value} (h : Rv w lo R names us fas (.slice na names.length nc) fa fc vU) : names.length ≤ nc ∧ nc ≤ maxLen ∧ IsSs (fun g => lo ≤ g ∧ g < w.heap.size) w names na := by
  obtain ⟨a', c', e, h1, h2, hc⟩ := row_form h.rN
  injection e with e1 _ e3
  subst e1 e3
  refine ⟨h1, h2, fun j x hx => ?_⟩
  obtain ⟨g, rfl, k1, k2, k3⟩ := hc j (.string ⟨x.toArray⟩) (by simp [strsV, hx])
  exact ⟨g, 0, rfl, ⟨k1, k2⟩, by rw [Nat.zero_add]; exact k3⟩
theorem map_ps {names : List Bs} : ∀ (us : List Us) (fs gs : List Fn), resol names us fs = .ok gs → gs.map Fn.ps = fs.map Fn.ps
  | [], fs, gs, h => by
    rw [resol] at h
    injection h with h
    rw [h]
  | u :: r, fs, gs, h => by
    rw [resol] at h
    split at h
    · have := map_ps r _ _ h
      rw [this]
      unfold setN
      refine map_modify_same (f := Fn.ps) ?_ _ _
      intro x
      rfl
    · cases h
/-- What stands in read's loop. -/
structure ReI (g f b R : Nat) (s : ByteArray) (r : Except Nat PP) (p : PP) (ts : List Tk) (w wr : World) : Prop where
  bb : Below w.heap.size w wr
  r4 : R4 wr b (.slice none 0 0) (.slice none 0 0) (.int .i64 0) (.int .i64 0)
  sp : SpP wr (R + 1) R s ts p
  E : EnvP wr
  ll : R + 1 ≤ wr.heap.size
  lg : ts.length ≤ g
  lf : ts.length ≤ f
  eq : pFuns g f p ts = r
  us : UsIn p
def w4r (w : World) : World := (((w.alloc (.cells #[.slice none 0 0] 24)).alloc (.cells #[.slice none 0 0] 60)).alloc (.cells #[.int .i64 0] 3)).alloc (.cells #[.int .i64 0] 27)
theorem w4r_r4 (w : World) : R4 (w4r w) w.heap.size (.slice none 0 0) (.slice none 0 0) (.int .i64 0) (.int .i64 0) := by
  have h1 := Blk.new w 24 [.slice none 0 0]
  have h2 := Blk.new (w.alloc (.cells #[.slice none 0 0] 24)) 60 [.slice none 0 0]
  have h3 := Blk.new ((w.alloc (.cells #[.slice none 0 0] 24)).alloc (.cells #[.slice none 0 0] 60)) 3 [.int .i64 0]
  have h4 := Blk.new (((w.alloc (.cells #[.slice none 0 0] 24)).alloc (.cells #[.slice none 0 0] 60)).alloc (.cells #[.int .i64 0] 3)) 27 [.int .i64 0]
  simp only [World.size_alloc] at h2 h3 h4
  exact ⟨((h1.alloc _).alloc _).alloc _, (h2.alloc _).alloc _, h3.alloc _, h4⟩
theorem w4r_size (w : World) : (w4r w).heap.size = w.heap.size + 1 + 1 + 1 + 1 := by simp [w4r]
theorem w4r_below (w : World) : Below w.heap.size w (w4r w) := (((below_new w _).alloc (by simp) _).alloc (by simp only [World.size_alloc]; omega) _).alloc (by simp only [World.size_alloc]; omega) _
theorem read_start (s : ByteArray) (w : World) : Below w.heap.size w ((w4r w).alloc (.cells #[.string s, .int .i64 0, .int .i64 0, .int .i64 0, .string ⟨#[]⟩, .int .i64 0, .int .i64 0, .string ⟨#[]⟩, .int .i64 0, .slice none 0 0, .slice none 0 0, .slice none 0 0, .slice none 0 0, .slice none 0 0] 124)) ∧
    R4 ((w4r w).alloc (.cells #[.string s, .int .i64 0, .int .i64 0, .int .i64 0, .string ⟨#[]⟩, .int .i64 0, .int .i64 0, .string ⟨#[]⟩, .int .i64 0, .slice none 0 0, .slice none 0 0, .slice none 0 0, .slice none 0 0, .slice none 0 0] 124)) w.heap.size (.slice none 0 0) (.slice none 0 0) (.int .i64 0) (.int .i64 0) ∧
    LxB ((w4r w).alloc (.cells #[.string s, .int .i64 0, .int .i64 0, .int .i64 0, .string ⟨#[]⟩, .int .i64 0, .int .i64 0, .string ⟨#[]⟩, .int .i64 0, .slice none 0 0, .slice none 0 0, .slice none 0 0, .slice none 0 0, .slice none 0 0] 124)) (w.heap.size + 1 + 1 + 1 + 1) 124 s 0 0 (tkC 0 ⟨#[]⟩ 0 (tkC 0 ⟨#[]⟩ 0 [.slice none 0 0, .slice none 0 0, .slice none 0 0, .slice none 0 0, .slice none 0 0])) := by
  have hb := w4r_below w
  have hz := w4r_size w
  have h4 := w4r_r4 w
  have hn := Blk.new (w4r w) 124 [.string s, .int .i64 0, .int .i64 0, .int .i64 0, .string ⟨#[]⟩, .int .i64 0, .int .i64 0, .string ⟨#[]⟩, .int .i64 0, .slice none 0 0, .slice none 0 0, .slice none 0 0, .slice none 0 0, .slice none 0 0]
  rw [hz] at hn
  exact ⟨hb.alloc hb.size _, ⟨h4.p.alloc _, h4.n.alloc _, h4.l.alloc _, h4.e.alloc _⟩, hn⟩
theorem srcP_eq {l : Bs} (h : ¬ 1048576 < l.length) {q : Except Nat PP} (hq : pFuns (l.length + 2) (l.length + 2) ⟨[], [], []⟩ (toksF (l.length + 1) l 0) = q) : srcP l = match sub q fun p => sub (resol p.names p.uses (p.fns.map fnOf)) fun fs => .ok (p.names, fs) with
    | .error n => .wrong n
    | .ok x => if okP x.2 = true then .ok x.2 x.1 else .bad := by
  unfold srcP
  rw [if_neg h, hq]
  cases (sub q fun p => sub (resol p.names p.uses (p.fns.map fnOf)) fun fs => .ok (p.names, fs)) <;> rfl
theorem ps9 {fas fas' : List FA} {names : List Bs} {us : List Us} (h9 : ∀ x ∈ fas, x.ps ≤ 9) (h : resol names us (fas.map FA.fn) = .ok (fas'.map FA.fn)) : ∀ x ∈ fas', x.ps ≤ 9 := by
  intro x hx
  have e := map_ps _ _ _ h
  rw [List.map_map, List.map_map] at e
  have hm : ((x.ps : Nat) : Int) ∈ fas'.map (Fn.ps ∘ FA.fn) := List.mem_map.2 ⟨x, hx, rfl⟩
  rw [e] at hm
  obtain ⟨y, hy, hxy⟩ := List.mem_map.1 hm
  have := h9 y hy
  have hxy : ((y.ps : Nat) : Int) = (x.ps : Nat) := hxy
  omega
set_option maxHeartbeats 1000000 in
/-- read is left by a panic that says where the text is wrong. -/
theorem read_panic (n : Nat) (w W : World) (act : Act) {vp vn vl ve : Value} (hd : act.defers = [{ target := .fn (.func 58) (R4ptrs w.heap.size), args := #[] }]) (t2 : act.tmps[2]? = some (.pointer (some ⟨w.heap.size, 0, none⟩))) (t3 : act.tmps[3]? = some (.pointer (some ⟨w.heap.size + 1, 0, none⟩))) (t4 : act.tmps[4]? = some (.pointer (some ⟨w.heap.size + 1 + 1, 0, none⟩))) (t5 : act.tmps[5]? = some (.pointer (some ⟨w.heap.size + 1 + 1 + 1, 0, none⟩))) (hb : Below w.heap.size w W) (h4 : R4 W w.heap.size vp vn vl ve) :
    bodyPostD Tryz.prog Tryz.f35 (RdEnds (.wrong n) w) (.panic [{ v := .iface 119 (.int .i64 (n : Nat)), recovered := false }]) act W := by
  obtain ⟨tmps, ds⟩ := act
  dsimp only at hd t2 t3 t4 t5
  subst hd
  show bodyPostD _ _ _ _ _ _
  refine leaves_cons (f := 58) (args := R4ptrs w.heap.size) (by simp) (by simp [go_sem]) ?_
  refine (rdD_wrong w.heap.size n _ _ _ _ [] W h4).mono ?_
  rintro e u' w6 ⟨rfl, rfl, rfl⟩
  have hS := h4.set (vp' := .slice none 0 0) (vn' := .slice none 0 0) (vl' := .int .i64 (n : Nat)) (ve' := .int .i64 90)
  have k0 := hS.p.c 0 rfl
  have k1 := hS.n.c 0 rfl
  have k2 := hS.l.c 0 rfl
  have k3 := hS.e.c 0 rfl
  refine ⟨.tuple #[.agg #[.slice none 0 0], .slice none 0 0, .int .i64 (n : Nat), .int .i64 90], by simp [results, Tryz.results35, go_sem, t2, t3, t4, t5, k0, k1, k2, k3], ?_⟩
  exact ⟨hb.trans (set4_below _ _ _ _ (Nat.le_refl _)), rfl⟩
set_option maxRecDepth 100000 in
set_option maxHeartbeats 8000000 in
theorem read_any (s : ByteArray) (hs : s.size ≤ 4000000) (w : World) (hE : EnvP w) (h3 : 3 < w.heap.size) : Calls Tryz.prog 35 #[.string s] w (RdEnds (srcP s.data.toList) w) := by
  have hmf : ∀ (fn : Go.Fn) (first cap : Array Value) (w : World), (Instr.makeFunc fn first cap).run Tryz.prog w = .ok (.func fn first cap) w := fun _ _ _ _ => rfl
  obtain ⟨r, hr⟩ : ∃ r, srcP s.data.toList = r := ⟨_, rfl⟩
  rw [hr]
  have hsl : s.data.toList.length = s.size := by simp
  have HR := Lib.hid hr
  have HSL := Lib.hid hsl
  clear hr
  by_cases hlong : 1048576 < s.size
  case' pos =>
    have hq : decide ((s.size : Int) > 1048576) = true := by simp; omega
    obtain rfl : r = .long := by
      rw [← HR.out]
      unfold srcP
      rw [if_pos (by omega)]
    clear hlong HR hsl
    go_enter_defers Tryz.func35, Tryz.ntmps35
    go_wp2_with fail
    show bodyPostD _ _ _ _ _ _
    refine ⟨.tuple #[.agg #[.slice none 0 0], .slice none 0 0, .int .i64 0, .int .i64 3], by simp [results, Tryz.results35, go_sem], ?_⟩
    exact ⟨(((below_new w _).alloc (by simp) _).alloc (by simp only [World.size_alloc]; omega) _).alloc (by simp only [World.size_alloc]; omega) _, rfl⟩
  case' neg =>
    have hq : decide ((s.size : Int) > 1048576) = false := by simp; omega
    obtain ⟨hb5, h45, hLx5⟩ := read_start s w
    unfold w4r at hb5 h45 hLx5
    go_enter_defers Tryz.func35, Tryz.ntmps35
    go_upto_region 5 with fail
    generalize ((((w.alloc (.cells #[.slice none 0 0] 24)).alloc (.cells #[.slice none 0 0] 60)).alloc (.cells #[.int .i64 0] 3)).alloc (.cells #[.int .i64 0] 27)).alloc (.cells #[.string s, .int .i64 0, .int .i64 0, .int .i64 0, .string ⟨#[]⟩, .int .i64 0, .int .i64 0, .string ⟨#[]⟩, .int .i64 0, .slice none 0 0, .slice none 0 0, .slice none 0 0, .slice none 0 0, .slice none 0 0] 124) = w5 at *
    have hE5 : EnvP w5 := hE.fr (S := fun _ => False) (Fr.belowAll hb5) (fun h => h)
    have hM5 := move_raw (w.heap.size + 1 + 1 + 1 + 1) s 0 0 0 ⟨#[]⟩ 0 0 ⟨#[]⟩ 0 _ w5 hLx5 (Nat.zero_le _) (Nat.le_refl _) hs hE5 (by omega)
    go_upto_region 6 with (go_at_call 59; refine hM5.mono ?_; rintro e w6 ⟨rfl, hf6, hE6, j1, m1, ka, Sa, la, hLx6, hj1, hm1, hka, hla, ht1⟩)
    have hM6 := move_raw (w.heap.size + 1 + 1 + 1 + 1) s j1 m1 0 ⟨#[]⟩ 0 ka Sa la _ w6 hLx6 hj1 hm1 hs hE6 (by omega)
    clear hM5
    go_upto_region 7 with (go_at_call 59; refine hM6.mono ?_; rintro e w7 ⟨rfl, hf7, hE7, j2, m2, kb, Sb, lb, hLx7, hj2, hm2, hkb, hlb, ht2⟩)
    have hRd := rdr_start hs hLx7 hj2 hm2 ht1 ht2 hka hkb hla hlb
    have hb7 : Below w.heap.size w w7 := (hb5.trans (hf6.toBelow w.heap.size (fun k hk e => by omega) hb5.size)).trans (hf7.toBelow w.heap.size (fun k hk e => by omega) (Nat.le_trans hb5.size hf6.size))
    have h47 := (h45.fr hf6 fun q h1 h2 e => by omega).fr hf7 fun q h1 h2 e => by omega
    have hz7 := hRd.lt
    obtain ⟨q0, hq0⟩ : ∃ q0, pFuns (s.data.toList.length + 2) (s.data.toList.length + 2) ⟨[], [], []⟩ (toksF (s.data.toList.length + 1) s.data.toList 0) = q0 := ⟨_, rfl⟩
    have hHR := HR.out
    rw [srcP_eq (by omega) hq0] at hHR
    have HR2 := Lib.hid hHR
    have hlx : (toksF (s.data.toList.length + 1) s.data.toList 0).length ≤ s.data.toList.length + 1 := (lex_nu _ s.data.toList 0 (Nat.le_refl _)).2
    have hI0 : ReI (s.data.toList.length + 2) (s.data.toList.length + 2) w.heap.size (w.heap.size + 1 + 1 + 1 + 1) s q0 ⟨[], [], []⟩ (toksF (s.data.toList.length + 1) s.data.toList 0) w w7 :=
      ⟨hb7, h47, ⟨[], _, none, 0, [], [], _, _, _, ⟨⟨hRd, row_none _ _ _ _, row_none _ _ _ _, row_none _ _ _ _, (fun x hx => by cases hx)⟩, row_none _ _ _ _, row_none _ _ _ _, (fun x hx => by cases hx), .nil, rfl, (fun x hx => by cases hx)⟩, by simp, rfl, by simp⟩, hE7, hz7, by omega, by omega, hq0, (fun u hu => by cases hu)⟩
    clear hHR hq0 HR hM6 hLx7 hLx6 hLx5 ht1 ht2 hRd hb7 h47 hf7 hf6 h45 hb5 hE7 hE6 hE5
    have hG := Lib.hid (show s.data.toList.length + 2 ≤ 1048578 + 2 by omega)
    generalize s.data.toList.length + 2 = G at *
    go_loopw [21] (fun _ wr => ∃ (f : Nat) (p : PP) (ts : List Tk), ReI G f w.heap.size (w.heap.size + 1 + 1 + 1 + 1) s q0 p ts w wr) (fun _ wr => 65 - lenC (wr.cell? ⟨w.heap.size + 1 + 1 + 1 + 1, 10, none⟩))
    case atStart => exact ⟨_, _, _, hI0⟩
    case round =>
      clear hI0 hz7 hlx
      obtain ⟨f, p, ts, hI⟩ := hrel
      have hRL : RdOk (w.heap.size + 1 + 1 + 1 + 1 + 1) (w.heap.size + 1 + 1 + 1 + 1) s wr := ⟨by omega, hI.ll, hs, hI.E, by omega⟩
      have hFn := function_any G _ _ s ts p wr hI.lg hI.sp hRL
      obtain ⟨fas, vN, fa, fc, ns, vs, vU, vD, vV, hSp, hul, hnl, hfl⟩ := hI.sp
      obtain ⟨S, hS, c3, c4, hk4⟩ := hSp.st.rd.now
      have c10 : wr.cell? ⟨w.heap.size + 1 + 1 + 1 + 1, 10, none⟩ = some (.slice fa fas.length fc) := hSp.st.rd.tl_ (q := 1) rfl
      have hne := hSp.st.rd.ne_nil
      have hmv := hSp.st.rd.mv_lt
      have hlg := hI.lg
      have hlf := hI.lf
      have hbw := hI.bb.size
      obtain ⟨f, rfl⟩ : ∃ f0, f = f0 + 1 := ⟨f - 1, by omega⟩
      have heq := hI.eq
      rw [pFuns] at heq
      obtain ⟨k, hk⟩ : ∃ k, (hd ts).k = k := ⟨_, rfl⟩
      rw [hk] at c3 heq hmv
      have HFL := Lib.hid hSp.flen
      have HNL := Lib.hid hnl
      have HUL := Lib.hid hul
      clear c4 hS hk4 hnl hul hk
      by_cases hk0 : k = 0
      case' neg =>
        rw [if_neg hk0] at heq
        have qk : ((k : Int) != 0) = true := by simp; omega
        have hmv := hmv hk0
        cases hp : pFun G p ts with
        | error n =>
          rw [hp] at heq hFn
          have hq0 : Hid (r = .wrong n) := by
            show _ = _
            rw [← HR2.out, ← heq]
            rfl
          have hFn2 : Calls Tryz.prog 60 #[.pointer (some ⟨w.heap.size + 1 + 1 + 1 + 1, 0, none⟩)] wr fun e w' => e = .panicked [{ v := .iface 119 (.int .i64 (n : Nat)), recovered := false }] ∧ Fr (fun q => w.heap.size + 1 + 1 + 1 + 1 ≤ q) wr w' := hFn.mono fun e w' he => ⟨he.2, he.1⟩
          clear hFn heq hp HR2 hk0
          go_wp2_with (go_at_call 60; refine hFn2.mono ?_; rintro e w8 ⟨rfl, hf8⟩)
          rw [hq0.out]
          exact read_panic n w w8 _ rfl rfl rfl rfl rfl (hI.bb.trans (hf8.toBelow w.heap.size (fun k hk e => by omega) hbw)) (hI.r4.fr hf8 fun q h1 h2 e => by omega)
        | ok x =>
          rw [hp] at heq hFn
          have hle := pFun_le hp
          obtain ⟨hone, -⟩ := pFun_one hp
          have hus := pFun_us hI.us hp
          have heq : Hid (pFuns G f x.1 x.2 = q0) := heq
          have hFn2 : Calls Tryz.prog 60 #[.pointer (some ⟨w.heap.size + 1 + 1 + 1 + 1, 0, none⟩)] wr fun e w' => e = .returned (.tuple #[]) ∧ Fr (fun q => w.heap.size + 1 + 1 + 1 + 1 ≤ q) wr w' ∧ EnvP w' ∧ SpP w' (w.heap.size + 1 + 1 + 1 + 1 + 1) (w.heap.size + 1 + 1 + 1 + 1) s x.2 x.1 := hFn.mono fun e w' he => ⟨he.2.2.1, he.1, he.2.1, he.2.2.2⟩
          clear hFn hp hk0
          go_wp2_with (go_at_call 60; refine hFn2.mono ?_; rintro e w8 ⟨rfl, hf8, hE8, hS8⟩)
          have hz8 := hf8.size
          have hlc : lenC (w8.cell? ⟨w.heap.size + 1 + 1 + 1 + 1, 10, none⟩) = fas.length + 1 ∧ fas.length < 64 := by
            obtain ⟨fas8, vN8, fa8, fc8, ns8, vs8, vU8, vD8, vV8, hSp8, -, -, hfl8⟩ := hS8
            have c8 : w8.cell? ⟨w.heap.size + 1 + 1 + 1 + 1, 10, none⟩ = some (.slice fa8 fas8.length fc8) := hSp8.st.rd.tl_ (q := 1) rfl
            have e8 := hSp8.flen
            have e0 := HFL.out
            rw [c8]
            show fas8.length = _ ∧ _
            omega
          go_roundw
          case' rel =>
            exact ⟨f, x.1, x.2, hI.bb.trans (hf8.toBelow w.heap.size (fun k hk e => by omega) hbw), hI.r4.fr hf8 fun q h1 h2 e => by omega, hS8, hE8, Nat.le_trans hI.ll hz8, by omega, by omega, heq.out, hus⟩
          case' measure =>
            show 65 - lenC (w8.cell? ⟨w.heap.size + 1 + 1 + 1 + 1, 10, none⟩) < 65 - lenC (wr.cell? ⟨w.heap.size + 1 + 1 + 1 + 1, 10, none⟩)
            rw [hlc.1, c10]
            show 65 - (fas.length + 1) < 65 - fas.length
            omega
      case' pos =>
        rw [if_pos hk0] at heq
        have qk : ((k : Int) != 0) = false := by simp; omega
        have hRv := hSp.rv
        have hfns := hSp.fns_
        have hRs := resolve_any (w.heap.size + 1 + 1 + 1 + 1 + 1) (w.heap.size + 1 + 1 + 1 + 1) p.names p.uses fas vN fa fc vU wr hRv (by omega) hI.E (by omega) (by have := HUL.out; omega) (by have := HNL.out; omega) (by have := HFL.out; omega) (by
          intro u hu
          obtain ⟨y, h1, h2⟩ := hI.us u hu
          have hk1 : (fas.map FA.key)[u.fn]? = some (keyF y) := by rw [hSp.key, List.getElem?_map, h1]; rfl
          rw [List.getElem?_map] at hk1
          obtain ⟨x, hx, hxk⟩ := Option.map_eq_some_iff.1 hk1
          have hl : x.ns.length = sizeF y.2 := by
            have := congrArg (fun z => z.2.length) hxk
            simpa [FA.key, keyF, flat_length] using this
          exact ⟨x, hx, by omega⟩)
        rw [hfns] at hRs
        obtain ⟨q1, hq1⟩ : ∃ q1, resol p.names p.uses (p.fns.map fnOf) = q1 := ⟨_, rfl⟩
        rw [hq1] at hRs
        have HR3 : Hid ((match sub q1 fun fs => Except.ok (p.names, fs) with
            | .error n => RdR.wrong n
            | .ok x => if okP x.2 = true then RdR.ok x.2 x.1 else RdR.bad) = r) := by
          show _ = _
          rw [← HR2.out, ← heq]
          show _ = (match resol p.names p.uses (p.fns.map fnOf) |> fun z => sub z fun fs => Except.ok (p.names, fs) with
            | .error n => RdR.wrong n
            | .ok x => if okP x.2 = true then RdR.ok x.2 x.1 else RdR.bad)
          rw [hq1]
        clear heq HR2 hk0
        cases q1 with
        | error n =>
          have hRs2 : Calls Tryz.prog 61 #[.pointer (some ⟨w.heap.size + 1 + 1 + 1 + 1, 0, none⟩)] wr fun e w' => e = .panicked [{ v := .iface 119 (.int .i64 (n : Nat)), recovered := false }] ∧ Fr (fun q => w.heap.size + 1 + 1 + 1 + 1 ≤ q) wr w' := hRs.mono fun e w' he => ⟨he.2, he.1⟩
          clear hRs hq1
          go_wp2_with (go_at_call 61; refine hRs2.mono ?_; rintro e w8 ⟨rfl, hf8⟩)
          rw [← HR3.out]
          exact read_panic n w w8 _ rfl rfl rfl rfl rfl (hI.bb.trans (hf8.toBelow w.heap.size (fun k hk e => by omega) hbw)) (hI.r4.fr hf8 fun q h1 h2 e => by omega)
        | ok fs =>
          clear hFn
          have hp9 := hSp.ps
          go_upto_region 10 with (go_at_call 61; refine hRs.mono ?_; rintro e w8 ⟨hf8, rfl, hE8, fas8, hfs8, hRv8⟩)
          have hp98 := ps9 (fas := fas) (fas' := fas8) (names := p.names) (us := p.uses) hp9 (by rw [hfns, hq1, hfs8])
          have h48 := hI.r4.fr hf8 fun q h1 h2 e => by omega
          have hb8 := hI.bb.trans (hf8.toBelow w.heap.size (fun k hk e => by omega) hbw)
          obtain ⟨na, nc, rfl, -⟩ := row_form hRv8.rN
          obtain ⟨hS1, hS2, hS3⟩ := hRv8.isSs
          have hP8 := hRv8.pAt hp98
          rw [hfs8] at hP8
          have hlen8 : fas8.length = fs.length := by rw [← hfs8, List.length_map]
          have k10 := hRv8.c10
          have k9 := hRv8.c9
          rw [hlen8] at k10
          have d0 := h48.p.c 0 rfl
          have y0 := h48.p.fz 0
          have hz8 := hf8.size
          clear hRs hfns hq1 hlen8 hp9 hp98 hSp hRv c10 c3
          go_upto_region 11 with fail
          have hsP : Fr (fun q => q = w.heap.size) w8 (w8.setCell ⟨w.heap.size, 0, none⟩ (.slice fa fs.length fc)) := Fr.set (.inl rfl)
          have hb9 : Below w.heap.size w (w8.setCell ⟨w.heap.size, 0, none⟩ (.slice fa fs.length fc)) := hb8.setCell (p := ⟨w.heap.size, 0, none⟩) (Nat.le_refl _) _
          have h49 : R4 (w8.setCell ⟨w.heap.size, 0, none⟩ (.slice fa fs.length fc)) w.heap.size (.slice fa fs.length fc) (.slice none 0 0) (.int .i64 0) (.int .i64 0) := ⟨h48.p.set 0 _, h48.n.far (by dsimp only; omega) _, h48.l.far (by dsimp only; omega) _, h48.e.far (by dsimp only; omega) _⟩
          have hP9 : PAt (fun g => w.heap.size + 1 + 1 + 1 + 1 + 1 ≤ g ∧ g < (w8.setCell ⟨w.heap.size, 0, none⟩ (.slice fa fs.length fc)).heap.size) (w8.setCell ⟨w.heap.size, 0, none⟩ (.slice fa fs.length fc)) fs fa fc := ⟨(hP8.fs.fr hsP fun g hg => ⟨hg.2, by omega⟩).more fun g hg => ⟨hg.1, Nat.lt_of_lt_of_le hg.2 hsP.size⟩, hP8.le, hP8.cap⟩
          have hS9 : IsSs (fun g => w.heap.size + 1 + 1 + 1 + 1 + 1 ≤ g ∧ g < (w8.setCell ⟨w.heap.size, 0, none⟩ (.slice fa fs.length fc)).heap.size) (w8.setCell ⟨w.heap.size, 0, none⟩ (.slice fa fs.length fc)) p.names na := (hS3.keep fun g hg o => hsP.cell hg.2 (by omega)).more fun g hg => ⟨hg.1, Nat.lt_of_lt_of_le hg.2 hsP.size⟩
          have k9b : (w8.setCell ⟨w.heap.size, 0, none⟩ (.slice fa fs.length fc)).cell? ⟨w.heap.size + 1 + 1 + 1 + 1, 9, none⟩ = some (.slice na p.names.length nc) := (hsP.cell hRv8.lt (by omega)).trans k9
          have hR9 : w.heap.size + 1 + 1 + 1 + 1 < (w8.setCell ⟨w.heap.size, 0, none⟩ (.slice fa fs.length fc)).heap.size := Nat.lt_of_lt_of_le hRv8.lt hsP.size
          clear k9 k10 d0 y0 hP8 hS3 hRv8
          generalize w8.setCell ⟨w.heap.size, 0, none⟩ (.slice fa fs.length fc) = w9 at *
          have d0 := h49.p.c 0 rfl
          have hCk := pcheck_any fs fa fc w9 ⟨hP9.fs.more fun g hg => hg.2, hP9.le, hP9.cap⟩
          unfold prV at hCk
          obtain ⟨z, hz⟩ : ∃ z, okP fs = z := ⟨_, rfl⟩
          rw [hz] at hCk
          have HZ := Lib.hid hz
          clear hz
          cases z
          case' false =>
            simp only [Bool.false_eq_true, if_false] at hCk
            go_upto_region 13 with (go_at_call 17; refine hCk.mono ?_; rintro e w10 ⟨rfl, hb10⟩)
            have h410 := h49.fr (S := fun _ => False) (Fr.belowAll hb10) fun _ _ _ h => h
            have hb10w := hb9.trans (hb10.mono hb9.size)
            have k0 := h410.p.c 0 rfl
            have k1 := h410.n.c 0 rfl
            have k2 := h410.l.c 0 rfl
            have k3 := h410.e.c 0 rfl
            have z0 := h410.p.fz 0
            have z1 := h410.n.fz 0
            have z2 := h410.l.fz 0
            have z3 := h410.e.fz 0
            clear d0 k9b
            go_wp2_with fail
            have hS := h410.set (vp' := .slice none 0 0) (vn' := .slice none 0 0) (vl' := .int .i64 0) (ve' := .int .i64 70)
            have hbS := hb10w.trans (set4_below (w := w10) (.slice none 0 0) (.slice none 0 0) (.int .i64 0) (.int .i64 70) (Nat.le_refl w.heap.size))
            unfold set4 at hS hbS
            have q0 := hS.p.c 0 rfl
            have q1 := hS.n.c 0 rfl
            have q2 := hS.l.c 0 rfl
            have q3 := hS.e.c 0 rfl
            show bodyPostD _ _ _ _ _ _
            refine leaves_cons (f := 58) (args := R4ptrs w.heap.size) (by simp) (by simp [go_sem, R4ptrs]) ?_
            refine (rdD_none w.heap.size _).mono ?_
            rintro e u' w11 ⟨rfl, rfl, rfl⟩
            refine ⟨.tuple #[.agg #[.slice none 0 0], .slice none 0 0, .int .i64 0, .int .i64 70], by simp [results, Tryz.results35, go_sem, q0, q1, q2, q3], ?_⟩
            rw [← HR3.out]
            show RdEnds (if okP fs = true then _ else _) w _ _
            rw [HZ.out]
            exact ⟨hbS, rfl⟩
          case' true =>
            simp only [if_true] at hCk
            go_upto_region 14 with (go_at_call 17; refine hCk.mono ?_; rintro e w10 ⟨rfl, hb10⟩)
            have h410 := h49.fr (S := fun _ => False) (Fr.belowAll hb10) fun _ _ _ h => h
            have hb10w := hb9.trans (hb10.mono hb9.size)
            have k0 := h410.p.c 0 rfl
            have k1 := h410.n.c 0 rfl
            have k2 := h410.l.c 0 rfl
            have k3 := h410.e.c 0 rfl
            have z0 := h410.p.fz 0
            have z1 := h410.n.fz 0
            have z2 := h410.l.fz 0
            have z3 := h410.e.fz 0
            have k9c := (hb10.cell (p := ⟨w.heap.size + 1 + 1 + 1 + 1, 9, none⟩) hR9).trans k9b
            clear d0 k9b
            go_region
            have hz10 := hb10w.size
            have hzz : w9.heap.size ≤ w10.heap.size := hb10.size
            have hS := h410.set (vp' := .slice fa fs.length fc) (vn' := .slice na p.names.length nc) (vl' := .int .i64 0) (ve' := .int .i64 0)
            have hbS := (hb10w.trans (set4_below (w := w10) (.slice fa fs.length fc) (.slice na p.names.length nc) (.int .i64 0) (.int .i64 0) (Nat.le_refl w.heap.size))).drew
            have hsF : Fr (fun q => w.heap.size ≤ q ∧ q ≤ w.heap.size + 1 + 1 + 1) w10 (set4 w10 w.heap.size (.slice fa fs.length fc) (.slice na p.names.length nc) (.int .i64 0) (.int .i64 0)).drew := by
              unfold set4
              exact ((((Fr.set (.inl ⟨Nat.le_refl _, by dsimp only; omega⟩)).same (Fr.set (.inl ⟨by dsimp only; omega, by dsimp only; omega⟩))).same (Fr.set (.inl ⟨by dsimp only; omega, by dsimp only; omega⟩))).same (Fr.set (.inl ⟨by dsimp only; omega, by dsimp only; omega⟩))).same Fr.drew
            have hkA : ∀ g, w.heap.size + 1 + 1 + 1 + 1 + 1 ≤ g ∧ g < w9.heap.size → g < w10.heap.size ∧ ¬ (w.heap.size ≤ g ∧ g ≤ w.heap.size + 1 + 1 + 1) := fun g hg => ⟨by omega, fun h => by omega⟩
            have hP11 := ((hP9.fs.fr (Fr.belowAll (S := fun _ => False) hb10) fun g hg => ⟨hg.2, fun h => h⟩).fr hsF hkA)
            have hS11 := (hS9.keep fun g hg o => (Fr.belowAll (S := fun _ => False) hb10).cell hg.2 (fun h => h)).keep fun g hg o => hsF.cell (hkA g hg).1 (hkA g hg).2
            have hzE : w10.heap.size ≤ (set4 w10 w.heap.size (.slice fa fs.length fc) (.slice na p.names.length nc) (.int .i64 0) (.int .i64 0)).drew.heap.size := hsF.size
            unfold set4 at hS hbS hP11 hS11 hzE
            have q0 := hS.p.c 0 rfl
            have q1 := hS.n.c 0 rfl
            have q2 := hS.l.c 0 rfl
            have q3 := hS.e.c 0 rfl
            have hle := hP9.le
            have hcap := hP9.cap
            clear k0 k1 k2 k3 z0 z1 z2 z3 k9c hS hsF
            go_wp2_with fail
            show bodyPostD _ _ _ _ _ _
            refine leaves_cons (f := 58) (args := R4ptrs w.heap.size) (by simp) (by simp [go_sem, R4ptrs]) ?_
            refine (rdD_none w.heap.size _).mono ?_
            rintro e u' w11 ⟨rfl, rfl, rfl⟩
            refine ⟨.tuple #[prV fs fa fc, .slice na p.names.length nc, .int .i64 0, .int .i64 0], by simp [prV, results, Tryz.results35, go_sem, q0, q1, q2, q3], ?_⟩
            rw [← HR3.out]
            show RdEnds (if okP fs = true then _ else _) w _ _
            rw [HZ.out]
            exact ⟨hbS, fa, fc, na, nc, rfl, ⟨hP11.more fun g hg => ⟨by omega, by omega⟩, hle, hcap⟩, hS1, hS2, hS11.more fun g hg => ⟨by omega, by omega⟩⟩
end Go.Proofs.YtjendlnicbieoaaGreatDoor
/-
  Package source: Parse, Names.
-/
namespace Go.Proofs.YtjendlnicbieoaaGreatDoor
open Go.RowKit Go.Sort

def RdR.fs : RdR → List Fn
  | .ok fs _ => fs
  | _ => []
def RdR.names : RdR → List Bs
  | .ok _ l => l
  | _ => []
def RdR.ln : RdR → Nat
  | .wrong n => n
  | _ => 0
def RdR.no : RdR → Nat
  | .long => 3
  | .wrong _ => 90
  | .bad => 70
  | .ok _ _ => 0
theorem pAt_nil (ok : Nat → Prop) (w : World) : PAt ok w [] none 0 := ⟨fun j f h => by simp at h, Nat.le_refl _, Nat.zero_le _⟩
theorem RdEnds.uni {r : RdR} {w w' : World} {e : Ending} (h : RdEnds r w e w') : Below w.heap.size w w' ∧ ∃ pa pc na nc, e = .returned (.tuple #[prV r.fs pa pc, .slice na r.names.length nc, .int .i64 (r.ln : Nat), .int .i64 (r.no : Nat)]) ∧ PAt (fun g => w.heap.size ≤ g ∧ g < w'.heap.size) w' r.fs pa pc ∧ r.names.length ≤ nc ∧ nc ≤ maxLen ∧
    IsSs (fun g => w.heap.size ≤ g ∧ g < w'.heap.size) w' r.names na := by
  obtain ⟨hb, h⟩ := h
  refine ⟨hb, ?_⟩
  cases r with
  | long => exact ⟨none, 0, none, 0, h, pAt_nil _ _, Nat.le_refl _, Nat.zero_le _, fun j x hx => by simp [RdR.names] at hx⟩
  | wrong n => exact ⟨none, 0, none, 0, h, pAt_nil _ _, Nat.le_refl _, Nat.zero_le _, fun j x hx => by simp [RdR.names] at hx⟩
  | bad => exact ⟨none, 0, none, 0, h, pAt_nil _ _, Nat.le_refl _, Nat.zero_le _, fun j x hx => by simp [RdR.names] at hx⟩
  | ok fs names => exact h
/-- How Parse ends. -/
def PrsE (r : RdR) (w : World) (e : Ending) (w' : World) : Prop := Below w.heap.size w w' ∧ ∃ pa pc, e = .returned (.tuple #[prV r.fs pa pc, .int .i64 (r.ln : Nat), .int .i64 (r.no : Nat)]) ∧ PAt (fun g => w.heap.size ≤ g ∧ g < w'.heap.size) w' r.fs pa pc
/-- How Names ends. -/
def NmsE (r : RdR) (w : World) (e : Ending) (w' : World) : Prop := Below w.heap.size w w' ∧ ∃ na nc, e = .returned (.tuple #[.slice na r.names.length nc, .int .i64 (r.no : Nat)]) ∧ r.names.length ≤ nc ∧ nc ≤ maxLen ∧ IsSs (fun g => w.heap.size ≤ g ∧ g < w'.heap.size) w' r.names na
set_option maxRecDepth 100000 in
set_option maxHeartbeats 2000000 in
theorem Parse_any (s : ByteArray) (hs : s.size ≤ 4000000) (w : World) (hE : EnvP w) (h3 : 3 < w.heap.size) : Calls Tryz.prog 15 #[.string s] w (PrsE (srcP s.data.toList) w) := by
  obtain ⟨r, hr⟩ : ∃ r, srcP s.data.toList = r := ⟨_, rfl⟩
  rw [hr]
  have hb1 := below_new w (.cells #[.slice none 0 0] 24)
  have hRd := read_any s hs _ (hE.fr (S := fun _ => False) (Fr.belowAll hb1) (fun h => h)) (Nat.lt_of_lt_of_le h3 hb1.size)
  rw [hr] at hRd
  clear hr
  have hbp := Blk.new w 24 [.slice none 0 0]
  obtain ⟨fs, hfs⟩ : ∃ fs, r.fs = fs := ⟨_, rfl⟩
  obtain ⟨ln, hln⟩ : ∃ ln, r.ln = ln := ⟨_, rfl⟩
  obtain ⟨no, hno⟩ : ∃ no, r.no = no := ⟨_, rfl⟩
  obtain ⟨nm, hnm⟩ : ∃ nm, r.names = nm := ⟨_, rfl⟩
  have hRd2 : Calls Tryz.prog 35 #[.string s] (w.alloc (.cells #[.slice none 0 0] 24)) fun e w' => Below (w.alloc (.cells #[.slice none 0 0] 24)).heap.size (w.alloc (.cells #[.slice none 0 0] 24)) w' ∧ ∃ pa pc na nc, e = .returned (.tuple #[.agg #[.slice pa fs.length pc], .slice na nm.length nc, .int .i64 (ln : Nat), .int .i64 (no : Nat)]) ∧ PAt (fun g => w.heap.size ≤ g ∧ g < w'.heap.size) w' fs pa pc ∧ w.heap.size < w'.heap.size ∧ PAt (fun g => w.heap.size + 1 ≤ g ∧ g < w'.heap.size) w' fs pa pc := by
    refine hRd.mono ?_
    intro e w' he
    obtain ⟨hb, pa, pc, na, nc, h1, h2, -⟩ := he.uni
    rw [hfs, hln, hno, hnm] at h1
    rw [hfs] at h2
    have hz := hb.size
    rw [World.size_alloc] at h2 hz
    exact ⟨hb, pa, pc, na, nc, h1, ⟨h2.fs.more fun g hg => ⟨by omega, hg.2⟩, h2.le, h2.cap⟩, by omega, h2⟩
  unfold PrsE
  rw [hfs, hln, hno]
  clear hRd hfs hln hno hnm
  go_enter Tryz.func15, Tryz.ntmps15
  go_upto_region 1 with fail
  generalize w.alloc (.cells #[.slice none 0 0] 24) = w1 at *
  go_wp2_with (go_at_call 35; refine hRd2.mono ?_; rintro e w2 ⟨hb2, pa, pc, na, nc, rfl, -, hz2, hP2⟩; have hbp2 := hbp.belowAll hb2; have k0 := hbp2.c 0 rfl; have z0 := hbp2.fz 0)
  have hsP : Fr (fun q => q = w.heap.size) w2 ((w2.setCell ⟨w.heap.size, 0, none⟩ (.slice pa fs.length pc)).setCell ⟨w.heap.size, 0, none⟩ (.slice pa fs.length pc)) := (Fr.set (S := fun q => q = w.heap.size) (q := ⟨w.heap.size, 0, none⟩) (.inl rfl)).same (Fr.set (q := ⟨w.heap.size, 0, none⟩) (.inl rfl))
  have hB := ((hbp2.set 0 (.slice pa fs.length pc)).set 0 (.slice pa fs.length pc)).c 0 rfl
  have hbb : Below w.heap.size w ((w2.setCell ⟨w.heap.size, 0, none⟩ (.slice pa fs.length pc)).setCell ⟨w.heap.size, 0, none⟩ (.slice pa fs.length pc)) := ((hb1.trans (hb2.mono hb1.size)).setCell (p := ⟨w.heap.size, 0, none⟩) (Nat.le_refl _) _).setCell (p := ⟨w.heap.size, 0, none⟩) (Nat.le_refl _) _
  refine bodyPost_ret (v := .tuple #[prV fs pa pc, .int .i64 (ln : Nat), .int .i64 (no : Nat)]) (by simp [prV, results, Tryz.results15, go_sem, hB]) rfl ?_
  exact ⟨hbb, pa, pc, rfl, ⟨(hP2.fs.fr hsP fun g hg => ⟨hg.2, by omega⟩).more fun g hg => ⟨by omega, Nat.lt_of_lt_of_le hg.2 hsP.size⟩, hP2.le, hP2.cap⟩⟩
set_option maxRecDepth 100000 in
set_option maxHeartbeats 2000000 in
theorem Names_any (s : ByteArray) (hs : s.size ≤ 4000000) (w : World) (hE : EnvP w) (h3 : 3 < w.heap.size) : Calls Tryz.prog 22 #[.string s] w (NmsE (srcP s.data.toList) w) := by
  obtain ⟨r, hr⟩ : ∃ r, srcP s.data.toList = r := ⟨_, rfl⟩
  rw [hr]
  have hRd := read_any s hs w hE h3
  rw [hr] at hRd
  clear hr
  obtain ⟨fs, hfs⟩ : ∃ fs, r.fs = fs := ⟨_, rfl⟩
  obtain ⟨ln, hln⟩ : ∃ ln, r.ln = ln := ⟨_, rfl⟩
  obtain ⟨no, hno⟩ : ∃ no, r.no = no := ⟨_, rfl⟩
  obtain ⟨nm, hnm⟩ : ∃ nm, r.names = nm := ⟨_, rfl⟩
  have hRd2 : Calls Tryz.prog 35 #[.string s] w fun e w' => Below w.heap.size w w' ∧ ∃ pa pc na nc, e = .returned (.tuple #[.agg #[.slice pa fs.length pc], .slice na nm.length nc, .int .i64 (ln : Nat), .int .i64 (no : Nat)]) ∧ nm.length ≤ nc ∧ nc ≤ maxLen ∧ IsSs (fun g => w.heap.size ≤ g ∧ g < w'.heap.size) w' nm na := by
    refine hRd.mono ?_
    intro e w' he
    obtain ⟨hb, pa, pc, na, nc, h1, -, h2, h3, h4⟩ := he.uni
    rw [hfs, hln, hno, hnm] at h1
    rw [hnm] at h2 h4
    exact ⟨hb, pa, pc, na, nc, h1, h2, h3, h4⟩
  unfold NmsE
  rw [hno, hnm]
  clear hRd hfs hln hno hnm
  go_enter Tryz.func22, Tryz.ntmps22
  go_wp2_with (go_at_call 35; refine hRd2.mono ?_; rintro e w2 ⟨hb2, pa, pc, na, nc, rfl, hn1, hn2, hn3⟩)
  go_ret2
  have hb3 := below_new w2 (.cells #[.slice pa fs.length pc] 24)
  exact ⟨hb2.trans (hb3.mono hb2.size), na, nc, rfl, hn1, hn2, (hn3.keep fun g hg o => (Fr.belowAll (S := fun _ => False) hb3).cell hg.2 (fun h => h)).more fun g hg => ⟨hg.1, Nat.lt_of_lt_of_le hg.2 hb3.size⟩⟩
end Go.Proofs.YtjendlnicbieoaaGreatDoor
