/-
 Layer 23: what the rows' lists give: the words' table, the table of powers, the two errors of strconv; a row's end.
-/
import Derived.Test.YtjldbbcdhdfliaaGreatDoorCards
import Derived.Test.YtjldbbcdhdfliaaGreatDoorTie
import Derived.Test.YtjldbbcdhdfliaaGreatDoorTbTc
import Derived.ProofKit
import Derived.OpenShut
import Derived.Below
import Derived.ChangeSame
import Derived.Deep.DeepHandedRow
import Derived.Lib.LaidTab
import Derived.Stop.LaidErr
import Derived.Lay
namespace Go.Proofs.YtjldbbcdhdfliaaGreatDoor
open Go.ChangeShapes Go.WideShapes Go.ChangeAt Go.RowKit

/-- An array of strings that reads as a list of strings holds them. -/
theorem cells_of_strs {H : Type} {enc : TypeId × Value → H} {P : Program} {w : World} {base : Nat} {sp : Nat → Bool} {held : Bool} {fuel : Nat} {t e : TypeId} {n : Nat} {cs : List Value} {ss : List ByteArray} {p : List MemPlace}
  (ht : P.underlying t = some (.array n e)) (he : P.underlying e = some .string) (hce : P.cellsOf e = 1) (hct : P.cellsOf t = n)
  (h : DataW.trod enc P w base sp held fuel t cs = some (.agg (ss.map fun s => .lit (.string s.data.toList)), p)) : cs = ss.map fun s => Value.string s := by
 cases fuel with
 | zero => simp [DataW.trod] at h
 | succ fuel =>
  simp only [DataW.trod, ht, hce, hct, Nat.mul_one] at h
  split at h
  ·rename_i hl
   obtain ⟨xs, hm, hx⟩ := Option.map_eq_some_iff.1 h
   have hxs : xs.map (·.1) = ss.map fun s => (DataW.lit (.string s.data.toList) : DataW H) := by
    have := congrArg Prod.fst hx
    simpa using this
   have hxl : xs.length = n := by simpa using Lib.mapM_length hm
   have hzl : ss.length = n := by
    have := congrArg List.length hxs
    simp at this
    omega
   apply List.ext_getElem?
   intro i
   by_cases hi : i < n
   ·obtain ⟨b, hb, hf⟩ := Lib.mapM_at hm i i (by simp [hi])
    obtain ⟨z, hc, rfl, _⟩ := DataW.trod_string he hf
    have h1 : cs[i]? = some (.string z) := by
     have := congrArg (·[0]?) hc
     simpa [List.getElem?_take, List.getElem?_drop] using this
    have h2 : (xs.map (·.1))[i]? = some (DataW.lit (.string z.data.toList) : DataW H) := by simp [hb]
    rw [hxs] at h2
    simp only [List.getElem?_map, Option.map_eq_some_iff, DataW.lit.injEq, Lit.string.injEq] at h2
    obtain ⟨z', hz', he2⟩ := h2
    have he3 : z' = z := by
     obtain ⟨d⟩ := z
     obtain ⟨d'⟩ := z'
     simp only at he2
     rw [show d' = d from Array.toList_inj.1 he2]
    subst he3
    simp [h1, hz']
   ·rw [List.getElem?_eq_none (by omega), List.getElem?_eq_none (by simp; omega)]
  ·cases h

theorem own : ownKnob Tryz.prog.godebug = none := by kernel_rfl
theorem gW : Tryz.prog.globalNamed "betrothal/valtext.words" = some 0 := by kernel_rfl
theorem gWT : (Tryz.prog.globals[0]?).map (·.type) = some 209 := by kernel_rfl
theorem gP : Tryz.prog.globalNamed "internal/strconv.uint64pow10" = some 4 := by kernel_rfl
theorem gPT : (Tryz.prog.globals[4]?).map (·.type) = some 236 := by kernel_rfl
theorem gD : Tryz.prog.globalNamed "math/bits.deBruijn64tab" = some 8 := by kernel_rfl
theorem cStr : Tryz.prog.cellsOf 9 = 1 := by kernel_rfl
theorem cWords : Tryz.prog.cellsOf 209 = 14 := by kernel_rfl
theorem cU64 : Tryz.prog.cellsOf 111 = 1 := by kernel_rfl
theorem cPow : Tryz.prog.cellsOf 236 = 20 := by kernel_rfl
def wdL : List ByteArray := [wdB 0, wdB 1, wdB 2, wdB 3, wdB 4, wdB 5, wdB 6, wdB 7, wdB 8, wdB 9, wdB 10, wdB 11, wdB 12, wdB 13]
theorem laid_words_eq : (Rows.laid_betrothal_valtext_words : DataW Unit) = .agg (wdL.map fun s => .lit (.string s.data.toList)) := by kernel_rfl
theorem laid_pow_eq : (Rows.laid_internal_strconv_uint64pow10 : DataW Unit) = Lib.tabData .u64 Lib.pow10Tab := by kernel_rfl

theorem words_of {W : World} {rest : List (String × DataW Unit)} (h : laidMet Tryz.prog (("betrothal/valtext.words", Rows.laid_betrothal_valtext_words) :: rest) W) : HasWords W := by
 obtain ⟨ps, ⟨g', t', cs, fuel, p, q, hg', ht', hvar, hd, _, _⟩, _⟩ := h
 obtain rfl := Option.some.inj (gW.symm.trans hg')
 obtain rfl := Option.some.inj (gWT.symm.trans ht')
 rw [laid_words_eq] at hd
 have hc := cells_of_strs (ss := wdL) Tryz.underlying209 Tryz.underlying9 cStr cWords hd
 have hc2 : cs = wordCells := by
  apply Array.toList_inj.1
  rw [hc]
  rfl
 simp only [World.var?, gW, Option.bind_some] at hvar
 unfold HasWords
 split at hvar
 ·rename_i cs2 t2 fr2 hh
  injection hvar with hvar
  subst hvar
  rw [hc2] at hh
  exact ⟨t2, fr2, hh⟩
 ·cases hvar
theorem size_of {W : World} {d : DataW Unit} {rest : List (String × DataW Unit)} (h : laidMet Tryz.prog (("math/bits.deBruijn64tab", d) :: rest) W) : 5 ≤ W.heap.size := by
 obtain ⟨ps, ⟨g', t', cs, fuel, p, q, hg', ht', hvar, hd, _, _⟩, _⟩ := h
 simp only [World.var?, gD, Option.bind_some] at hvar
 split at hvar
 ·rename_i hh
  have := lt_of_heap hh
  omega
 ·cases hvar
theorem gER : Tryz.prog.globalNamed "strconv.ErrRange" = some 3 := by kernel_rfl
theorem gERT : (Tryz.prog.globals[3]?).map (·.type) = some 161 := by kernel_rfl
theorem gES : Tryz.prog.globalNamed "strconv.ErrSyntax" = some 2 := by kernel_rfl
theorem gEST : (Tryz.prog.globals[2]?).map (·.type) = some 161 := by kernel_rfl
theorem cErr : Tryz.prog.cellsOf 247 = 1 := by kernel_rfl
theorem starE : "*" ++ "errors.errorString" = "*errors.errorString" := by decide
theorem rowErr (u : TypeId) (h : Tryz.prog.typeName? 3 u = some "*errors.errorString") : u = 245 :=
 typeName_ptr_named (nm := "errors.errorString") (by rw [starE]; kernel_rfl) (by kernel_rfl) (by decide) u (by rw [starE]; exact h)
theorem env_of {W : World} (h : laidMetH Tryz.prog [("math/bits.deBruijn32tab", Rows.laid_math_bits_deBruijn32tab), ("math/bits.deBruijn64tab", Rows.laid_math_bits_deBruijn64tab), ("internal/strconv.uint64pow10", Rows.laid_internal_strconv_uint64pow10), ("unicode/utf8.acceptRanges", Rows.laid_unicode_utf8_acceptRanges), ("strconv.ErrRange", Rows.laid_strconv_ErrRange), ("strconv.ErrSyntax", Rows.laid_strconv_ErrSyntax), ("betrothal/valtext.words", Rows.laid_betrothal_valtext_words), ("unicode/utf8.first", Rows.laid_unicode_utf8_first)] W) (hsh : W.ShapedOpen Tryz.prog) : EnvT W := by
 have h1 : laidMet Tryz.prog [("math/bits.deBruijn32tab", Rows.laid_math_bits_deBruijn32tab), ("math/bits.deBruijn64tab", Rows.laid_math_bits_deBruijn64tab), ("internal/strconv.uint64pow10", Rows.laid_internal_strconv_uint64pow10), ("unicode/utf8.acceptRanges", Rows.laid_unicode_utf8_acceptRanges), ("strconv.ErrRange", Rows.laid_strconv_ErrRange), ("strconv.ErrSyntax", Rows.laid_strconv_ErrSyntax), ("betrothal/valtext.words", Rows.laid_betrothal_valtext_words), ("unicode/utf8.first", Rows.laid_unicode_utf8_first)] W := h
 have h2 := h1.tail
 have h3 := h2.tail
 have h5 := h3.tail.tail
 have h6 := h5.tail
 have h7 := h6.tail
 rw [laid_pow_eq] at h3
 refine ⟨⟨words_of h7, Lib.tabIs_of_head gP gPT Tryz.underlying236 Tryz.underlying111 cU64 cPow h3, ?_, size_of h2⟩, ?_, ?_⟩
 ·exact Go.Proofs.cell_of_shapedOpen_int (zero := #[.int .i64 0]) (t := 3) hsh (of_decide_eq_true (by kernel_rfl)) (by kernel_rfl) rfl (by kernel_rfl) (by kernel_rfl) Tryz.underlying3
 ·obtain ⟨a, s, hv, -⟩ := laid_sentinel h6 gES gEST Tryz.underlying161 rowErr Tryz.underlying245 Tryz.underlying247 rfl rfl Tryz.underlying9 cErr cStr
  exact ⟨_, by simpa using World.var?_cell gES hv 0, .inr ⟨_, _, rfl⟩⟩
 ·obtain ⟨a, s, hv, -⟩ := laid_sentinel h5 gER gERT Tryz.underlying161 rowErr Tryz.underlying245 Tryz.underlying247 rfl rfl Tryz.underlying9 cErr cStr
  exact ⟨_, by simpa using World.var?_cell gER hv 0, .inr ⟨_, _, rfl⟩⟩

section
variable {H : Type} {enc : TypeId × Value → H} {P : Program}
/-- A row's end where nothing that was there has turned: the arguments read as they read. -/
theorem post_below {f : Func} {s : ChangeSpec} {apart fresh handsOn again : Bool} {W W' : World} {args : Array Value} {v : Value} {ds gs : List (DataW H)} {before pa pv : List MemPlace}
  (hW : DataW.Whole enc P f.params.toList s.vars apart W args.toList ds gs before)
  (hres : ∀ (b : Nat) (sp : Nat → Bool) (hd : Bool), DataW.TrodAll enc P W' b sp hd f.resultTypes.toList (v.resultList f.resultTypes.size) (s.fn H (ds ++ gs)).results [])
  (hargs : ∀ sp : Nat → Bool, (∀ p ∈ before, sp p.block = true) → DataW.TrodAll enc P W' 0 sp true f.params.toList args.toList (s.fn H (ds ++ gs)).args pa)
  (hvars : ∀ sp : Nat → Bool, (∀ p ∈ before, sp p.block = true) → DataW.TrodVars enc P W' sp s.vars (s.fn H (ds ++ gs)).vars pv)
  (hps : before = pa ++ pv) (hb : Below W.heap.size W W')
  (hok : ∀ (j : Nat) (t : TypeId) (r : Value), f.resultTypes[j]? = some t → (v.resultList f.resultTypes.size)[j]? = some r → Value.okWide P W' .any 0 t r) :
  s.post enc P f apart fresh handsOn again W args v W' := by
 have old : ∀ p ∈ before, p.block < W.heap.size := fun p hp => hW.lt p hp
 refine ⟨ds, gs, before, [], pa, pv, hW, hres _ _ _, hargs (fun b => decide (b < W.heap.size)) (fun p hp => by simpa using old p hp), hvars (fun b => decide (b < W.heap.size)) (fun p hp => by simpa using old p hp), World.keptBut_mono (fun p hp => ⟨hp, .inr (by rw [hps] at hp; simpa using hp)⟩) (hb.frame (· ∈ before)), fun _ => ?_⟩
 obtain ⟨_, _, _, _, _, hz, hn⟩ := hW
 refine ⟨hok, _, _, ([] ++ pa) ++ pv, ⟨[] ++ pa, pv, trodAll_append (hargs _ (fun _ _ => rfl)) (hres _ _ _), hvars _ (fun _ _ => rfl), rfl, fun b off hp => ?_, fun ha => ?_⟩, fun p hp _ => by rw [hps]; simpa using hp⟩
 ·have hin : MemPlace.cell b off ∈ before := by rw [hps]; simpa using hp
  exact (hb.frozen (old _ hin)).trans (hz b off hin)
 ·have h := hn ha
  rw [hps] at h
  simpa using h
end
end Go.Proofs.YtjldbbcdhdfliaaGreatDoor
