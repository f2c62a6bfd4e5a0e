/-
 TraceCodes, where what it reads is of bulk at most 1048576: for every such slice of events and slice of bytes, with the checksum put right or without the call returns true, and the arguments read as they did: the second row and its card. Printed by gen_yth.py.
-/
import Derived.Test.YtjldbbcdhdfliaaGreatDoorYTop0
import Derived.Test.YtjldbbcdhdfliaaGreatDoorTvCg
import Derived.Test.YtjldbbcdhdfliaaGreatDoorOeOb
import Derived.Carry
namespace Go.Proofs.YtjldbbcdhdfliaaGreatDoor.traceCodes
open Go.ChangeShapes Go.WideShapes Go.ChangeAt Go.RowKit
open Go.ChangeMaps (open_string shut_string)

theorem laidOut : laidOutB Tryz.prog = true := by kernel_rfl
set_option maxRecDepth 100000 in
theorem contract (H : Type) (enc : TypeId × Value → H) (W : World) (base : Nat) (args : Array Value) (ds gs : List (DataW H)) (before : List MemPlace)
  (hval : ∀ (j : Nat) t v, Tryz.f6.params[j]? = some t → args[j]? = some v → Value.okWide Tryz.prog W .any base t v)
  (hW : DataW.Whole enc Tryz.prog Tryz.f6.params.toList Rows.traceCodesSpec.vars false W args.toList ds gs before) (hbulk : Rows.uptoBulkAll (ds ++ gs) ≤ 1048576) (hL : laidMetH Tryz.prog Rows.traceCodesUptoRow.laid W) (hsh : W.ShapedOpen Tryz.prog) :
  Calls Tryz.prog 6 args W fun e W' => ∃ v, e = .returned v ∧ Rows.traceCodesSpec.post enc Tryz.prog Tryz.f6 false true false false W args v W' := by
 have hW' := hW
 have hlt : ∀ p ∈ before, p.block < W.heap.size := fun p hp => hW.lt p hp
 obtain ⟨p, q, hA0, hV, rfl, hfz, hnd⟩ := hW
 have hA : DataW.TrodAll enc Tryz.prog W 0 (fun _ => true) true Tryz.f6.params.toList args.toList ds p := hA0
 rw [Tryz.params6] at hA hval
 obtain ⟨v0, vs0, d0, ds0, p0, q0, hargs0, rfl, rfl, h0, r0⟩ := trodAll_cons hA
 obtain ⟨v1, vs1, d1, ds1, p1, q1, hargs1, rfl, rfl, h1, r1⟩ := trodAll_cons r0
 obtain ⟨v2, vs2, d2, ds2, p2, q2, hargs2, rfl, rfl, h2, r2⟩ := trodAll_cons r1
 obtain ⟨rfl, rfl, rfl⟩ := trodAll_nil r2
 obtain rfl : args = #[v0, v1, v2] := Array.toList_inj.1 (by rw [hargs0, hargs1, hargs2])
 obtain ⟨rfl, rfl⟩ := trodVars_none hV
 obtain ⟨a0, len0, cap0, rfl⟩ := okWide_slice Tryz.underlying38 (hval 0 38 v0 rfl rfl)
 have h0' := h0
 obtain ⟨fuel, hf⟩ := h0'
 obtain ⟨l, a, cap, hcs, hlc, hcm, hrow, hndl⟩ := isEs_trod hf
 have hcs2 : [Value.slice a0 len0 cap0] = [.slice a l.length cap] := hcs
 simp only [List.cons.injEq, and_true, Value.slice.injEq] at hcs2
 obtain ⟨rfl, rfl, rfl⟩ := hcs2
 obtain ⟨b0, lenb, capb, rfl⟩ := okWide_slice Tryz.underlying55 (hval 1 55 v1 rfl rfl)
 have h1' := h1
 obtain ⟨fuelb, hfb⟩ := h1'
 obtain ⟨lb, ab, cab, hcsb, hlcb, hcmb, hrowb⟩ := bytes_trod hfb
 have hcsb2 : [Value.slice b0 lenb capb] = [.slice ab lb.length cab] := hcsb
 simp only [List.cons.injEq, and_true, Value.slice.injEq] at hcsb2
 obtain ⟨rfl, rfl, rfl⟩ := hcsb2
 obtain ⟨k2, rfl, rfl, rfl⟩ := open_bool Tryz.underlying4 (hval 2 4 v2 rfl rfl) h2
 clear hA0 hcs hf hcsb hfb
 simp only [List.append_nil, Rows.uptoBulkAll] at hW' hbulk hlt
 have hL2 : laidMetH Tryz.prog [("math/bits.deBruijn32tab", Rows.laid_math_bits_deBruijn32tab), ("math/bits.deBruijn64tab", Rows.laid_math_bits_deBruijn64tab), ("internal/strconv.uint64pow10", Rows.laid_internal_strconv_uint64pow10), ("unicode/utf8.acceptRanges", Rows.laid_unicode_utf8_acceptRanges), ("strconv.ErrRange", Rows.laid_strconv_ErrRange), ("strconv.ErrSyntax", Rows.laid_strconv_ErrSyntax), ("betrothal/valtext.words", Rows.laid_betrothal_valtext_words), ("unicode/utf8.first", Rows.laid_unicode_utf8_first)] W := hL
 have hndl2 : ∀ e ∈ l, nd e.v ≤ Rows.uptoBulk d0 := hndl
 refine (tcodes_law l a0 cap0 hlc hcm lb b0 capb hlcb hcmb k2 W hrow (fun t ht => by have := hndl2 t ht; omega) hrowb (env_of hL2 hsh)).mono fun e W' ⟨he, hb⟩ => ?_
 subst he
 exact ⟨_, rfl, post_below (pa := p0 ++ p1) (pv := []) hW' (fun _ _ _ => trodAll_cons_mk (shut_bool Tryz.underlying4 _) trodAll_mk0)
  (fun sp hsp => by
   have h2 := trodAll_cons_mk (WideElems.Trod_stays (W' := W') (sp' := sp) laidOut (by kernel_rfl) (of_decide_eq_true (by kernel_rfl)) h0 (fun x hx => hb.same (hlt x (List.mem_append_left _ hx))) (fun x hx => hsp x (List.mem_append_left _ hx))) (trodAll_cons_mk (WideElems.Trod_stays (W' := W') (sp' := sp) laidOut (by kernel_rfl) (of_decide_eq_true (by kernel_rfl)) h1 (fun x hx => hb.same (hlt x (List.mem_append_right _ hx))) (fun x hx => hsp x (List.mem_append_right _ hx))) (trodAll_cons_mk (shut_bool Tryz.underlying4 k2) trodAll_mk0))
   simp only [List.append_nil] at h2
   exact h2)
  (fun _ _ => rfl) (by simp)
  hb (ok_one (by kernel_rfl) rfl (okWide_bool_mk Tryz.underlying4 _))⟩

theorem laid_met (os : Os) (args : Array Value) : laidMet Tryz.prog Rows.traceCodesUptoRow.laid ((World.laidAll Tryz.prog os Rows.traceCodesUptoRow.laid).forCall (fun _ _ => 0) ⟨#[], args, []⟩).memory :=
 laidMet_laidAll args (by kernel_rfl) (by kernel_rfl)
theorem reads (os : Os) {H : Type} (enc : TypeId × Value → H) : ∃ places, DataW.whole enc Tryz.prog ((World.laidAll Tryz.prog os Rows.traceCodesUptoRow.laid).forCall (fun _ _ => 0) ⟨#[], #[.slice none 0 0, .slice none 0 0, .bool false], []⟩).memory Tryz.f6.params.toList Rows.traceCodesSpec.vars false (#[.slice none 0 0, .slice none 0 0, .bool false] : Array Value).toList 8 = some ([.nil, .nil, .lit (.bool false)], [], places) :=
 ⟨[], by kernel_rfl⟩

set_option maxRecDepth 100000 in
theorem lifted (os : Os) (started : os.Started) (H : Type) (enc : TypeId × Value → H) (F : Stop.Interp) :
  ReturnsInHanded {} Tryz.checked os 6 .any ((Rows.OpenSpec.upto Rows.traceCodesSpec).preRow enc Tryz.prog Tryz.f6 Rows.traceCodesUptoRow.domain false Rows.traceCodesUptoRow.laid) (((Rows.OpenSpec.upto Rows.traceCodesSpec).at F).post enc Tryz.prog Tryz.f6 false true false false) := by
 obtain ⟨places, hx⟩ := reads os enc
 refine returnsInHanded_of_row (C := Tryz.checked) (s := Rows.OpenSpec.upto Rows.traceCodesSpec) own started (by kernel_rfl) Tryz.func6
  (witness_row_at (enc := enc) (C := Tryz.checked) false (World.laidAll Tryz.prog os Rows.traceCodesUptoRow.laid) #[.slice none 0 0, .slice none 0 0, .bool false] (World.laidAll_os _ _ _) (by kernel_rfl) (by kernel_rfl) (by kernel_rfl)
   (OpenSpec.preRow_of_cond 8 hx (by kernel_rfl) (fun k hk => by cases hk; kernel_rfl) (by kernel_rfl) (laid_met os _))) ?_
 intro W base args ds gs before hval hW _ hcond _ hL hsh _
 exact contract H enc W base args ds gs before hval hW (of_decide_eq_true (hcond _ rfl)) hL hsh

theorem said : Rows.TraceCodesUptoSaid :=
 OpenClaim.holds_of_cond 6 Tryz.f6 rfl rfl rfl rfl rfl rfl rfl ⟨rfl, rfl, rfl, rfl, rfl⟩ rfl rfl rfl rfl rfl (by kernel_rfl) Tryz.func6 (by kernel_rfl)
  (of_decide_eq_true (by kernel_rfl)) (by unfold Func.isWrapper; first | (rw [if_pos (by decide +kernel)]; kernel_rfl) | (rw [if_neg (by decide +kernel)]; exact ⟨rfl, rfl⟩))
  (fun os started H enc _ F => by rw [OpenClaim.pre_eq_preRow]; exact lifted os started H enc F)

theorem plain (f : FuncId) (fn : Func) (hf : Tryz.pinned.checked.prog.funcNamed "betrothal/betrothallaw23.TraceCodes" = some f) (hfn : Tryz.pinned.checked.prog.funcs[f]? = some fn) :
  true = Tryz.pinned.checked.prog.looks [] ∧ ∀ (j : Nat) t, fn.params[j]? = some t → Tryz.pinned.checked.prog.wantsStandIn t = false := by
 obtain rfl : f = 6 := Option.some.inj ((show Tryz.prog.funcNamed "betrothal/betrothallaw23.TraceCodes" = some 6 by kernel_rfl).symm.trans hf) |>.symm
 obtain rfl : fn = Tryz.f6 := (Option.some.inj (Tryz.func6.symm.trans hfn)).symm
 refine ⟨by kernel_rfl, fun j t ht => ?_⟩
 rw [Tryz.params6] at ht
 have hm : t = 38 ∨ t = 55 ∨ t = 4 := by simpa using Array.mem_of_getElem? ht
 rcases hm with rfl | rfl | rfl
 ·exact (show Tryz.prog.wantsStandIn 38 = false by kernel_rfl)
 ·exact (show Tryz.prog.wantsStandIn 55 = false by kernel_rfl)
 ·exact (show Tryz.prog.wantsStandIn 4 = false by kernel_rfl)

theorem card : Rows.TraceCodesUptoCardSaid :=
 Claim7.holds_tied_plain_at .later [] _ _ _ _ said (fun _ h => by cases h) (by kernel_rfl) (fun _ h => by cases h) traceCodesUpto_row_tie rfl ⟨rfl, rfl⟩ (by kernel_rfl) rfl plain (by kernel_rfl)
end Go.Proofs.YtjldbbcdhdfliaaGreatDoor.traceCodes
namespace Go.Proofs.YtjldbbcdhdfliaaGreatDoor
theorem traceCodesUpto_holds : Rows.TraceCodesUptoCardSaid := traceCodes.card
end Go.Proofs.YtjldbbcdhdfliaaGreatDoor
#print axioms Go.Proofs.YtjldbbcdhdfliaaGreatDoor.traceCodesUpto_holds
