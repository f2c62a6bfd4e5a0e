/-
  MachineNone: the contract that the row asks for;what the row looks at. The condition: what the row lists is laid.
-/
import Derived.Test.YtmchabopafimeaaGreatDoorCards
import Derived.Test.YtmchabopafimeaaGreatDoorTie
import Derived.Test.YtmchabopafimeaaGreatDoorQbd
import Derived.OpenShut
import Derived.ChangeSame
import Derived.Deep.DeepHandedRow
import Derived.Lib.LaidTab
import Derived.Lay
import Derived.Stop.LaidErr
namespace Go.Proofs.YtmchabopafimeaaGreatDoor
open Go.ChangeShapes Go.WideShapes Go.ChangeAt Go.RowKit _root_.Go.Proofs.Tryz
namespace machineNone
theorem own:ownKnob prog.godebug=none:=by kernel_rfl
theorem eqB:(Rows.laid_math_bits_deBruijn64tab:DataW Unit)=Lib.tabData .u8 [0,1,56,2,57,49,28,3,61,58,42,50,38,29,17,4,62,47,59,36,45,43,51,22,53,39,33,30,24,18,12,5,63,55,48,27,60,41,37,16,46,35,44,21,52,32,23,11,54,26,40,15,34,20,31,10,25,14,19,9,13,8,7,6]:=by kernel_rfl
theorem eqF:(Rows.laid_betrothal_force_bounds:DataW Unit)=Lib.tabData .i64 [32,32,32]:=by kernel_rfl
theorem eqS:(Rows.laid_betrothal_channel_sides:DataW Unit)=Lib.tabData .i64 [1,2]:=by kernel_rfl
theorem tB:(prog.globals[0]?).map (·.type)=some 166:=by kernel_rfl
theorem cB:prog.cellsOf 166=64:=by kernel_rfl
theorem eB:prog.cellsOf 5=1:=by kernel_rfl
theorem tS:(prog.globals[1]?).map (·.type)=some 183:=by kernel_rfl
theorem cS:prog.cellsOf 183=2:=by kernel_rfl
theorem eS:prog.cellsOf 182=1:=by kernel_rfl
theorem tF:(prog.globals[2]?).map (·.type)=some 335:=by kernel_rfl
theorem cF:prog.cellsOf 335=3:=by kernel_rfl
theorem eF:prog.cellsOf 3=1:=by kernel_rfl
theorem post_below {H:Type} {enc:TypeId×Value→H} {P:Program} {f:Func} {s:ChangeSpec} {apart fresh handsOn again:Bool} {W W':World} {args:Array Value} {v:Value} {ds gs:List (DataW H)} {before pa pv:List MemPlace}
  (hW:DataW.Whole enc P f.params.toList s.vars apart W args.toList ds gs before)
  (hres:∀ (b:Nat) (sp:Nat→Bool) (hd:Bool),DataW.TrodAll enc P W' b sp hd f.resultTypes.toList (v.resultList f.resultTypes.size) (s.fn H (ds++gs)).results [])
  (hargs:∀ sp:Nat→Bool,(∀ p∈before,sp p.block=true)→DataW.TrodAll enc P W' 0 sp true f.params.toList args.toList (s.fn H (ds++gs)).args pa)
  (hvars:∀ sp:Nat→Bool,(∀ p∈before,sp p.block=true)→DataW.TrodVars enc P W' sp s.vars (s.fn H (ds++gs)).vars pv)
  (hps:before=pa++pv) (hb:Below W.heap.size W W')
  (hok:∀ (j:Nat) (t:TypeId) (r:Value),f.resultTypes[j]?=some t→(v.resultList f.resultTypes.size)[j]?=some r→Value.okWide P W' .any 0 t r) :
  s.post enc P f apart fresh handsOn again W args v W':=by
 have old:∀ p∈before,p.block<W.heap.size:=fun p hp=>hW.lt p hp
 refine ⟨ds,gs,before,[],pa,pv,hW,hres _ _ _,hargs (fun b=>decide (b<W.heap.size)) (fun p hp=>by simpa using old p hp),hvars (fun b=>decide (b<W.heap.size)) (fun p hp=>by simpa using old p hp),World.keptBut_mono (fun p hp=>⟨hp,.inr (by rw [hps] at hp;simpa using hp)⟩) (hb.frame (·∈before)),fun _=>?_⟩
 obtain ⟨_,_,_,_,_,hz,hn⟩:=hW
 refine ⟨hok,_,_,([]++pa)++pv,⟨[]++pa,pv,trodAll_append (hargs _ (fun _ _=>rfl)) (hres _ _ _),hvars _ (fun _ _=>rfl),rfl,fun b off hp=>?_,fun ha=>?_⟩,fun p hp _=>by rw [hps];simpa using hp⟩
 ·have hin:MemPlace.cell b off∈before:=by rw [hps];simpa using hp
  exact (hb.frozen (old _ hin)).trans (hz b off hin)
 ·have h:=hn ha
  rw [hps] at h
  simpa using h
set_option maxRecDepth 100000 in
theorem contract (H:Type) (enc:TypeId×Value→H) (W:World) (base:Nat) (args:Array Value) (ds gs:List (DataW H)) (before:List MemPlace)
  (hval:∀ (j:Nat) t v,Tryz.f3.params[j]?=some t→args[j]?=some v→Value.okWide prog W .any base t v)
  (hW:DataW.Whole enc prog Tryz.f3.params.toList Rows.machineNoneSpec.vars false W args.toList ds gs before) (hL:laidMetH prog Rows.machineNoneRow.laid W) (hS:W.ShapedOpen prog) :
  Calls prog 3 args W fun e W'=>∃ v,e=.returned v∧Rows.machineNoneSpec.post enc prog Tryz.f3 false true false false W args v W':=by
 have hW':=hW
 obtain ⟨p,q,hA0,hV,rfl,hfz,hnd⟩:=hW
 have hA:DataW.TrodAll enc prog W 0 (fun _=>true) true Tryz.f3.params.toList args.toList ds p:=hA0
 rw [params3] at hA hval
 obtain ⟨v0,vs0,d0,ds0,p0,q0,hargs,rfl,rfl,h0,r0⟩:=trodAll_cons hA
 obtain ⟨v1,vs1,d1,ds1,p1,q1,rfl,rfl,rfl,h1,r1⟩:=trodAll_cons r0
 obtain ⟨v2,vs2,d2,ds2,p2,q2,rfl,rfl,rfl,h2,r2⟩:=trodAll_cons r1
 obtain ⟨rfl,rfl,rfl⟩:=trodAll_nil r2
 obtain rfl:args=#[v0,v1,v2]:=Array.toList_inj.1 (by rw [hargs])
 obtain ⟨rfl,rfl⟩:=trodVars_none hV
 obtain ⟨n0,rfl,rfl,rfl,w0⟩:=open_int underlying22 (hval 0 22 v0 rfl rfl) h0
 obtain ⟨n1,rfl,rfl,rfl,w1⟩:=open_int underlying3 (hval 1 3 v1 rfl rfl) h1
 obtain ⟨b2,rfl,rfl,rfl⟩:=open_bool underlying4 (hval 2 4 v2 rfl rfl) h2
 clear hA0
 have h:laidMet prog [("math/bits.deBruijn64tab",Rows.laid_math_bits_deBruijn64tab),("betrothal/force.bounds",Rows.laid_betrothal_force_bounds),("betrothal/channel.sides",Rows.laid_betrothal_channel_sides)] W:=hL
 have k0:=h
 rw [eqB] at k0
 have qB:=Lib.tabIs_of_head gB tB underlying166 underlying5 eB cB k0
 have k1:=h.tail
 rw [eqF] at k1
 have qF:=Lib.tabIs_of_head gF tF underlying335 underlying3 eF cF k1
 have k2:=h.tail.tail
 rw [eqS] at k2
 have qS:=Lib.tabIs_of_head gS tS underlying183 underlying182 eS cS k2
 refine (mnone_main n0 n1 b2 hS qS qF qB).mono fun e W' ⟨he,hb⟩=>?_
 subst he
 exact ⟨_,rfl,post_below (pa:=[]) (pv:=[]) hW' (fun _ _ _=>trodAll_cons_mk (shut_bool underlying4 _) trodAll_mk0)
  (fun sp hsp=>trodAll_cons_mk (shut_int underlying22 w0) (trodAll_cons_mk (shut_int underlying3 w1) (trodAll_cons_mk (shut_bool underlying4 b2) trodAll_mk0)))
  (fun _ _=>rfl) (by simp)
  hb (ok_one (by kernel_rfl) rfl (okWide_bool_mk underlying4 _))⟩
theorem laid_met (os:Os) (args:Array Value):laidMet prog Rows.machineNoneRow.laid ((World.laidAll prog os Rows.machineNoneRow.laid).forCall (fun _ _=>0) ⟨#[],args,[]⟩).memory :=
 laidMet_laidAll args (by kernel_rfl) (by kernel_rfl)
theorem reads (os:Os) {H:Type} (enc:TypeId×Value→H):∃ places,DataW.whole enc prog ((World.laidAll prog os Rows.machineNoneRow.laid).forCall (fun _ _=>0) ⟨#[],#[.int .u64 0,.int .i64 0,.bool false],[]⟩).memory Tryz.f3.params.toList Rows.machineNoneSpec.vars false (#[.int .u64 0,.int .i64 0,.bool false]:Array Value).toList 8=some ([.lit (.int .u64 0),.lit (.int .i64 0),.lit (.bool false)],[],places) :=
 ⟨[],by kernel_rfl⟩
set_option maxRecDepth 100000 in
theorem lifted (os:Os) (started:os.Started) (H:Type) (enc:TypeId×Value→H) (F:Stop.Interp) :
  ReturnsInHanded {} checked os 3 .any ((OpenSpec.ofChange Rows.machineNoneSpec).preRow enc prog Tryz.f3 Rows.machineNoneRow.domain false Rows.machineNoneRow.laid) (((OpenSpec.ofChange Rows.machineNoneSpec).at F).post enc prog Tryz.f3 false true false false):=by
 obtain ⟨places,hx⟩:=reads os enc
 refine returnsInHanded_of_row (C:=checked) (s:=OpenSpec.ofChange Rows.machineNoneSpec) own started (by kernel_rfl) func3
  (witness_row_at (enc:=enc) (C:=checked) false (World.laidAll prog os Rows.machineNoneRow.laid) #[.int .u64 0,.int .i64 0,.bool false] (World.laidAll_os _ _ _) (by kernel_rfl) (by kernel_rfl) (by kernel_rfl)
   (OpenSpec.preRow_of_cond 8 hx (by kernel_rfl) (fun k hk=>by cases hk) (by kernel_rfl) (laid_met os _))) ?_
 intro W base args ds gs before hval hW _ _ _ hL hsh _
 exact contract H enc W base args ds gs before hval hW hL hsh
theorem plain (f:FuncId) (fn:Func) (hf:Tryz.pinned.checked.prog.funcNamed "betrothal/betrothallaw22.MachineNone"=some f) (hfn:Tryz.pinned.checked.prog.funcs[f]?=some fn) :
  true=Tryz.pinned.checked.prog.looks []∧∀ (j:Nat) t,fn.params[j]?=some t→Tryz.pinned.checked.prog.wantsStandIn t=false:=by
 obtain rfl:f=3:=Option.some.inj ((show prog.funcNamed "betrothal/betrothallaw22.MachineNone"=some 3 by kernel_rfl).symm.trans hf) |>.symm
 obtain rfl:fn=Tryz.f3:=(Option.some.inj (func3.symm.trans hfn)).symm
 refine ⟨by kernel_rfl,fun j t ht=>?_⟩
 rw [params3] at ht
 have hm:t=22 ∨ t=3 ∨ t=4:=by simpa using Array.mem_of_getElem? ht
 rcases hm with rfl | rfl | rfl
 ·exact (show prog.wantsStandIn 22=false by kernel_rfl)
 ·exact (show prog.wantsStandIn 3=false by kernel_rfl)
 ·exact (show prog.wantsStandIn 4=false by kernel_rfl)
end machineNone
end Go.Proofs.YtmchabopafimeaaGreatDoor
