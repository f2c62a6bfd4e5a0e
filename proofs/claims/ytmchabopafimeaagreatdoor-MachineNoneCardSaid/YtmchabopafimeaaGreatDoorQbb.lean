import Derived.Test.YtmchabopafimeaaGreatDoorQba
namespace Go.Proofs.YtmchabopafimeaaGreatDoor
set_option maxRecDepth 100000
set_option maxHeartbeats 16000000
set_option linter.all false
open Go.RowKit Go.Sort Tryz
section
def aL (mv:Value) (w:World):Prop:=∀w',Below w.heap.size w w'→Calls prog 22 #[mv] w' fun e G=>e= .returned (.bool true)∧w'=G
def jz (w):aL (.pointer none) w:=fun w' _=>vs w'
def u1 {w Y cs} (h:A w Y 32 cs) (h3:cs[3]? =some (.pointer none)):aL (π Y) w:=by intro w' hb;have c3:=Zz (w:=w') ((hb.block Y h.lt).trans h) 3 h3;clear h hb;go_enter func22,ntmps22;go_wp2_with fail;go_ret;exact⟨rfl,rfl⟩
section
variable {mv:Value} {w:World}
def aL.at (h:aL mv w):Calls prog 22 #[mv] w fun e G=>e= .returned (.bool true)∧w=G:=h w (Zj _ _)
def aL.below (h:aL mv w) {w'} (hb:Below (ν w) w w'):aL mv w':=fun G aa=>h G (hb.trans (aa.mono hb.size))
def ll (h:aL mv w):Calls prog 9 #[mv] w (μ (ι 0) w):=by have hn:=h.at;clear h;go_enter func9,ntmps9;go_wp2_with (go_at_call 22;refine γ hn ?_);go_ret;exact⟨rfl,rfl⟩
def nn (h:aL mv w):Calls prog 10 #[mv] w (μ (.slice none 0 0) w):=by have hn:=h.at;clear h;go_enter func10,ntmps10;go_wp2_with (go_at_call 22;refine γ hn ?_);go_ret;exact⟨rfl,rfl⟩
def i7 (h:aL mv w):Calls prog 11 #[mv] w (μ (ι 0) w):=by have hn:=h.at;clear h;go_enter func11,ntmps11;go_wp2_with (go_at_call 22;refine γ hn ?_);go_ret;exact⟨rfl,rfl⟩
def ld (h:aL mv w):Calls prog 12 #[mv] w (μ (ι 0) w):=by have hn:=h.at;clear h;go_enter func12,ntmps12;go_wp2_with (go_at_call 22;refine γ hn ?_);go_ret;exact⟨rfl,rfl⟩
def lY (h:aL mv w):Calls prog 13 #[mv] w (μ (.pointer none) w):=by have hn:=h.at;clear h;go_enter func13,ntmps13;go_wp2_with (go_at_call 22;refine γ hn ?_);go_ret;exact⟨rfl,rfl⟩
def lO (h:aL mv w):Calls prog 14 #[mv] w (μ (.slice none 0 0) w):=by have hn:=h.at;clear h;go_enter func14,ntmps14;go_wp2_with (go_at_call 22;refine γ hn ?_);go_ret;exact⟨rfl,rfl⟩
def li (h:aL mv w):Calls prog 15 #[mv] w (μ (.slice none 0 0) w):=by have hn:=h.at;clear h;go_enter func15,ntmps15;go_wp2_with (go_at_call 22;refine γ hn ?_);go_ret;exact⟨rfl,rfl⟩
def it (h:aL mv w):Calls prog 18 #[mv] w (μ (.pointer none) w):=by have hn:=h.at;clear h;go_enter func18,ntmps18;go_wp2_with (go_at_call 22;refine γ hn ?_);go_ret;exact⟨rfl,rfl⟩
def oD (h:aL mv w) (n):Calls prog 6 #[mv,n] w (μ (.tuple #[.pointer none,Δ]) w):=by have hn:=h.at;clear h;go_enter func6,ntmps6;go_wp2_with (go_at_call 22;refine γ hn ?_);exact Zl (v:= .tuple #[.pointer none,Δ]) (by simp[results,results6,go_sem]) rfl ⟨rfl,rfl⟩
def kW (h:aL mv w) (n):Calls prog 5 #[mv,n] w (μ (.tuple #[ι 0,ι 1]) w):=by have hn:=h.at;clear h;go_enter func5,ntmps5;go_wp2_with (go_at_call 22;refine γ hn ?_);exact Zl (v:= .tuple #[ι 0,ι 1]) (by simp[results,results5,go_sem]) rfl ⟨rfl,rfl⟩
def lP (h:aL mv w):Calls prog 16 #[mv] w (ϑ (.agg #[ζ]) w):=by obtain⟨w1,aP,-,b1,Z⟩:=al1 w 56 [ζ];have hn:=(h.below b1).at;obtain⟨r0,f0,-⟩:=kb0 Z;have hp:=Z.set 0 (.slice none 0 0);have HB:=χ (b1.setCell (p:=κ (ν w) 0) (Zc _) (.slice none 0 0));clear h Z b1;go_enter func16,ntmps16;go_wp2_with (go_at_call 22;refine γ hn ?_);exact Zl (v:= .agg #[ζ]) (by simp[results,results16,go_sem,hp.c 0 rfl]) rfl ⟨rfl,HB.out⟩
def mM (h:aL mv w):Calls prog 17 #[mv] w (ϑ (.agg #[ι 0,ι 0,ι 0]) w):=by obtain⟨w1,aP,-,b1,Z⟩:=al1 w 58 [ι 0,ι 0,ι 0];have hn:=(h.below b1).at;obtain⟨r0,f0,r1,f1,r2,f2,-⟩:=kb2 Z;have hp:=cA Z (ι 0) (ι 0) (ι 0);have HB:=χ (cU b1 (Zc _) (ι 0) (ι 0) (ι 0));clear h Z b1;go_enter func17,ntmps17;go_wp2_with (go_at_call 22;refine γ hn ?_);exact Zl (v:= .agg #[ι 0,ι 0,ι 0]) (by simp[results,results17,go_sem,hp.c 0 rfl,hp.c 1 rfl,hp.c 2 rfl]) rfl ⟨rfl,HB.out⟩
def wI (a1) {w be} (H:A w be 33 [ι 0]):CallsD prog 20 #[π be,a1] .returning w fun e u' w'=>e= .returned (.tuple #[])∧u'= .returning∧w'=w:=by
 have c0:=H.c 0 rfl;have h:=no (π be) w;clear H;refine ZB func20 rfl fun c₀ cs hu=>?_;apply ZW;apply ZH;simp[wpOpsS,go_sem,recoverD,hu,ntmps20,Exit.thenS];refine γ h ?_;refine xS ?_;go_wp2_with fail;cases c₀
 simp_all [bodyPostS,results,results20]
def jd (n) (hn:n≠0) {w bl be v0 v1} (h0:A w bl 29 [v0]) (H:A w be 33 [v1]) (ay:bl≠be):CallsD prog 20 #[π be,π bl] (.panicking [{v:=d1 n,recovered:=false}]) w fun e u' w'=>e= .returned (.tuple #[])∧u'= .panicking [{v:=d1 n,recovered:=true}]∧A w' bl 29 [ζ]∧A w' be 33 [ι n]∧Fr (fun b=>b=bl∨b=be) w w':=by
  have h:=k9 n H;have hq:(n != 0)=true:=by simp[hn]
  have l0:=h0.lt;refine ZB func20 rfl fun c₀ cs hu=>?_;apply ZW;apply ZH;simp[wpOpsS,go_sem,recoverD,hu,ntmps20,Exit.thenS];refine h.mono ?_;rintro e w1 ⟨rfl,Z,hF⟩;have O:=(hF.block bl l0 (by simpa using ay)).trans h0;obtain⟨r0,f0,-⟩:=kb0 O;have r1:=Z.c 0 rfl;have hP:A (σ w1 bl 0 (.slice none 0 0)) bl 29 [ζ]∧A (σ w1 bl 0 (.slice none 0 0)) be 33 [ι n]∧Fr (fun b=>b=bl∨b=be) w (σ w1 bl 0 (.slice none 0 0)):=⟨Yi O 0 _,Z.BJ (q:=κ bl 0) (fun e=>ay e.symm) _,(hF.more fun b _ e=>.inr e).same (Z4 (q:=κ bl 0) (.inl (.inl rfl)))⟩;clear h h0 H O Z hF;refine xS ?_;go_wp2_with fail;simp[bodyPostS,results,results20];exact hP
def yH {p q:Prop} (k:q) (h:Zq q→p:=by
 intro mq;refine leaves_cons (f:=20) (args:=#[π (η w),ϖ w]) ξ (by simp[go_sem]) ?_
 exact mq.u):p:=h ⟨k⟩
def jZ (h:aL mv w) (n):Calls prog 4 #[mv,n] w (ϑ (.tuple #[ζ,ι 1]) w):=by
 obtain⟨w1,aP,z1,b1,Z⟩:=al1 w 29 [ζ];obtain⟨G,aB,-,b2,k2,au⟩:=al2 b1 z1 33 [ι 0];replace Z:=au _ _ _ Z;clear au;have hn:=(h.below b2).at;have U:=gM 1 φ G;unfold ed at U;clear h;go_enter_defers func4,ntmps4;go_wp2_with first
  | (go_at_call 22;refine γ hn ?_)
  | (go_at_call 23;refine γ U ?_)
 show bodyPostD _ _ _ _ _ _
 refine yH ?_;refine (jd 1 φ Z k2 ω).mono ?_;rintro e u' M ⟨rfl,rfl,h0,H,hF⟩;exact⟨.tuple #[ζ,ι 1],by simp[results,results4,go_sem,h0.c 0 rfl,H.c 0 rfl],rfl,b2.trans (Yh hF (ν w) (fun q hq e=>by omega) b2.size)⟩
end
end
section
section
variable {o o':ab} {w w':World} {Y c W tc ec uc:Nat} {ta ea ua:Option Addr} {L:List Nat} {xs:List TX} {m m':bg} {l:List a0}
def oc (Y c W:Nat) (m':bg) (Ls:List Nat) (o:ab) (w:World) (e:Ending) (w':World):Prop:=∃o' ta ea ua tc ec uc xs L a n cp,e= .returned (.tuple #[.slice a n cp,.int .i64 0])∧J (·∈Ls) o w o' w'∧aC o' w' Y c W m' ta ea ua tc ec uc xs L∧∀k∈ah Y L xs,k∈Ls∨w.heap.size≤k
def Bv {p q:Prop} (k:q) (h:Zq q→p:=by
 intro mq;have an:=Yc z (.cells #[ζ] 29) (.cells #[ι 0] 33);have O:=(Zh w 29 [ζ]).alloc θ2;have Z:=Zh (w.alloc (.cells #[ζ] 29)) 33 [ι 0];rw[show (w.alloc (.cells #[ζ] 29)).heap.size=w.heap.size+1 by simp] at Z;refine xZ ?_;intro e0 e1;have ad:∀k∈ah Y L xs,k < w.heap.size:=fun k hk=>Bw;revert an O Z e0 e1 ad
 exact mq.u):p:=h ⟨k⟩
def Bw {p:Prop} (h:p:=by
 rcases ZG.1 hk with e | hk
 ·rw[e];exact h.lt
 ·rcases Zv.1 hk with hk | hk
  ·exact h.wld.lt k hk
  ·obtain⟨x,hx,hk⟩:=Z1.1 hk
   exact (h.ok x hx).lt k hk):p:=h
def t9 (z:Wf o w) (h:aC o w Y c W m ta ea ua tc ec uc xs L) (H:cI m=1) (ak:l.length≤1000000) (hsm:∀e∈l,small e.v=true) (aD:∀o2 G,Wf o2 G→J Θ o w o2 G→Calls prog 25 #[π Y,.int .u64 0] G (jl Y c W m' l (ah Y L xs) o2 G)) :
  Calls prog 4 #[π Y,.int .u64 0] w (oc Y c W m' (ah Y L xs) o w):=by
 refine Bv ?_;intro an O Z e0 e1 ad;go_enter_defers func4,ntmps4;go_upto_region 2 with fail;generalize two o w.heap.size=o2 at *;generalize (w.alloc (.cells #[ζ] 29)).alloc θ2=G at *;have ap:=z.BD an;have h2:=h.kept (an.kp) an.size trivial (fun _ _=>Zk) fun _ _ _ _=>Zk;have aJ:=ee h2.blk;have aF:=ht h2.blk h2.two;rw[H] at aF;have aa:=χ (show ∀E,Below (ν G) G E→Calls prog 25 #[π Y,.int .u64 0] E (jl Y c W m' l (ah Y L xs) o2 E) from fun E hb=>aD o2 E (ap.below hb) (an.same z (Zb ap hb)));have HC:=χ (Zf z (Zf an (Zf e0 (Zf e1 (Zf ad (Zf O Z))))));have l0:=O.lt;have l1:=Z.lt;clear z h an e0 e1 ad O Z h2 aD;go_wp2_with first
  | (go_at_call 22;refine γ aJ ?_)
  | (go_at_call 9;refine δ aF ?_;intro E ac;have am:=aa.out E ac)
  | (go_at_call 25;go_loud (
     refine am.mono ?_;rintro e M ⟨o4,aB,a8,aE,ag,aw,az,ae,L4,a4,aH,bx,rfl,ao,U,I,aj,aq⟩;have aG:=lM aH aq.C5 hsm ak;have H4:=χ (Zf ao (Zf U I))
     clear ao U I aj aq))
  | (go_at_call 24;go_loud (
     refine aG.mono ?_;rintro e V ⟨rfl,ai,-⟩
     have HX:=χ (show J (·∈ah Y L xs) o2 G o4 V∧aC o4 V Y c W m' aB a8 aE ag aw az ae L4∧A V (ν w) 29 [ζ]∧A V (η w) 33 [ι 0] from by
       obtain⟨z,an,e0,e1,ad,O,Z⟩:=HC.out;obtain⟨ao,U,-⟩:=H4.out;have ap:=z.BD an;have ax:=ap.below ac;have aK:=ax.BD ao;have tA:=((Zb ap ac).same ap ao).same ap (Zb aK ai)
       refine⟨tA,U.kept (kB aK ai) ai.size trivial (fun _ _=>Zk) fun _ _ _ _=>Zk,(tA.fr.block (ν w) l0 (by rintro ⟨q,hq,hd⟩;rw[e0] at hq;cases hq;have:=ad _ hd;omega)).trans O,(tA.fr.block (η w) l1 (by rintro ⟨q,hq,hd⟩;rw[e1] at hq;cases hq;have:=ad _ hd;omega)).trans Z⟩)
     obtain⟨c3,f3,-⟩:=kb0 HX.out.2.2.1;have c4:=Zz (w:=V) HX.out.2.2.2 0 rfl
     have f4:=ZD (w:=V) HX.out.2.2.2 0))
 obtain⟨tA,aA,k3,k4⟩:=HX.out;obtain⟨z,an,e0,e1,ad,-⟩:=HC.out;have g0:=(Yi k3 0 (.slice (Γ (ν M)) l.length l.length)).BJ (q:=κ (η w) 0) ξ (ι 0);have g1:=(Y0 k4 (q:=κ (ν w) 0) ξ (.slice (Γ (ν M)) l.length l.length)).set 0 (ι 0);have hF:=(Z4 (S:=fun b=>b=w.heap.size∨b=w.heap.size+1) (w:=V) (q:=κ (ν w) 0) (u:= .slice (Γ (ν M)) l.length l.length) (.inl (.inl rfl))).same (Z4 (q:=κ (η w) 0) (u:= .int .i64 0) (.inl (.inr rfl)));obtain⟨t1,t2⟩:=af.fin z an tA ad e0 e1 (Zc _) ω l0 l1 hF
 show bodyPostD _ _ _ _ _ _
 refine yH ?_;refine (wI _ g1).mono ?_;rintro e u' w7 ⟨rfl,rfl,rfl⟩;obtain⟨-,-,I⟩:=H4.out;have ay:∀q∈ah Y L4 ae,q≠w.heap.size∧q≠w.heap.size+1:=fun q hq=>by
  have a5:=ac.size;rcases I q hq with e | e
  ·have:=ad q e;omega
  ·omega
 refine⟨.tuple #[.slice (Γ (ν M)) l.length l.length,ι 0],by simp[results,results4,go_sem,g0.c 0 rfl,g1.c 0 rfl],o4,_,_,_,_,_,_,_,_,_,_,_,rfl,t1,aA.kept t2 hF.size (ay Y Zr) (fun q hq=>ay q (Zo _ (Zm _ hq))) (fun y hy q hq=>ay q (Zo _ (Zx _ (Z1.2 ⟨y,hy,hq⟩)))),fun q hq=>(I q hq).imp id fun e=>by have:=ac.size;omega⟩
end
end
section
section
variable {o o':ab} {w w':World} {Y c W tc ec uc:Nat} {ta ea ua:Option Addr} {L:List Nat} {xs:List TX} {m:bg}
def lB (Y c W:Nat) (m:bg) (ta ea ua:Option Addr) (tc ec uc:Nat) (Ls:List Nat) (o:ab) (w:World) (e:Ending) (w':World):Prop:=e= .returned (.tuple #[.slice none 0 0,.int .i64 6])∧∃o',J (·∈Ls) o w o' w'∧A w' Y 32 (bF {m with full:=true} c W ta ea ua tc ec uc)∧o' Y=some Y
def wv (z:Wf o w) (h:aC o w Y c W m ta ea ua tc ec uc xs L) (H:cI m=1) (aD:∀o2 G,Wf o2 G→J Θ o w o2 G→Calls prog 25 #[π Y,.int .u64 0] G (hj Y c W m ta ea ua tc ec uc (ah Y L xs) o2 G)) :
  Calls prog 4 #[π Y,.int .u64 0] w (lB Y c W m ta ea ua tc ec uc (ah Y L xs) o w):=by
 refine Bv ?_;intro an O Z e0 e1 ad;go_enter_defers func4,ntmps4;go_upto_region 2 with fail;generalize two o w.heap.size=o2 at *;generalize (w.alloc (.cells #[ζ] 29)).alloc θ2=G at *;have ap:=z.BD an;have h2:=h.kept (an.kp) an.size trivial (fun _ _=>Zk) fun _ _ _ _=>Zk;have aJ:=ee h2.blk;have aF:=ht h2.blk h2.two;rw[H] at aF;have aa:=χ (show ∀E,Below (ν G) G E→Calls prog 25 #[π Y,.int .u64 0] E (hj Y c W m ta ea ua tc ec uc (ah Y L xs) o2 E) from fun E hb=>aD o2 E (ap.below hb) (an.same z (Zb ap hb)));have HC:=χ (Zf z (Zf an (Zf e0 (Zf e1 (Zf ad (Zf O Z))))));have l0:=O.lt;have l1:=Z.lt;clear z h an e0 e1 ad O Z h2 aD;unfold hj ed at aa;go_wp2_with first
  | (go_at_call 22;refine γ aJ ?_)
  | (go_at_call 9;refine δ aF ?_;intro E ac;have am:=aa.out E ac)
  | (go_at_call 25;go_loud (
     refine am.mono ?_;rintro e M ⟨rfl,o4,ao,kM,oM⟩;have H4:=χ (Zf ao (Zf kM oM))
     clear ao kM oM))
 obtain⟨ao,kM,oM⟩:=H4.out;obtain⟨z,an,e0,e1,ad,O,Z⟩:=HC.out;have ap:=z.BD an;have tA:=(Zb ap ac).same ap ao;have k3:=(tA.fr.block (ν w) l0 (by rintro ⟨q,hq,hd⟩;rw[e0] at hq;cases hq;have:=ad _ hd;omega)).trans O;have k4:=(tA.fr.block (η w) l1 (by rintro ⟨q,hq,hd⟩;rw[e1] at hq;cases hq;have:=ad _ hd;omega)).trans Z
 show bodyPostD _ _ _ _ _ _
 refine yH ?_;refine (jd 6 φ k3 k4 ω).mono ?_;rintro e u' w7 ⟨rfl,rfl,g0,g1,hF⟩;obtain⟨t1,t2⟩:=af.fin z an tA ad e0 e1 (Zc _) ω l0 l1 hF;have hM:=ad Y Zr;obtain⟨I,U⟩:=t2.blk kM oM ω;exact⟨.tuple #[ζ,ι 6],by simp[results,results4,go_sem,g0.c 0 rfl,g1.c 0 rfl],rfl,o4,t1,I,U⟩
end
end
section
section
variable {w:World} {Y c W tc ec uc:Nat} {ta ea ua:Option Addr} {m:bg}
def qR (hb:A w Y 32 (bF m c W ta ea ua tc ec uc)) (h2:aR m.runs) (H:cI m≠1) :
  Calls prog 4 #[π Y,.int .u64 0] w (ϑ (.tuple #[ζ,ι 100]) w):=by
 obtain⟨w1,aP,z1,b1,Z⟩:=al1 w 29 [ζ];obtain⟨G,aB,-,b2,k2,au⟩:=al2 b1 z1 33 [ι 0];replace Z:=au _ _ _ Z;clear au;have aO:=(b2.block Y hb.lt).trans hb;have aJ:=ee aO;have aF:=ht aO h2;have hq:(cI m != 1)=true:=by simp[H]
 generalize cI m=s at *;have h:=χ (fun E=>gM 100 φ E);unfold ed at h;clear hb aO h2 H b1;go_enter_defers func4,ntmps4;go_wp2_with first
  | (go_at_call 22;refine γ aJ ?_)
  | (go_at_call 9;refine δ aF ?_;intro M ah;have U:=h.out M)
  | (go_at_call 23;refine γ U ?_)
 show bodyPostD _ _ _ _ _ _
 refine yH ?_;refine (jd 100 φ ((ah.block _ Z.lt).trans Z) ((ah.block _ k2.lt).trans k2) ω).mono ?_;rintro e u' w6 ⟨rfl,rfl,h0,H,hF⟩;have b4:Below (ν w) w M:=b2.trans (ah.mono b2.size);exact⟨.tuple #[ζ,ι 100],by simp[results,results4,go_sem,h0.c 0 rfl,H.c 0 rfl],rfl,b4.trans (Yh hF (ν w) (fun q hq e=>by omega) b4.size)⟩
end
def jR:List Nat→Bool
 | []=>true
 | [0]=>true
 | [1]=>true
 | [0,1]=>true
 | _=>false
def tT {l} (h:jR l=true):aR l:=by
 unfold jR at h;unfold aR
 split at h <;> simp_all
def g1 (m:bg):Option (Option (List a0×bg)):=match m.runs with
 | []=>none
 | k :: _=>match m.ths[k]? with
   | none=>none
   | some t=>
     if (m.ths.length:Int) < m.threads∧m.ths.length+1≤64∧m.trace.length≤1000000∧m.turns.length≤1000000 then
      (gq m t (m.ths.length:Int)).bind fun ac=>(eL m.p t m.w (m.ths.length:Int)).bind fun r=>match r with
       | .full=>some none
       | .ok t' w' es=>(dj w' 0 (m.ths.set k t' ++ ac)).bind fun rs=>
         if es.length≤1000000∧jR rs=true∧(es.all fun e=>small e.v)=true then
          some (some (es.map fun e=>{e with step:=(m.turns.length:Int)},{m with w:=w',ths:=m.ths.set k t' ++ ac,runs:=rs,trace:=m.trace ++ es.map (fun e=>{e with step:=(m.turns.length:Int)}),turns:=m.turns ++ [(m.runs,k)]}))
         else none
     else none
section
variable {o o':ab} {w w':World} {Y c W tc ec uc:Nat} {ta ea ua:Option Addr} {L:List Nat} {xs:List TX} {m m':bg} {l:List a0}
def kG {r} (h:g1 m=some r):∃k ks t ac,m.runs=k :: ks∧m.ths[k]? =some t∧(m.ths.length:Int) < m.threads∧m.ths.length+1≤64∧m.trace.length≤1000000∧m.turns.length≤1000000∧gq m t (m.ths.length:Int)=some ac ∧
  ((eL m.p t m.w (m.ths.length:Int)=some .full∧r=none)∨∃t' w' es rs,eL m.p t m.w (m.ths.length:Int)=some (.ok t' w' es)∧dj w' 0 (m.ths.set k t' ++ ac)=some rs∧es.length≤1000000∧aR rs∧(∀e∈es,small e.v=true) ∧
    r=some (es.map fun e=>{e with step:=(m.turns.length:Int)},{m with w:=w',ths:=m.ths.set k t' ++ ac,runs:=rs,trace:=m.trace ++ es.map (fun e=>{e with step:=(m.turns.length:Int)}),turns:=m.turns ++ [(m.runs,k)]})):=by
 unfold g1 at h
 split at h
 ·cases h
 ·rename_i k ks hr
  split at h
  ·cases h
  ·rename_i t ht
   split at h
   ·rename_i hc
    obtain⟨ac,hm,h⟩:=Zt.1 h;obtain⟨q,hq,h⟩:=Zt.1 h;refine⟨k,ks,t,ac,hr,ht,hc.1,hc.2.1,hc.2.2.1,hc.2.2.2,hm,?_⟩;cases q with
    | full=>exact .inl ⟨hq,by simpa using h.symm⟩
    | ok t' w' es=>
      obtain⟨rs,ai,h⟩:=Zt.1 h
      split at h
      ·rename_i hd
       exact .inr ⟨t',w',es,rs,hq,ai,hd.1,tT hd.2.1,fun e he=>List.all_eq_true.1 hd.2.2 e he,by simpa using h.symm⟩
      ·cases h
   ·cases h
def aC.same (h:aC o w Y c W m ta ea ua tc ec uc xs L) (U:J Θ o w o' w'):aC o' w' Y c W m ta ea ua tc ec uc xs L:=
 h.kept (U.kp) U.size trivial (fun _ _=>Zk) fun _ _ _ _=>Zk
def sV (z:Wf o w) (h:aC o w Y c W m ta ea ua tc ec uc xs L) (hE:a6 o w) (aw:bN o w) (aB:b4 o w) (H:cI m=1) (hd:g1 m=some (some (l,m'))) :
  Calls prog 4 #[π Y,.int .u64 0] w (oc Y c W m' (ah Y L xs) o w):=by
 obtain⟨k,ks,t,ac,hr,ht,a1,a2,a3,a4,hm,⟨-,hq⟩ | ⟨t',w',es,rs,aE,bC,bD,h2,hsm,hq⟩⟩:=kG hd
 ·cases hq
 injection hq with hq;injection hq with hl A;subst hl A;rw[h.ths,List.getElem?_map,Option.map_eq_some_iff] at ht;obtain⟨x,hx,rfl⟩:=ht;have a8:m.ths.length=xs.length:=by rw[h.ths,List.length_map]
 refine t9 z h H (l:=es.map fun e=>{e with step:=(m.turns.length:Int)}) (by simpa using bD) (fun e he=>?_) fun o2 G ap U=>?_
 ·obtain⟨e',E,rfl⟩:=ZC.1 he
  exact hsm e' E
 ·have I:=U.kp
  exact u' ap (h.same U) (hE.kept I) (aw.kept I) (aB.kept I U.size) (by rw[hr];rfl) hx a1 hm aE bD bC h2 ω a3 a4
def ul (z:Wf o w) (h:aC o w Y c W m ta ea ua tc ec uc xs L) (hE:a6 o w) (aw:bN o w) (aB:b4 o w) (H:cI m=1) (hd:g1 m=some none) :
  Calls prog 4 #[π Y,.int .u64 0] w (lB Y c W m ta ea ua tc ec uc (ah Y L xs) o w):=by
 obtain⟨k,ks,t,ac,hr,ht,a1,a2,a3,a4,hm,⟨aE,-⟩ | ⟨t',w',es,rs,aE,bC,bD,h2,hsm,hq⟩⟩:=kG hd
 ·rw[h.ths,List.getElem?_map,Option.map_eq_some_iff] at ht
  obtain⟨x,hx,rfl⟩:=ht;refine wv z h H fun o2 G ap U=>?_;have I:=U.kp;exact uD ap (h.same U) (hE.kept I) (aw.kept I) (aB.kept I U.size) (by rw[hr];rfl) hx a1 hm aE
 ·cases hq
end
end
section
structure di (o2:ab) (M:World) (bm be:Nat) (mv:Value) (n:Int) (oi:ab) (wi:World):Prop where
 tn:J (fun k=>k=bm∨k=be) o2 M oi wi
 wf:Wf oi wi
 km:A wi bm 23 [mv]
 om:oi bm=some bm
 ke:A wi be 33 [.int .i64 n]
 oe:oi be=some be
section
variable {o2 oi oj:ab} {M wi wj:World} {bm be:Nat} {mv:Value} {n:Int}
def di.step (h0:Wf o2 M) (h:di o2 M bm be mv n oi wi) (U:J Θ oi wi oj wj):di o2 M bm be mv n oj wj:=by have I:=U.kp;obtain⟨a1,a2⟩:=I.blk h.km h.om trivial;obtain⟨a3,a4⟩:=I.blk h.ke h.oe trivial;exact⟨h.tn.same h0 (U.more' fun _ e=>e.elim),h.wf.BD U,a1,a2,a3,a4⟩
def di.err (h0:Wf o2 M) (h:di o2 M bm be mv n oi wi) (ay:bm≠be) (O):di o2 M bm be mv O oi (σ wi be 0 (ι O):World)∧aM (fun k=>k≠bm∧k≠be) oi wi oi (σ wi be 0 (ι O)):=by have U:J (fun k=>k=bm∨k=be) oi wi oi (σ wi be 0 (ι O)):=Z3 h.wf h.oe (.inr rfl) 0 _;exact⟨⟨h.tn.same h0 U,h.wf.BD U,h.km.BJ (q:=κ be 0) ay _,h.om,h.ke.set 0 _,h.oe⟩,U.et fun k hk e=>e.elim hk.1 hk.2⟩
def di.C3 (h0:Wf o2 M) (h:di o2 M bm be mv n oi wi) (ay:bm≠be) (A):di o2 M bm be A n oi (σ wi bm 0 A:World)∧aM (fun k=>k≠bm∧k≠be) oi wi oi (σ wi bm 0 A):=by have U:J (fun k=>k=bm∨k=be) oi wi oi (σ wi bm 0 A):=Z3 h.wf h.om (.inl rfl) 0 _;exact⟨⟨h.tn.same h0 U,h.wf.BD U,h.km.set 0 _,h.om,h.ke.BJ (q:=κ bm 0) (fun e=>ay e.symm) _,h.oe⟩,U.et fun k hk e=>e.elim hk.1 hk.2⟩
def di.by (h0:Wf o2 M) (h:di o2 M bm be mv n oi wi) {Y} (U:J (·=Y) oi wi oj wj) (hM:M.heap.size≤Y) (z:bm < M.heap.size) (le:be < M.heap.size):di o2 M bm be mv n oj wj:=by have I:=U.et (K:=fun k=>k≠Y) fun _ h e=>h e;obtain⟨a1,a2⟩:=I.blk h.km h.om ω;obtain⟨a3,a4⟩:=I.blk h.ke h.oe ω;exact⟨h.tn.trans h0 U fun k hk e=>by omega,h.wf.BD U,a1,a2,a3,a4⟩
end
def tL (m:bg) (o:ab) (w:World) (e:Ending) (w':World):Prop:=∃o' Y c W ta ea ua tc ec uc xs L,e= .returned (.tuple #[.pointer (some ⟨Y,0,none⟩),.int .i64 0])∧J (fun _=>False) o w o' w'∧aC o' w' Y c W m ta ea ua tc ec uc xs L∧∀k∈ah Y L xs,w.heap.size≤k
def xq {wm t l} (h:dj wm 0 [t]=some l):aR l:=by
 obtain⟨b,r,-,hr,rfl⟩:=oE h;injection hr with hr;subst hr;cases b
 ·exact .inl rfl
 ·exact .inr (.inl rfl)
def wO (a1) {w be} (H:A w be 33 [ι 0]):CallsD prog 59 #[π be,a1] .returning w fun e u' w'=>e= .returned (.tuple #[])∧u'= .returning∧w'=w:=by
 have c0:=H.c 0 rfl;have h:=no (π be) w;clear H;refine ZB func59 rfl fun c₀ cs hu=>?_;apply ZW;apply ZH;simp[wpOpsS,go_sem,recoverD,hu,ntmps59,Exit.thenS];refine γ h ?_;refine xS ?_;go_wp2_with fail;cases c₀
 simp_all [bodyPostS,results,results59]
def oI (n) (hn:n≠0) {w bl be v0 v1} (h0:A w bl 23 [v0]) (H:A w be 33 [v1]) (ay:bl≠be):CallsD prog 59 #[π be,π bl] (.panicking [{v:=d1 n,recovered:=false}]) w fun e u' w'=>e= .returned (.tuple #[])∧u'= .panicking [{v:=d1 n,recovered:=true}]∧A w' bl 23 [.pointer none]∧A w' be 33 [ι n]∧Fr (fun b=>b=bl∨b=be) w w':=by
  have h:=k9 n H;have hq:(n != 0)=true:=by simp[hn]
  have l0:=h0.lt;refine ZB func59 rfl fun c₀ cs hu=>?_;apply ZW;apply ZH;simp[wpOpsS,go_sem,recoverD,hu,ntmps59,Exit.thenS];refine h.mono ?_;rintro e w1 ⟨rfl,Z,hF⟩;have O:=(hF.block bl l0 (by simpa using ay)).trans h0;obtain⟨r0,f0,-⟩:=kb0 O;have r1:=Z.c 0 rfl;have hP:A (σ w1 bl 0 (.pointer none)) bl 23 [.pointer none]∧A (σ w1 bl 0 (.pointer none)) be 33 [ι n]∧Fr (fun b=>b=bl∨b=be) w (σ w1 bl 0 (.pointer none)):=⟨Yi O 0 _,Z.BJ (q:=κ bl 0) (fun e=>ay e.symm) _,(hF.more fun b _ e=>.inr e).same (Z4 (q:=κ bl 0) (.inl (.inl rfl)))⟩;clear h h0 H O Z hF;refine xS ?_;go_wp2_with fail;simp[bodyPostS,results,results59];exact hP
section
variable {o:ab} {w:World}
def nC {p pa pc cells threads fuel m} (z:Wf o w) (hP:b0 (ο w) w p pa pc) (aI:p.length≤1000) (aY:∀f∈p,f.ns.length≤1000∧∀x∈f.ns,x.l.length≤1000) (h:fU p cells threads fuel=some m) :
  Calls prog 35 #[.agg #[.slice pa p.length pc],.agg #[ι cells,ι threads,ι fuel]] w (tL m o w):=by
 unfold fU at h
 split at h
 case isFalse=>cases h
 case isTrue hc=>
 obtain⟨az,q1,q2,q3,q4,q5,q6⟩:=hc;obtain⟨t,ht,h⟩:=Zt.1 h;obtain⟨l,hl,rfl⟩:=Zs.1 h;have h2:=xq hl;obtain⟨n,rfl⟩:∃n:Nat,cells=n:=⟨cells.toNat,ω⟩;have bb:=@mk_fn prog;obtain⟨w1,bl,bf,a1,O⟩:=al1 w 56 [.slice pa p.length pc];obtain⟨G,bo,bh,ak,Z,au⟩:=al2 a1 bf 58 [ι (n:Nat),ι threads,ι fuel];replace O:=au _ _ _ O;clear au;obtain⟨E,bt,bq,bg,k2,au⟩:=al2 ak bh 23 [.pointer none];replace O:=au _ _ _ O;replace Z:=au _ _ _ Z;clear au;obtain⟨M,a9,aS,I,k3,au⟩:=al2 bg bq 33 [ι 0];replace O:=au _ _ _ O;replace Z:=au _ _ _ Z;replace k2:=au _ _ _ k2;clear au;have bQ:=z.below I;have T0:J Θ o w ((o.set (w.heap.size+1+1) (some (w.heap.size+1+1))).set (w.heap.size+1+1+1) (some (w.heap.size+1+1+1))) M:=((tB z I).BN ω ω ω (.inr ω)).BN ω ω ω (.inr ω);have n0:((o.set (w.heap.size+1+1) (some (w.heap.size+1+1))).set (w.heap.size+1+1+1) (some (w.heap.size+1+1+1))) w.heap.size=none:=by rw[ab.BG _ _ ω,ab.BG _ _ ω];exact z.ge (Zc _)
 have n1:((o.set (w.heap.size+1+1) (some (w.heap.size+1+1))).set (w.heap.size+1+1+1) (some (w.heap.size+1+1+1))) (w.heap.size+1)=none:=by rw[ab.BG _ _ ω,ab.BG _ _ ω];exact z.ge ω
 have em:((o.set (w.heap.size+1+1) (some (w.heap.size+1+1))).set (w.heap.size+1+1+1) (some (w.heap.size+1+1+1))) (w.heap.size+1+1)=some (w.heap.size+1+1):=by rw[ab.BG _ _ ω];exact Zw _ _ _
 have ee:((o.set (w.heap.size+1+1) (some (w.heap.size+1+1))).set (w.heap.size+1+1+1) (some (w.heap.size+1+1+1))) (w.heap.size+1+1+1)=some (w.heap.size+1+1+1):=Zw _ _ _;generalize (o.set (w.heap.size+1+1) (some (w.heap.size+1+1))).set (w.heap.size+1+1+1) (some (w.heap.size+1+1+1))=o2 at *;have bx:=z.BD T0;have N4:=χ (show di o2 M (w.heap.size+1+1) (w.heap.size+1+1+1) (.pointer none) 0 o2 M from⟨ZM _ bx,bx,k2,em,k3,ee⟩)
 have HK:=χ (fun oi wi (U:J (fun k=>k=(w.heap.size+1+1)∨k=(w.heap.size+1+1+1)) o2 M oi wi)=>(show A wi (ν w) 56 [.slice pa p.length pc]∧A wi (η w) 58 [ι (n:Nat),ι threads,ι fuel] from
   ⟨((U.frozen _ O.lt (fun q hq=>by rw[n0] at hq;cases hq)).1).trans O,((U.frozen _ Z.lt (fun q hq=>by rw[n1] at hq;cases hq)).1).trans Z⟩))
 have ag:=hD p pa pc M (hP.later I);rw[if_pos az] at ag;unfold dD at ag;have bU:=χ (fun w6 (hb:Below (ν w) w w6) (aP:Wf o2 w6)=>pW o2 p pa pc w6 aP (hP.later hb) aI aY);have HC:=χ (Zf z (Zf T0 bx));have HL:=χ hl;have y0:=O.c 0 rfl;clear z hP aI aY T0 n0 n1 em ee O Z k2 k3 bQ a1 ak bg hl;go_enter_defers func35,ntmps35;go_upto_region 5 with first
  | (go_at_call 60
     refine δ ag ?_;intro V ai;have N5:=χ (N4.out.step HC.out.2.2 (Zb N4.out.wf ai));have s0:=(HK.out _ _ N5.out.tn).2.c 0 rfl;have s1:=(HK.out _ _ N5.out.tn).2.c 1 rfl;have s2:=(HK.out _ _ N5.out.tn).2.c 2 rfl
     have aM:=pL (n:Int) threads fuel q1 q2 q3 q4 q5 q6 V)
  | (go_at_call 61
     refine δ aM ?_;intro w6 aw
     go_loud (
     have N6:=χ (N5.out.step HC.out.2.2 (Zb N5.out.wf aw));have p6:=(HK.out _ _ N6.out.tn).1.c 0 rfl;have L:Below (ν w) w w6:=I.trans ((ai.trans (aw.mono ai.size)).mono I.size);have bu:=bU.out w6 L N6.out.wf;unfold hY at bu
     clear s0 s1 s2))
  | (go_at_call 62
     refine bu.mono ?_;rintro e w7 ⟨ae,hx⟩;rw[if_pos az] at hx;obtain⟨c,rfl,bE,aq⟩:=hx;have N7:=χ (N6.out.step HC.out.2.2 (Zb N6.out.wf ae));have e7:=N7.out.ke.c 0 rfl
     have f7:=N7.out.ke.fz 0)
 obtain⟨N8,K8⟩:=N7.out.err HC.out.2.2 ω 0;have bv:=bE.kept K8 ξ;clear bE e7 f7 p6 ai aw ae L bu aM ag K8;generalize (σ w7 (w.heap.size+1+1+1) 0 (ι 0):World)=w8 at *;have bI:=tP o2 n ω ω w8 N8.wf;have aA:=N8.ke.c 0 rfl;have s0:=(HK.out _ _ N8.tn).2.c 0 rfl;have s8:=N8.tn.size;replace N8:=χ N8;replace bv:=χ bv;go_upto_region 7 with first
  | (go_at_call 23;refine γ (hm _) ?_)
  | (go_at_call 63
     refine bI.mono ?_;rintro e w9 ⟨o9,W,LW,rfl,Y,a7,am⟩;have N9:=χ (N8.out.step HC.out.2.2 Y);have aT:=bv.out.kept Y.frozen Y.size;have e9:=N9.out.ke.c 0 rfl
     have f9:=N9.out.ke.fz 0)
 obtain⟨ap,a0⟩:=N9.out.err HC.out.2.2 ω 0;have s9:=Y.size;have bw:=aT.kept a0 ξ;have bJ:=a7.kept a0 ξ fun k hk=>⟨fun e=>by have:=am k hk;omega,fun e=>by have:=am k hk;omega⟩;have a8:∀k∈LW,k < w9.heap.size:=fun k hk=>a7.lt k hk;have bX:w9.heap.size≤(σ w9 (w.heap.size+1+1+1) 0 (ι 0):World).heap.size∧(σ w9 (w.heap.size+1+1+1) 0 (ι 0):World).heap.size≤w9.heap.size:=by simp
 clear aT a7 a0 aA e9 f9 s0 bI Y;generalize (σ w9 (w.heap.size+1+1+1) 0 (ι 0):World)=aZ at *;have bB:Calls prog 64 #[π c,ι 0,ι 0,ζ] aZ (kz c t o9 aZ):=nN [] none 0 ap.wf bw (fun j x h=>by simp at h) ht;have bi:=ap.ke.c 0 rfl;replace ap:=χ ap;have bM:=χ (Zf bw bJ);clear bw bJ;go_upto_region 9 with first
  | (go_at_call 23;refine γ (hm _) ?_)
  | (go_at_call 64
     refine bB.mono ?_;rintro e aO ⟨aG,T,Ls,rfl,aa,a6,bF⟩;have bd:=χ (ap.out.step HC.out.2.2 aa);have ao:=bd.out.ke.c 0 rfl
     have bR:=bd.out.ke.fz 0)
 obtain⟨ac,aL⟩:=bd.out.err HC.out.2.2 ω 0;have aK:=aa.size;have a4:=(bM.out.1.kept aa.frozen aa.size).kept aL ξ;have bK:=(bM.out.2.kept (aa.kp) aa.size fun _ _=>Zk).kept aL ξ fun k hk=>⟨fun e=>by have:=am k hk;omega,fun e=>by have:=am k hk;omega⟩;have bP:=a6.kept aL ξ fun k hk=>⟨fun e=>by have:=bF k hk;omega,fun e=>by have:=bF k hk;omega⟩;have aE:∀k∈Ls,k < aO.heap.size:=fun k hk=>a6.lt k hk;have bY:aO.heap.size≤(σ aO (w.heap.size+1+1+1) 0 (ι 0):World).heap.size∧(σ aO (w.heap.size+1+1+1) 0 (ι 0):World).heap.size≤aO.heap.size:=by simp
 clear a6 aL bi ao bR bB aa;generalize (σ aO (w.heap.size+1+1+1) 0 (ι 0):World)=a' at *;obtain⟨x1,bA,aH,aV,g0⟩:=al1 a' 38 [π T];obtain⟨x2,a5,bc,aR,g1,au⟩:=al2 aV aH 32 [ι (n:Nat),ι threads,ι fuel,π c,π W,.slice (Γ (ν a')) 1 1,.int .u64 0,Δ,ζ,ζ];replace g0:=au _ _ _ g0;clear au;have af:J Θ aG a' ((aG.set (η a') (some (a'.heap.size+1))).set (ν a') (some (a'.heap.size+1))) x2:=((tB ac.wf aR).BN ω ω ω (.inr ω)).BN ω ω ω (.inr ω);have oM:((aG.set (η a') (some (a'.heap.size+1))).set (ν a') (some (a'.heap.size+1))) (a'.heap.size+1)=some (a'.heap.size+1):=by rw[ab.BG _ _ ω];exact Zw _ _ _
 have og:((aG.set (η a') (some (a'.heap.size+1))).set (ν a') (some (a'.heap.size+1))) a'.heap.size=some (a'.heap.size+1):=Zw _ _ _;generalize (aG.set (η a') (some (a'.heap.size+1))).set (ν a') (some (a'.heap.size+1))=bz at *;have aX:=af.kp
 have bL:aC bz x2 (η a') c W ⟨n,threads,fuel,p,ka n,[t],[],false,[],[]⟩ (some ⟨a'.heap.size,0,none⟩) none none 1 0 0 [⟨t,T,Ls⟩] LW:=⟨g1,oM,a4.kept af.frozen af.size,bK.kept aX af.size fun _ _=>Zk,rfl,⟨_,⟨aQ.BP g0 1 rfl φ,fun q hq=>by
   obtain rfl:a'.heap.size=q:=by simpa [Value.ownBlock] using hq
   exact og⟩,Y9 rfl rfl⟩,fun x hx=>by
   rw[List.mem_singleton.1 hx];exact bP.kept aX af.size fun _ _=>Zk,fun i j x y hi hj ay=>by
   have H:=(Ze.1 hi).1;have h2:=(Ze.1 hj).1;simp at H h2;omega,fun e=>by have:=a8 _ e;omega,fun x hx e=>by
   rw[List.mem_singleton.1 hx] at e;have:=aE _ e;omega,fun x hx k hk e=>by
   rw[List.mem_singleton.1 hx] at hk;have:=a8 k e;have:=bF k hk
   omega,Yd _ _ _ _ _ _,Yd _ _ _ _ _ _,.inl rfl⟩
 have bp:=ac.step HC.out.2.2 af;obtain⟨ad,bC⟩:=bp.C3 HC.out.2.2 ω (π (η a'));have aN:=ac.tn.size;have aB:=bL.kept bC ξ ⟨ω,ω⟩ (fun k hk=>⟨fun e=>by have:=am k hk;omega,fun e=>by have:=am k hk;omega⟩) fun x hx k hk=>by rw[List.mem_singleton.1 hx] at hk;exact⟨fun e=>by have:=bF k hk;omega,fun e=>by have:=bF k hk;omega⟩
 have bZ:=ac.ke.c 0 rfl;have s0:=(HK.out _ _ ac.tn).2.c 0 rfl;have s1:=(HK.out _ _ ac.tn).2.c 1 rfl;have s2:=(HK.out _ _ ac.tn).2.c 2 rfl;obtain⟨bT,bS,-⟩:=kb0 bp.km;have HM:=χ (Zf ad aB);clear ac bp ad bL aB a4 bK bP af aX bC g0 g1 aV aR oM og;go_upto_region 11 with (go_at_call 23;refine γ (hm _) ?_);clear bA a5 bZ s0 s1 s2 bT bS;obtain⟨ad,aB⟩:=HM.out;generalize (σ x2 (w.heap.size+1+1) 0 (π (η a')):World)=aW at *;have b3:=k7 ad.wf aB h2 ξ HL.out;have bN:=ad.km.c 0 rfl;have bO:=χ ad;clear HM ad aB;unfold kU at b3;go_upto_region 12 with (go_at_call 44;go_loud (refine b3.mono ?_;rintro e an ⟨rfl,aU,aF,bH⟩));have ba:=bO.out.by HC.out.2.2 aF ω ω ω;obtain⟨bn,bG⟩:=ba.C3 HC.out.2.2 ω (π (η a'));obtain⟨aj,bD⟩:=bn.err HC.out.2.2 ω 0;have a3:∀k∈ah (η a') LW [⟨t,T,Ls⟩],M.heap.size≤k:=fun k hk=>by
  unfold ah at hk;rcases ZG.1 hk with e | hk
  ·omega
  ·rcases Zv.1 hk with hk | hk
   ·have:=am k hk;omega
   ·simp only[List.flatMap_cons,List.flatMap_nil,List.append_nil] at hk
    have:=bF k hk;omega
 have ay:∀k∈ah (η a') LW [⟨t,T,Ls⟩],k≠w.heap.size+1+1∧k≠w.heap.size+1+1+1:=fun k hk=>by have:=a3 k hk;omega
 have aJ:=(bH.kept bG ξ (ay _ Zr) (fun k hk=>ay k (Zo _ (Zm _ hk))) fun x hx k hk=>ay k (Zo _ (Zx _ (Z1.2 ⟨x,hx,hk⟩)))).kept bD ξ (ay _ Zr) (fun k hk=>ay k (Zo _ (Zm _ hk))) fun x hx k hk=>ay k (Zo _ (Zx _ (Z1.2 ⟨x,hx,hk⟩)));obtain⟨bW,b1,-⟩:=kb0 ba.km;obtain⟨bV,b2,-⟩:=kb0 bn.ke;have HF:=χ (Zf aj aJ);clear ba bn aj aJ bG bD bH aF bN;go_wp2_with fail;obtain⟨aj,aJ⟩:=HF.out
 show bodyPostD _ _ _ _ _ _
 refine leaves_cons (f:=59) (args:=#[π (w.heap.size+1+1+1),π (ς w)]) ξ (by simp[go_sem]) ?_;refine (wO _ aj.ke).mono ?_;rintro e u' bj ⟨rfl,rfl,rfl⟩;exact⟨.tuple #[π (η a'),ι 0],by simp[results,results35,go_sem,aj.km.c 0 rfl,aj.ke.c 0 rfl],aU,_,_,_,_,_,_,_,_,_,_,_,rfl,HC.out.2.1.trans HC.out.1 aj.tn (fun k hk e=>by omega),aJ,fun k hk=>by have:=a3 k hk;omega⟩
def Bx {p:Prop} (h:p:=by
 obtain⟨I,Z,k2,k3⟩:=HB.out
 show bodyPostD _ _ _ _ _ _
 refine leaves_cons (f:=59) (args:=#[π (w.heap.size+1+1+1),π (ς w)]) ξ (by simp[go_sem]) ?_;refine (oI 2 φ ((L.block _ l2).trans k2) ((L.block _ l3).trans k3) ω).mono ?_;rintro e u' aZ ⟨rfl,rfl,h0,H,hF⟩;have J:Below (ν w) w _:=I.trans (L.mono I.size)
 exact⟨.tuple #[.pointer none,ι 2],by simp[results,results35,go_sem,h0.c 0 rfl,H.c 0 rfl],rfl,J.trans (Yh hF (ν w) (fun q hq e=>by omega) J.size)⟩):p:=h
def rI {p pa pc cells threads fuel} (hP:b0 (ο w) w p pa pc) (az:bS p=false) :
  Calls prog 35 #[.agg #[.slice pa p.length pc],.agg #[ι cells,ι threads,ι fuel]] w (ϑ (.tuple #[.pointer none,ι 2]) w):=by
 obtain⟨w1,bl,bf,a1,O⟩:=al1 w 56 [.slice pa p.length pc];obtain⟨G,bo,bh,ak,Z,au⟩:=al2 a1 bf 58 [ι cells,ι threads,ι fuel];replace O:=au _ _ _ O;clear au;obtain⟨E,bt,bq,bg,k2,au⟩:=al2 ak bh 23 [.pointer none];replace O:=au _ _ _ O;replace Z:=au _ _ _ Z;clear au;obtain⟨M,a9,aS,I,k3,au⟩:=al2 bg bq 33 [ι 0];replace O:=au _ _ _ O;replace Z:=au _ _ _ Z;replace k2:=au _ _ _ k2;clear au;have ag:=hD p pa pc M (hP.later I);rw[az] at ag;unfold dD at ag;have h:=χ (fun V=>gM 2 φ V);unfold ed at h;have y0:=O.c 0 rfl;have l2:=k2.lt;have l3:=k3.lt;have HB:=χ (Zf I (Zf Z (Zf k2 k3)));clear hP az O Z k2 k3 a1 ak bg I;go_enter_defers func35,ntmps35;go_wp2_with first
  | (go_at_call 60;refine δ ag ?_;intro V L;have U:=h.out V)
  | (go_at_call 23;refine γ U ?_)
 exact Bx
def pm {p pa pc threads fuel} (hP:b0 (ο w) w p pa pc) (az:bS p=true) :
  Calls prog 35 #[.agg #[.slice pa p.length pc],.agg #[ι 0,ι threads,ι fuel]] w (ϑ (.tuple #[.pointer none,ι 2]) w):=by
 obtain⟨w1,bl,bf,a1,O⟩:=al1 w 56 [.slice pa p.length pc];obtain⟨G,bo,bh,ak,Z,au⟩:=al2 a1 bf 58 [ι 0,ι threads,ι fuel];replace O:=au _ _ _ O;clear au;obtain⟨E,bt,bq,bg,k2,au⟩:=al2 ak bh 23 [.pointer none];replace O:=au _ _ _ O;replace Z:=au _ _ _ Z;clear au;obtain⟨M,a9,aS,I,k3,au⟩:=al2 bg bq 33 [ι 0];replace O:=au _ _ _ O;replace Z:=au _ _ _ Z;replace k2:=au _ _ _ k2;clear au;have ag:=hD p pa pc M (hP.later I);rw[az] at ag;unfold dD at ag;have h:=χ (fun V=>gM 2 φ V);unfold ed at h;have y0:=O.c 0 rfl;have l1:=Z.lt;have l2:=k2.lt;have l3:=k3.lt;have HB:=χ (Zf I (Zf Z (Zf k2 k3)));clear hP az O Z k2 k3 a1 ak bg I;go_enter_defers func35,ntmps35;go_wp2_with first
  | (go_at_call 60
     refine δ ag ?_;intro V ai;have s0:=Zz (w:=V) ((ai.block _ l1).trans HB.out.2.1) 0 rfl;have s1:=Zz (w:=V) ((ai.block _ l1).trans HB.out.2.1) 1 rfl;have s2:=Zz (w:=V) ((ai.block _ l1).trans HB.out.2.1) 2 rfl
     have aM:=wb threads fuel V)
  | (go_at_call 61;refine δ aM ?_;intro w6 aw;have L:=ai.trans (aw.mono ai.size);have U:=h.out w6)
  | (go_at_call 23;refine γ U ?_)
 exact Bx
end
end
section
section
variable {o o':ab} {w w':World} {T c:Nat} {t:aS} {Ls:List Nat}
def jX (v:VT) (w:World) (e:Ending) (w':World):Prop:=∃a cp,e= .returned (.tuple #[.agg #[.int .i64 v.kd,.int .i64 v.n,.slice a v.l.length cp],.bool true])∧Below w.heap.size w w'
def mI (z:Wf o w) (U:a7 o w T c t Ls) (hov:t.over=true) (hsm:small t.val=true):Calls prog 39 #[π T] w (jX t.val w):=by
 obtain⟨w1,aP,-,b1,O⟩:=al1 w 86 [ι 0,ι 0,ζ];obtain⟨xs,pa,va,pc,vc,hA,-⟩:=U.below z b1;have aJ:=gn hA;have t3:=Zz hA.blk 3 rfl;rw[hov] at t3;obtain⟨-,-,-,-,-,t5,t6,G,-⟩:=kc7 hA.blk;have ap:=ce t.val _ w1 hsm (hA.val.more fun g hg=>hg.2);have HK:=χ (Zf O b1);clear z U hA O b1;go_enter func39,ntmps39;go_wp2_with first
  | (go_at_call 46;refine γ aJ ?_)
  | (go_at_call 40;go_loud (
     refine ap.mono ?_;rintro e E ⟨v',rfl,ac,aN⟩;obtain⟨a3,c3,rfl,-,-⟩:=aN.three;have kb:=HK.out.1.BE ac;obtain⟨y0,f0,y1,f1,y2,-,-⟩:=kb2 kb
     have f2:=ZD (w:=E) kb 2))
 have hp:=cA kb (ι t.val.kd) (ι t.val.n) (.slice a3 t.val.l.length c3);exact Zl (v:= .tuple #[.agg (υ t.val a3 c3),Υ]) (by simp[results,results39,go_sem,hp.c 0 rfl,hp.c 1 rfl,hp.c 2 rfl]) rfl ⟨a3,c3,rfl,cU (HK.out.2.trans (ac.mono HK.out.2.size)) (Zc _) _ _ _⟩
def lC (c:Nat) (t:aS) (o:ab) (w:World) (e:Ending) (w':World):Prop:=∃o' T',e= .returned (.pointer (some ⟨T',0,none⟩))∧J (fun _=>False) o w o' w'∧a7 o' w' T' c t [T']∧w.heap.size≤T'
def sW (z:Wf o w) (U:a7 o w T c t Ls) (hp:t.parts=[]):Calls prog 27 #[π T] w (lC c t o w):=by
 obtain⟨xs,pa,va,pc,vc,hA,-⟩:=U;obtain rfl:xs=[]:=by have:=hA.pts;rw[hp] at this;exact List.map_eq_nil_iff.1 this.symm
 have aJ:=gn hA;obtain⟨t0,t1,t2,t3,t4,t5,t6,G,-⟩:=kc7 hA.blk;have af:=am w (.cells #[π c,ι t.num,ζ,.bool t.over,Δ,ι t.val.kd,ι t.val.n,.slice va t.val.l.length vc] 101);have kn:=Zh w 101 [π c,ι t.num,ζ,.bool t.over,Δ,ι t.val.kd,ι t.val.n,.slice va t.val.l.length vc];have s2:(w.alloc (.cells #[π c,ι t.num,ζ,.bool t.over,Δ,ι t.val.kd,ι t.val.n,.slice va t.val.l.length vc] 101)).cell? (κ T 2)=some (.slice pa 0 pc):=(af.cell (p:=κ T 2) hA.blk.lt).trans t2
 have hX:=χ (show lC c t o w (.returned (ϖ w)) (w.alloc (.cells #[π c,ι t.num,ζ,.bool t.over,Δ,ι t.val.kd,ι t.val.n,.slice va t.val.l.length vc] 101)) from by
   have h:=ZJ z (.cells #[π c,ι t.num,ζ,.bool t.over,Δ,ι t.val.kd,ι t.val.n,.slice va t.val.l.length vc] 101);have I:=h.kp
   exact⟨_,_,rfl,h,⟨[],none,va,0,vc,⟨kn,Zw _ _ _,hp,Yd _ _ _ _ _ _,fun x hx=>(by cases hx),Yr,fun x hx=>(by cases hx),by simp,hA.val.kept I h.size⟩,rfl⟩,Zc _⟩)
 clear z hA af kn;go_enter func27,ntmps27;go_wp2_with (go_at_call 46;refine γ aJ ?_);refine ZV 1 ?_;rw[rounds_succ];go_wp2_with fail;go_ret;exact hX.out
end
end
section
section
variable {o o':ab} {w w':World} {Y c W tc ec uc:Nat} {ta ea ua:Option Addr} {L:List Nat} {xs:List TX} {m:bg} {x:TX}
def fW (c:Nat) (t:aS) (o:ab) (w:World) (e:Ending) (w':World):Prop:=∃o' T',e= .returned (.tuple #[.pointer (some ⟨T',0,none⟩),.bool true])∧J (fun _=>False) o w o' w'∧a7 o' w' T' c t [T']
def uU {n:Nat} (z:Wf o w) (h:aC o w Y c W m ta ea ua tc ec uc xs L) (hx:xs[n]? =some x) (hp:x.m.parts=[]):Calls prog 6 #[π Y,ι n] w (fW c x.m o w):=by
 have hn:=ee h.blk;have cy:n < xs.length:=(Ze.1 hx).1;have aH:m.ths.length=xs.length:=by rw[h.ths,List.length_map]
 have c5:w.cell? (κ Y 5)=some (.slice ta xs.length tc):=by rw[←aH];exact h.blk.c 5 rfl
 have ap:=sW z (h.ok x (Zi hx)) hp;obtain⟨ga,cx,e1,-,-,hf⟩:=h.row.form;obtain⟨g,cs,rfl,an,bT,-,bB,-,bG⟩:=hf n x hx;injection e1 with e1 _ _;subst e1;unfold fA at bG;subst bG;have bV:w.cell? (κ g n)=π x.b:=by simpa using bB 0 φ
 have d1:decide ((n:Int) < 0)=false:=Zn ω;have d2:decide (xs.length≤n)=false:=Zn ω;clear h hf bB z aH;go_enter func6,ntmps6;go_wp2_with first
  | (go_at_call 22;refine γ hn ?_)
  | (go_at_call 27;refine ap.mono ?_;rintro e w1 ⟨o1,T1,rfl,ak,aJ,-⟩)
 exact Zl (v:= .tuple #[π T1,Υ]) (by simp[results,results6,go_sem]) rfl ⟨o1,T1,rfl,ak,aJ⟩
end
end
end Go.Proofs.YtmchabopafimeaaGreatDoor
