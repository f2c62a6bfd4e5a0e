import Derived.Test.YtmchabopafimeaaGreatDoorQag
import Derived.Defers
import Derived.Recover
import Derived.Laws.Pointers
namespace Go.Proofs.YtmchabopafimeaaGreatDoor
set_option maxRecDepth 100000
set_option maxHeartbeats 16000000
set_option linter.all false
open Go.RowKit Go.Sort Tryz
def M.below {o w w' q l} (h:M o w q l) (z:Wf o w) (hb:Below (ν w) w w'):M o w' q l:=by obtain⟨v,h⟩:=h;exact⟨v,h.below z hb⟩
def up (w o1 o2):Below (ν w) w ((w.alloc o1).alloc o2):=(am _ _).alloc ξ _
def Y.none_ {G E e} (h:Y none G e E):Below (ν G) G E∧e= .returned (.tuple #[.agg #[ι 0,ι 0,ι 0,ι 0,ι 0,ι 0,ζ],Δ]):=h
def Y.some_ {x G E e} (h:Y (some x) G e E):Below (ν G) G E∧∃(a:Option Addr) (cap:Nat),e= .returned (.tuple #[.agg (ε x.sy x.th x.br x.fl x.v a cap),Υ])∧a4 (Nw (ν G) E) E x (bu x a cap):=by obtain⟨H,cs,rfl,a,cap,rfl,h2⟩:=h;exact⟨H,a,cap,rfl,a,cap,rfl,h2⟩
def Y.no {w w'} (hb:Below (ν w) w w'):Y none w (.returned (.tuple #[.agg #[ι 0,ι 0,ι 0,ι 0,ι 0,ι 0,ζ],Δ])) w':=⟨hb,rfl⟩
def Y.yes {x} {w G E:World} {b a cap} (hb:Below (ν w) w E) (z:w.heap.size≤b) (aa:b < G.heap.size) (h:a4 (Nw (ν G) E) E x (bu x a cap)) :
  Y (some x) w (.returned (.tuple #[.agg (ε x.sy x.th x.br x.fl x.v a cap),Υ])) (dp E b (ι x.sy) (ι x.th) (ι x.br) (ι x.fl) (ι x.v.kd) (ι x.v.n) (.slice a x.v.l.length cap)):=
 ⟨e9 _ _ _ _ _ _ _ hb z,bu x a cap,rfl,h.et (fun g hg q=>jH _ _ _ _ _ _ _ (by have:=hg.1;omega) q) fun g hg=>⟨by have:=hg.1;omega,by rw[jm];exact hg.2⟩⟩
def pv (o q l i ib w) (z:Wf o w) (h:M o w q l) (Z:A w ib 3 [ι (i:Nat)]) :
  Calls prog 437 #[π q,π ib] w (Y l[i]? w):=by
 have aa:=am w (.cells #[ι 0,ι 0,ι 0,ι 0,ι 0,ι 0,ζ] 307);refine xV ?_;intro O;have U:=Z.alloc θ;have ci:=U.c 0 rfl;have hC:=xi o q l i _ (z.below aa) (h.below z aa);have a8:w.heap.size+0 < (w.alloc θ).heap.size:=by simp
 obtain⟨r,hr⟩:∃r,l[i]? =r:=⟨_,rfl⟩;rw[hr] at hC ⊢;clear hr;go_enter func437,ntmps437;go_wp2_with fail;generalize (w.alloc θ)=G at *;refine hC.mono ?_;rintro e E hE;cases r with
 | none=>obtain⟨ac,rfl⟩:=hE.none_;have k3:=O.BE ac;obtain⟨e0,f0,e1,f1,e2,f2,e3,f3,e4,f4,e5,f5,e6,f6,-⟩:=kb6 k3;go_wp2_with fail;have hp:=b6 (ι 0) (ι 0) (ι 0) (ι 0) (ι 0) (ι 0) (.slice none 0 0) k3;exact Zl (v:= .tuple #[.agg #[ι 0,ι 0,ι 0,ι 0,ι 0,ι 0,ζ],Δ]) (by simp[results,results437,go_sem,hp.c 0 rfl,hp.c 1 rfl,hp.c 2 rfl,hp.c 3 rfl,hp.c 4 rfl,hp.c 5 rfl,hp.c 6 rfl]) rfl (Y.no (e9 _ _ _ _ _ _ _ (aa.trans (ac.mono aa.size)) ω))
 | some x=>obtain⟨ac,aD,cx,rfl,hx⟩:=hE.some_;have k3:=O.BE ac;obtain⟨e0,f0,e1,f1,e2,f2,e3,f3,e4,f4,e5,f5,e6,f6,-⟩:=kb6 k3;go_wp2_with fail;have hp:=b6 (ι x.sy) (ι x.th) (ι x.br) (ι x.fl) (ι x.v.kd) (ι x.v.n) (.slice aD x.v.l.length cx) k3;exact Zl (v:= .tuple #[.agg (ε x.sy x.th x.br x.fl x.v aD cx),Υ]) (by simp[results,results437,go_sem,hp.c 0 rfl,hp.c 1 rfl,hp.c 2 rfl,hp.c 3 rfl,hp.c 4 rfl,hp.c 5 rfl,hp.c 6 rfl]) rfl (Y.yes (b:=w.heap.size) (aa.trans (ac.mono aa.size)) ω ω hx)
def wZ (o c x0 m sq rq send) (F:Nat) (caps r0 w) (z:Wf o w) (h:aq o w c x0 m sq rq) (hF:Λ F) (M:∀W,Below (ν w) w W→Calls prog F (#[.pointer (some ⟨aZ send sq rq,0,none⟩)] ++ caps) W (Y r0 W)) :
  Calls prog 436 #[π c,ι (sd send),.func (.func F) #[] caps] w (Y r0 w):=by
 have aa:=am w (.cells #[ι 0,ι 0,ι 0,ι 0,ι 0,ι 0,ζ] 307);refine xV ?_;intro O;have hQ:=iV o c x0 m sq rq send _ (h.below z aa);have hC:=M _ aa;have a8:w.heap.size+0 < (w.alloc θ).heap.size:=by simp
 obtain⟨r,hr⟩:∃r,r0=r:=⟨_,rfl⟩;rw[hr] at hC ⊢;clear hr;go_enter func436,ntmps436;go_wp2_with (go_at_call 455;refine γ hQ ?_);generalize (w.alloc θ)=G at *;refine hC.mono ?_;rintro e E hE;cases r with
 | none=>obtain⟨ac,rfl⟩:=hE.none_;have k3:=O.BE ac;obtain⟨e0,f0,e1,f1,e2,f2,e3,f3,e4,f4,e5,f5,e6,f6,-⟩:=kb6 k3;go_wp2_with fail;have hp:=b6 (ι 0) (ι 0) (ι 0) (ι 0) (ι 0) (ι 0) (.slice none 0 0) k3;exact Zl (v:= .tuple #[.agg #[ι 0,ι 0,ι 0,ι 0,ι 0,ι 0,ζ],Δ]) (by simp[results,results436,go_sem,hp.c 0 rfl,hp.c 1 rfl,hp.c 2 rfl,hp.c 3 rfl,hp.c 4 rfl,hp.c 5 rfl,hp.c 6 rfl]) rfl (Y.no (e9 _ _ _ _ _ _ _ (aa.trans (ac.mono aa.size)) ω))
 | some x=>obtain⟨ac,aD,cx,rfl,hx⟩:=hE.some_;have k3:=O.BE ac;obtain⟨e0,f0,e1,f1,e2,f2,e3,f3,e4,f4,e5,f5,e6,f6,-⟩:=kb6 k3;go_wp2_with fail;have hp:=b6 (ι x.sy) (ι x.th) (ι x.br) (ι x.fl) (ι x.v.kd) (ι x.v.n) (.slice aD x.v.l.length cx) k3;exact Zl (v:= .tuple #[.agg (ε x.sy x.th x.br x.fl x.v aD cx),Υ]) (by simp[results,results436,go_sem,hp.c 0 rfl,hp.c 1 rfl,hp.c 2 rfl,hp.c 3 rfl,hp.c 4 rfl,hp.c 5 rfl,hp.c 6 rfl]) rfl (Y.yes (b:=w.heap.size) (aa.trans (ac.mono aa.size)) ω ω hx)
def wH (o c x0 m sq rq send i w) (z:Wf o w) (h:aq o w c x0 m sq rq) :
  Calls prog 395 #[π c,ι (sd send),ι (i:Nat)] w (Y (aJ x0 send)[i]? w):=by
 have aa:=up w (.cells #[ι (i:Nat)] 3) (.cells #[ι 0,ι 0,ι 0,ι 0,ι 0,ι 0,ζ] 307);have O:=Zh (w.alloc (.cells #[ι (i:Nat)] 3)) 307 [ι 0,ι 0,ι 0,ι 0,ι 0,ι 0,ζ];rw[show (w.alloc (.cells #[ι (i:Nat)] 3)).heap.size=w.heap.size+1 by simp] at O;have kb:=(Zh w 3 [ι (i:Nat)]).alloc θ;have h2:=h.below z aa;have ap:=z.below aa;have hC:=wZ o c x0 m sq rq send 437 #[ϖ w] (aJ x0 send)[i]? _ ap h2 Ψ (fun W hW=>pv o _ _ i (ν w) W (ap.below hW) ((h2.side send).below ap hW) (kb.BE hW));have a8:w.heap.size+1 < ((w.alloc (.cells #[ι (i:Nat)] 3)).alloc θ).heap.size:=by simp
 obtain⟨r,hr⟩:∃r,(aJ x0 send)[i]? =r:=⟨_,rfl⟩;rw[hr] at hC ⊢;clear hr;go_enter func395,ntmps395;go_wp2_with fail;generalize ((w.alloc (.cells #[ι (i:Nat)] 3)).alloc θ)=G at *;refine hC.mono ?_;rintro e E hE;cases r with
 | none=>obtain⟨ac,rfl⟩:=hE.none_;have k3:=O.BE ac;obtain⟨e0,f0,e1,f1,e2,f2,e3,f3,e4,f4,e5,f5,e6,f6,-⟩:=kb6 k3;go_wp2_with fail;have hp:=b6 (ι 0) (ι 0) (ι 0) (ι 0) (ι 0) (ι 0) (.slice none 0 0) k3;exact Zl (v:= .tuple #[.agg #[ι 0,ι 0,ι 0,ι 0,ι 0,ι 0,ζ],Δ]) (by simp[results,results395,go_sem,hp.c 0 rfl,hp.c 1 rfl,hp.c 2 rfl,hp.c 3 rfl,hp.c 4 rfl,hp.c 5 rfl,hp.c 6 rfl]) rfl (Y.no (e9 _ _ _ _ _ _ _ (aa.trans (ac.mono aa.size)) ω))
 | some x=>obtain⟨ac,aD,cx,rfl,hx⟩:=hE.some_;have k3:=O.BE ac;obtain⟨e0,f0,e1,f1,e2,f2,e3,f3,e4,f4,e5,f5,e6,f6,-⟩:=kb6 k3;go_wp2_with fail;have hp:=b6 (ι x.sy) (ι x.th) (ι x.br) (ι x.fl) (ι x.v.kd) (ι x.v.n) (.slice aD x.v.l.length cx) k3;exact Zl (v:= .tuple #[.agg (ε x.sy x.th x.br x.fl x.v aD cx),Υ]) (by simp[results,results395,go_sem,hp.c 0 rfl,hp.c 1 rfl,hp.c 2 rfl,hp.c 3 rfl,hp.c 4 rfl,hp.c 5 rfl,hp.c 6 rfl]) rfl (Y.yes (b:=w.heap.size+1) (aa.trans (ac.mono aa.size)) ω ω hx)
def cz.parts {r:Option V} {l':List V} {o:ab} {w w':World} {q:Nat} {e:Ending} (h:cz r l' o w q e w'):∃o',J (·=q) o w o' w'∧M o' w' q l'∧(match r with
  | some x=>∃(a:Option Addr) (cap:Nat),e= .returned (.tuple #[.agg (ε x.sy x.th x.br x.fl x.v a cap),Υ])∧a4 (Fz o' w') w' x (bu x a cap)
  | none=>e= .returned (.tuple #[.agg #[ι 0,ι 0,ι 0,ι 0,ι 0,ι 0,ζ],Δ])):=by
 obtain⟨o',H,h2,h3⟩:=h;refine⟨o',H,h2,?_⟩;cases r with
 | none=>exact h3
 | some x=>obtain⟨cs,rfl,a,cap,rfl,h4⟩:=h3;exact⟨a,cap,rfl,a,cap,rfl,h4⟩
def cz.wrap {o o1 o' w G E q b} (z:Wf o w) (an:J Θ o w o1 G) (U:J (·=q) o1 G o' E) (hb:o1 b=some b) (aa:b < G.heap.size) (ao:w.heap.size≤b) (hq:q < w.heap.size) (v0 v1 v2 v3 I v5 v6) :
  J (·=q) o w o' (dp E b v0 v1 v2 v3 I v5 v6)∧aM (·≠b) o' E o' (dp E b v0 v1 v2 v3 I v5 v6)∧E.heap.size≤(dp E b v0 v1 v2 v3 I v5 v6).heap.size:=by have ap:=z.BD an;have aU:o' b=some b:=U.owned aa hb ω;have aq:=(an.more (D':=(·=q)) z fun _ _ h=>h.elim).same z U;have ah:J (·=b) o' E o' (dp E b v0 v1 v2 v3 I v5 v6):=Z9 (ap.BD U) (Fr.CS (S:=(·=b)) rfl _ _ _ _ _ _ _) fun x _ hx=>⟨b,by rw[hx];exact aU,rfl⟩;exact⟨aq.trans z ah fun k hk e=>by omega,ah.et fun _ h=>h,ah.size⟩
def yM {p q:Prop} (k:q) (h:Zq q→p:=by
 intro mq;have hp:=b6 (ι x.sy) (ι x.th) (ι x.br) (ι x.fl) (ι x.v.kd) (ι x.v.n) (.slice aD x.v.l.length cx) k3;obtain⟨L,ac,H⟩:=cz.wrap z an ag aU I ω V (ι x.sy) (ι x.th) (ι x.br) (ι x.fl) (ι x.v.kd) (ι x.v.n) (.slice aD x.v.l.length cx);revert hp L ac H
 exact mq.u):p:=h ⟨k⟩
def yN {p q:Prop} (k:q) (h:Zq q→p:=by
 intro mq;have hp:=b6 (ι 0) (ι 0) (ι 0) (ι 0) (ι 0) (ι 0) (.slice none 0 0) k3;obtain⟨L,ac,H⟩:=cz.wrap z an ag aU I ω V (ι 0) (ι 0) (ι 0) (ι 0) (ι 0) (ι 0) (.slice none 0 0);revert hp L ac H
 exact mq.u):p:=h ⟨k⟩
def rL (o q l i ib w) (z:Wf o w) (h:M o w q l) (Z:A w ib 3 [ι (i:Nat)]) :
  Calls prog 450 #[π q,π ib] w (cz l[i]? (l.eraseIdx i) o w q):=by
 refine yb ?_;intro an;refine xV ?_;intro O;have aU:(o.set (w.heap.size) (some (w.heap.size))) (w.heap.size)=some (w.heap.size):=Zw _ _ _;have ap:=z.BD an;have V:q < w.heap.size:=by obtain⟨v,h⟩:=h;exact h.blk.lt
 generalize o.set (w.heap.size) (some (w.heap.size))=o1 at *;have U:=Z.alloc θ;have ci:=U.c 0 rfl;have hC:=xl o1 q l i _ ap (h.kept (an.kp) an.size trivial);obtain⟨r,hr⟩:∃r,l[i]? =r:=⟨_,rfl⟩;obtain⟨l2,aA⟩:∃l2,(l.eraseIdx i)=l2:=⟨_,rfl⟩;rw[hr,aA] at hC ⊢;clear hr aA;go_enter func450,ntmps450;go_wp2_with fail;have I:=O.lt;generalize w.alloc θ=G at *;refine hC.mono ?_;rintro e E hE;obtain⟨o3,ag,ba,hE⟩:=hE.parts;have k3:A E (w.heap.size) 307 [ι 0,ι 0,ι 0,ι 0,ι 0,ι 0,ζ]:=(ag.fr.block (w.heap.size) I (by rintro ⟨k,hk,bM⟩;rw[aU] at hk;cases hk;omega)).trans O;obtain⟨e0,f0,e1,f1,e2,f2,e3,f3,e4,f4,e5,f5,e6,f6,-⟩:=kb6 k3;cases r with
 | none=>obtain rfl:e= .returned (.tuple #[.agg #[ι 0,ι 0,ι 0,ι 0,ι 0,ι 0,ζ],Δ]):=hE;go_wp2_with fail;refine yN ?_;intro hp L ac H;exact Zl (v:= .tuple #[.agg #[ι 0,ι 0,ι 0,ι 0,ι 0,ι 0,ζ],Δ]) (by simp[results,results450,go_sem,hp.c 0 rfl,hp.c 1 rfl,hp.c 2 rfl,hp.c 3 rfl,hp.c 4 rfl,hp.c 5 rfl,hp.c 6 rfl]) rfl ⟨o3,L,ba.kept ac H ω,rfl⟩
 | some x=>obtain⟨aD,cx,rfl,hx⟩:=hE;go_wp2_with fail;refine yM ?_;intro hp L ac H;exact Zl (v:= .tuple #[.agg (ε x.sy x.th x.br x.fl x.v aD cx),Υ]) (by simp[results,results450,go_sem,hp.c 0 rfl,hp.c 1 rfl,hp.c 2 rfl,hp.c 3 rfl,hp.c 4 rfl,hp.c 5 rfl,hp.c 6 rfl]) rfl ⟨o3,L,ba.kept ac H ω,_,rfl,hx.kept (K:=(·≠w.heap.size)) ac H⟩
def uE (o c x0 m sq rq send) (F:Nat) (caps r0 l0 w) (z:Wf o w) (h:aq o w c x0 m sq rq) (hF:Λ F) (M:∀o1 W,J Θ o w o1 W→Calls prog F (#[.pointer (some ⟨aZ send sq rq,0,none⟩)] ++ caps) W (cz r0 l0 o1 W (aZ send sq rq))) :
  Calls prog 436 #[π c,ι (sd send),.func (.func F) #[] caps] w (cz r0 l0 o w (aZ send sq rq)):=by
 refine yb ?_;intro an;refine xV ?_;intro O;have aU:(o.set (w.heap.size) (some (w.heap.size))) (w.heap.size)=some (w.heap.size):=Zw _ _ _;have V:(aZ send sq rq) < w.heap.size:=by obtain⟨v,h⟩:=h.side send;exact h.blk.lt
 generalize o.set (w.heap.size) (some (w.heap.size))=o1 at *;have h2:=h.kept (an.kp) an.size trivial trivial;have hQ:=iV o1 c x0 m sq rq send _ h2;have hC:=M _ _ an;obtain⟨r,hr⟩:∃r,r0=r:=⟨_,rfl⟩;obtain⟨l2,aA⟩:∃l2,l0=l2:=⟨_,rfl⟩;rw[hr,aA] at hC ⊢;clear hr aA;go_enter func436,ntmps436;go_wp2_with (go_at_call 455;refine γ hQ ?_);have I:=O.lt;generalize w.alloc θ=G at *;refine hC.mono ?_;rintro e E hE;obtain⟨o3,ag,ba,hE⟩:=hE.parts;have k3:A E (w.heap.size) 307 [ι 0,ι 0,ι 0,ι 0,ι 0,ι 0,ζ]:=(ag.fr.block (w.heap.size) I (by rintro ⟨k,hk,bM⟩;rw[aU] at hk;cases hk;omega)).trans O;obtain⟨e0,f0,e1,f1,e2,f2,e3,f3,e4,f4,e5,f5,e6,f6,-⟩:=kb6 k3;cases r with
 | none=>obtain rfl:e= .returned (.tuple #[.agg #[ι 0,ι 0,ι 0,ι 0,ι 0,ι 0,ζ],Δ]):=hE;go_wp2_with fail;refine yN ?_;intro hp L ac H;exact Zl (v:= .tuple #[.agg #[ι 0,ι 0,ι 0,ι 0,ι 0,ι 0,ζ],Δ]) (by simp[results,results436,go_sem,hp.c 0 rfl,hp.c 1 rfl,hp.c 2 rfl,hp.c 3 rfl,hp.c 4 rfl,hp.c 5 rfl,hp.c 6 rfl]) rfl ⟨o3,L,ba.kept ac H ω,rfl⟩
 | some x=>obtain⟨aD,cx,rfl,hx⟩:=hE;go_wp2_with fail;refine yM ?_;intro hp L ac H;exact Zl (v:= .tuple #[.agg (ε x.sy x.th x.br x.fl x.v aD cx),Υ]) (by simp[results,results436,go_sem,hp.c 0 rfl,hp.c 1 rfl,hp.c 2 rfl,hp.c 3 rfl,hp.c 4 rfl,hp.c 5 rfl,hp.c 6 rfl]) rfl ⟨o3,L,ba.kept ac H ω,_,rfl,hx.kept (K:=(·≠w.heap.size)) ac H⟩
def r1 (o c x0 m sq rq send i w) (z:Wf o w) (h:aq o w c x0 m sq rq) :
  Calls prog 417 #[π c,ι (sd send),ι (i:Nat)] w (cz (aJ x0 send)[i]? ((aJ x0 send).eraseIdx i) o w (aZ send sq rq)):=by
 have ah:=z.alloc (.cells #[ι (i:Nat)] 3);have U:J Θ o w o _:=Zb z (am w (.cells #[ι (i:Nat)] 3));have af:=ZJ ah (.cells #[ι 0,ι 0,ι 0,ι 0,ι 0,ι 0,ζ] 307);have an:=U.same z af;have a':(w.alloc (.cells #[ι (i:Nat)] 3)).heap.size=w.heap.size+1:=by simp
 rw[a'] at an;have M:=(Zh w 3 [ι (i:Nat)]).alloc θ;have O:=Zh (w.alloc (.cells #[ι (i:Nat)] 3)) 307 [ι 0,ι 0,ι 0,ι 0,ι 0,ι 0,ζ];rw[a'] at O;have aU:(o.set (η w) (some (w.heap.size+1))) (w.heap.size+1)=some (w.heap.size+1):=Zw _ _ _;have ap:=z.BD an;have V:(aZ send sq rq) < w.heap.size:=by obtain⟨v,h⟩:=h.side send;exact h.blk.lt
 generalize o.set (η w) (some (w.heap.size+1))=o1 at *;have h2:=h.kept (an.kp) an.size trivial trivial;have hC:=uE o1 c x0 m sq rq send 450 #[ϖ w] (aJ x0 send)[i]? ((aJ x0 send).eraseIdx i) _ ap h2 Ψ (fun o5 W az=>rL o5 _ _ i (ν w) W (ap.BD az) ((h2.side send).kept (az.kp) az.size trivial) ((az.fr.block (ν w) M.lt (by rintro ⟨k,-,hk⟩;exact hk)).trans M));obtain⟨r,hr⟩:∃r,(aJ x0 send)[i]? =r:=⟨_,rfl⟩;obtain⟨l2,aA⟩:∃l2,((aJ x0 send).eraseIdx i)=l2:=⟨_,rfl⟩;rw[hr,aA] at hC ⊢;clear hr aA;go_enter func417,ntmps417;go_wp2_with fail;have I:=O.lt;generalize (w.alloc (.cells #[ι (i:Nat)] 3)).alloc θ=G at *;refine hC.mono ?_;rintro e E hE;obtain⟨o3,ag,ba,hE⟩:=hE.parts;have k3:A E (η w) 307 [ι 0,ι 0,ι 0,ι 0,ι 0,ι 0,ζ]:=(ag.fr.block (η w) I (by rintro ⟨k,hk,bM⟩;rw[aU] at hk;cases hk;omega)).trans O;obtain⟨e0,f0,e1,f1,e2,f2,e3,f3,e4,f4,e5,f5,e6,f6,-⟩:=kb6 k3;cases r with
 | none=>obtain rfl:e= .returned (.tuple #[.agg #[ι 0,ι 0,ι 0,ι 0,ι 0,ι 0,ζ],Δ]):=hE;go_wp2_with fail;refine yN ?_;intro hp L ac H;exact Zl (v:= .tuple #[.agg #[ι 0,ι 0,ι 0,ι 0,ι 0,ι 0,ζ],Δ]) (by simp[results,results417,go_sem,hp.c 0 rfl,hp.c 1 rfl,hp.c 2 rfl,hp.c 3 rfl,hp.c 4 rfl,hp.c 5 rfl,hp.c 6 rfl]) rfl ⟨o3,L,ba.kept ac H ω,rfl⟩
 | some x=>obtain⟨aD,cx,rfl,hx⟩:=hE;go_wp2_with fail;refine yM ?_;intro hp L ac H;exact Zl (v:= .tuple #[.agg (ε x.sy x.th x.br x.fl x.v aD cx),Υ]) (by simp[results,results417,go_sem,hp.c 0 rfl,hp.c 1 rfl,hp.c 2 rfl,hp.c 3 rfl,hp.c 4 rfl,hp.c 5 rfl,hp.c 6 rfl]) rfl ⟨o3,L,ba.kept ac H ω,_,rfl,hx.kept (K:=(·≠w.heap.size+1)) ac H⟩
structure a6 (o:ab) (w:World):Prop where
 blk:A w 1 183 [.int .i64 1,.int .i64 2]
 own:o 1=none
def a6.kept {o o' w w' K} (h:a6 o w) (I:aM K o w o' w'):a6 o' w':=by obtain⟨H,h2⟩:=I.BF h.blk h.own;exact⟨H,h2⟩
def ii (o send w) (h:a6 o w):Calls prog 358 #[ι (sd send)] w (μ (ι (sd (!send))) w):=by
 obtain⟨c0,c1,-⟩:=kc1 h.blk;have i0:∀w,(Instr.index 183 (.agg #[ι 1,ι 2]) (ι 0)).run prog w= .ok (ι 1) w:=fun _=>by kernel_rfl
 have H:∀w,(Instr.index 183 (.agg #[ι 1,ι 2]) (ι 1)).run prog w= .ok (ι 2) w:=fun _=>by kernel_rfl
 cases send
 ·unfold sd
  simp only[Bool.false_eq_true,if_false,Bool.not_false,if_true];go_enter func358,ntmps358;go_wp2_with fail;go_loop [3,4,6] (fun _ _ i=>i= .int .i64 0∨i= .int .i64 1) (fun _ _ i=>2 - (intOf i).toNat)
  case atStart=>exact .inl rfl
  case round=>
   rcases hrel with rfl | rfl
   ·go_wp2_with fail
    go_round
    case rel=>exact .inr rfl
    case measure=>decide
   ·go_wp2_with fail
    go_ret;exact⟨rfl,rfl⟩
 ·unfold sd
  simp only[if_true,Bool.not_true,Bool.false_eq_true,if_false];go_enter func358,ntmps358;go_wp2_with fail;go_loop [3,4,6] (fun _ _ i=>i= .int .i64 0) (fun _ _ i=>2 - (intOf i).toNat)
  case atStart=>rfl
  case round=>subst hrel;go_wp2_with fail;go_ret;exact⟨rfl,rfl⟩
def cT.first {r:Except Int (List V)} {o w G w' q l e} (z:Wf o w) (hb:Below (ν w) w G) (h:cT r o G q l e w'):cT r o w q l e w':=by obtain⟨o',H,h2⟩:=h;exact⟨o',(Zb z hb).same z H,h2⟩
def s4 (o c x0 m sq rq send x cs w) (z:Wf o w) (h:aq o w c x0 m sq rq) (hx:a4 (Fz o w) w x cs) :
  Calls prog 425 #[π c,ι (sd send),.agg cs.toArray] w (cT (bV (aJ x0 send) x) o w (aZ send sq rq) (aJ x0 send)):=by
 have HX:=χ hx;obtain⟨aD,cx,rfl,-,-⟩:=hx;obtain⟨sy,th,br,fl,t⟩:=x;have af:=am w (.cells #[ι sy,ι th,ι br,ι fl,ι t.kd,ι t.n,.slice aD t.l.length cx] 307);have O:=Zh w 307 [ι sy,ι th,ι br,ι fl,ι t.kd,ι t.n,.slice aD t.l.length cx];have H:=h.below z af;have ae:=z.below af;have hQ:=iV o c x0 m sq rq send _ H;have hN:=hR o c x0 m sq rq _ H;have aC:=HX.out.kept (tB z af).frozen af.size;unfold bu;dsimp only;obtain⟨r,hr⟩:∃r,bV (aJ x0 send) ⟨sy,th,br,fl,t⟩=r:=⟨_,rfl⟩;rw[hr];have HR:=χ hr;clear hr;go_enter func425,ntmps425;go_wp2_with fail;refine fV 0 rfl ?_;generalize w.alloc (ε sy th br fl t aD cx)=G at *;have aa:=am G (.cells #[ι sy,ι th,ι br,ι fl,ι t.kd,ι t.n,.slice aD t.l.length cx] 307);have aF:=aC.kept (tB ae aa).frozen aa.size;have hP:=ww o (aZ send sq rq) (aJ x0 send) ⟨sy,th,br,fl,t⟩ (ν G) _ _ (ae.below aa) (((H.side send).below ae aa)) (Zh G 307 [ι sy,ι th,ι br,ι fl,ι t.kd,ι t.n,.slice aD t.l.length cx]) aF;rw[HR.out] at hP;obtain⟨c0,c1,c2,c3,c4,c5,c6,-⟩:=kc6 O;go_wp2_with first
  | (go_at_call 455;refine γ hQ ?_)
  | (go_at_call 80;refine γ hN ?_)
 refine hP.mono ?_;intro e E hE;have aP:=cT.first z (af.trans (aa.mono af.size)) hE;have HE:=χ aP;obtain⟨n,rfl⟩:∃n:Int,e= .returned (ι n):=by
  obtain⟨o',-,h3⟩:=hE;cases r with
  | ok l'=>exact⟨0,h3.1⟩
  | error n=>exact⟨n,h3.1⟩
 clear hE aP hP c0 c1 c2 c3 c4 c5 c6 hQ hN H aC aF;go_wp2_with fail;go_step3;go_wp2_with fail;rw[Exit.BS];go_ret;exact HE.out
def pV (o:ab) (c:Nat) (x0:dN) (m sq rq:Nat) (send:Bool) (x:V) (cs:List Value) (w:World) (z:Wf o w) (h:aq o w c x0 m sq rq) (hx:a4 (Fz o w) w x cs) :
  Calls prog 425 #[π c,ι (sd send),.agg cs.toArray] w fun e w'=>∃o',J (·=aZ send sq rq) o w o' w'∧(match bV (aJ x0 send) x with
   | .ok l'=>e= .returned (ι 0)∧aq o' w' c (bZ x0 send l') m sq rq
   | .error n=>e= .returned (ι n)∧aq o' w' c x0 m sq rq):=
 (s4 o c x0 m sq rq send x cs w z h hx).mono fun e w' hE=>by
  obtain⟨o',H,h2⟩:=hE
  refine⟨o',H,?_⟩
  cases hr:bV (aJ x0 send) x with
  | ok l'=>
    rw[hr] at h2
    exact⟨h2.1,h.Ch send H h2.2⟩
  | error n=>
    rw[hr] at h2
    refine⟨h2.1,?_⟩
    have h3:=h.Ch send H h2.2
    have e:bZ x0 send (aJ x0 send)=x0:=by cases send <;> rfl
    rwa [e] at h3
def aM.unbox {o w c} (hc:o c=some c):aM (·≠c) o w (o.set c none) w:=by
 intro b _ hk;refine⟨rfl,?_⟩
 by_cases e:b=c
 ·subst e;exact absurd rfl (hk b hc)
 ·exact Y2 _ _ e
def J.unbox {D o o' w w'} (h:J D o w o' w') {c} (hc:w.heap.size≤c):J D o w (o'.set c none) w':=by
 refine⟨h.fr,fun b hb=>?_,fun b k hb hk=>?_⟩
 ·rw[ab.BG _ _ ω];exact h.old b hb
 ·by_cases e:b=c
  ·subst e;rw[ab.BT] at hk;cases hk
  ·rw[ab.BG _ _ e] at hk;exact h.new b k hb hk
def pf {o w} (z:Wf o w) {m} (hm:o m=some m) (x):J (·=m) o w o (cm w m x):=
 Z9 z (S:=(·=m)) ⟨rfl,rfl,rfl,by rw[j1];exact Zc _,fun k _ hk=>n4 hk x⟩ fun b _ hb=>⟨m,by rw[hb];exact hm,rfl⟩
structure dK (o:ab) (w:World) (c m at_:Nat) (k:Nat) (wr:World):Prop where
 ex:∃o1,J (·=c) o w o1 wr∧A wr c 181 [.int .i64 (at_:Nat),.map (some m)]∧o1 c=some c∧o1 m=some m∧w.heap.size≤m ∧
  (k=0→wr.heap[m]? =some (.map #[] 0)) ∧
  (k=1→∃sq,wr.heap[m]? =some (.map #[⟨.int .i64 1,.pointer (some ⟨sq,0,none⟩),0⟩] 1)∧M o1 wr sq []∧w.heap.size≤sq∧sq≠m) ∧
  (k=2→∃sq rq,wr.heap[m]? =some (.map #[⟨.int .i64 1,.pointer (some ⟨sq,0,none⟩),0⟩,⟨.int .i64 2,.pointer (some ⟨rq,0,none⟩),1⟩] 2)∧M o1 wr sq []∧M o1 wr rq []∧w.heap.size≤sq∧w.heap.size≤rq∧sq≠m∧rq≠m∧sq≠rq)
def dK.Cy {o w wr w9 c m at_ q o1 o9} (z:Wf o w) (aN:c < w.heap.size) (U:J (·=c) o w o1 wr) (hb:A wr c 181 [ι (at_:Nat),.map (some m)]) (hc:o1 c=some c) (hm:o1 m=some m) (L:w.heap.size≤m) (G:m < wr.heap.size) (Y:J Θ o1 wr o9 w9) (hq:wr.heap.size≤q) (hI:M o9 w9 q []) (x) :
  J (·=c) o w o9 (cm w9 m x)∧A (cm w9 m x) c 181 [ι (at_:Nat),.map (some m)]∧o9 c=some c∧o9 m=some m∧M o9 (cm w9 m x) q []∧aM (·≠m) o1 wr o9 (cm w9 m x):=by
 have aE:=z.BD U;have I:=aE.BD Y;have ae:=Y.owned G hm id;have aT:=Y.owned hb.lt hc id;have hp:=pf I ae x;have ah:=Y.et (K:=(·≠m)) fun _ _ h=>h;have hk2:=hp.et (K:=(·≠m)) fun _ h=>h;have a3:aM (·≠m) o1 wr o9 (cm w9 m x):=by intro b aO hk;obtain⟨e1,e2⟩:=ah b aO hk;obtain⟨e3,e4⟩:=hk2 b (Za aO Y.size) (fun k E=>by rw[e2] at E;exact hk k E);exact⟨e3.trans e1,e4.trans e2⟩
 have aS:c≠m:=ω;obtain⟨b1,b2⟩:=a3.blk hb hc aS;refine⟨?_,b1,aT,ae,hI.kept hk2 hp.size ω,a3⟩;exact (U.same z (Y.more (D':=(·=c)) aE fun _ _ h=>h.elim)).trans z hp fun k hk e=>by omega
def xQ {p q:Prop} (k:q) (h:Zq q→p:=by
 intro mq;refine bodyPost_end (Yw rfl _ _ _) rfl ?_
 exact mq.u):p:=h ⟨k⟩
def rR (o c at_ gs w) (z:Wf o w) (hb:A w c 181 [ι (at_:Nat),.map none]) (hc:o c=some c) (hs:A w gs 182 [ι 1,ι 2]) (am:o gs=none) :
  Calls prog 217 #[π c,.slice (Γ gs) 2 2] w fun e w'=>e= .returned (.tuple #[])∧∃m,dK o w c m at_ 2 w':=by
 have aN:=hb.lt;have ag:dK o w c (ν w) at_ 0 (σ (w.alloc (.map #[] 0)) c 1 (.map (some w.heap.size))):=by
  have hB:=ZJ z (.map #[] 0);have ai:=z.BD hB;have V:(o.set (ν w) (some w.heap.size)) c=some c:=by rw[ab.BG _ _ ω];exact hc
  have aq:=Z3 (D:=(·=c)) ai V rfl 1 (.map (some w.heap.size));refine⟨_,(hB.more (D':=(·=c)) z fun _ _ h=>h.elim).same z aq,(hb.alloc _).set 1 _,V,Zw _ _ _,Zc _,fun _=>?_,fun h=>by omega,fun h=>by omega⟩;rw[Below.heap_setCell _ _ _ _ Ω];exact ZP w _
 have aC:∀w:World,(Instr.makeMap 179 (some (.int .i64 2))).run prog w= .ok (.map (some w.heap.size)) (w.alloc (.map #[] 0)):=by intro w;simp[Instr.makeMap,asInt,asIntOf,Result.andThen]
 have af:=hb.alloc (.map #[] 0);obtain⟨-,-,c1,f1,-⟩:=kb1 af;go_enter func217,ntmps217;go_wp2_with fail;clear c1 f1 af aC;rw[World.setCell_alloc_past _ _ _ _ aN] at ag;go_loopw [14] (fun i wr=>∃k:Nat,i= .int .i64 (k:Nat)∧k≤2∧dK o w c (ν w) at_ k wr) (fun i _=>2 - (intOf i).toNat)
 case atStart=>exact⟨0,rfl,ω,ag⟩
 case round=>
  clear ag;obtain⟨k,rfl,hk,⟨o1,U,hB,O,ap,L,ak,ah,hk2⟩⟩:=hrel;have aE:=z.BD U;have bC:A wr gs 182 [ι 1,ι 2]:=(U.frozen.BF hs am).1
  by_cases h2:k=2
  ·subst h2
   go_wp2_with fail;refine xQ ?_;exact⟨rfl,_,⟨o1,U,hB,O,ap,L,ak,ah,fun _=>hk2 trivial⟩⟩
  ·by_cases H:k=1
   ·subst H
    obtain⟨sq,bv,aj,ac,Z⟩:=ah rfl;clear ak hk2;have c0:=bC.c 1 rfl;have c1:=hB.c 1 rfl;have G:=aO bv;have ad:=iK o1 wr aE;have ax:=iK o1 wr.drew ⟨aE.1⟩;go_wp2_with fail;go_region_law
     (go_simp;go_at_call 225;(first | refine ax.mono ?_ | refine ad.mono ?_)
      rintro e w9 ⟨q,o9,rfl,hq,Y,aa,E⟩;replace Y:J Θ o1 wr o9 w9:=⟨⟨Y.fr.os,Y.fr.tape,Y.fr.output,Y.fr.size,Y.fr.block⟩,Y.old,Y.new⟩;replace E:Below (ν wr) wr w9:=⟨E.os,E.tape,E.output,E.size,E.block⟩;replace hq:wr.heap.size≤q:=hq;have c2:=(E.cell (p:=κ c 1) hB.lt).trans c1
      have hu:=i8 underlying179 underlying182 (v:= .pointer (some ⟨q,0,none⟩)) ((E.block _ G).trans bv) (i:=2) rfl)
    all_goals
     have G:=aO bv;obtain⟨an,b1,b2,b3,b4,I⟩:=dK.Cy z aN U hB O ap L G Y hq aa (.map #[⟨.int .i64 1,.pointer (some ⟨sq,0,none⟩),0⟩,⟨.int .i64 2,.pointer (some ⟨q,0,none⟩),1⟩] 2);have ae:w.heap.size < w9.heap.size:=Za G E.size;have ao:sq < wr.heap.size:=aj.elim fun _ h=>h.blk.lt;have hI:dK o w c (ν w) at_ 2 (cm w9 (ν w) (.map #[⟨.int .i64 1,.pointer (some ⟨sq,0,none⟩),0⟩,⟨.int .i64 2,.pointer (some ⟨q,0,none⟩),1⟩] 2)):=
      ⟨o9,an,b1,b2,b3,Zc _,fun h=>by omega,fun h=>by omega,fun _=>⟨sq,q,kw ae _,aj.kept I (by rw[j1];exact E.size) Z,b4,ac,ω,Z,ω,ω⟩⟩
     clear an b1 b2 b3 b4 I ad ax Y E aa c0 c1 c2 hu U hB;go_wp2_with fail;go_roundw
     case' rel=>exact⟨2,by go_num,ω,hI⟩
     case' measure=>simp[intOf]
   ·obtain rfl:k=0:=ω
    have M:=ak rfl;clear ak ah hk2;have c0:=bC.c 0 rfl;have c1:=hB.c 1 rfl;have G:=aO M;have ad:=iK o1 wr aE;have ax:=iK o1 wr.drew ⟨aE.1⟩;go_wp2_with fail;go_region_law
     (go_simp;go_at_call 225;(first | refine ax.mono ?_ | refine ad.mono ?_)
      rintro e w9 ⟨q,o9,rfl,hq,Y,aa,E⟩;replace Y:J Θ o1 wr o9 w9:=⟨⟨Y.fr.os,Y.fr.tape,Y.fr.output,Y.fr.size,Y.fr.block⟩,Y.old,Y.new⟩;replace E:Below (ν wr) wr w9:=⟨E.os,E.tape,E.output,E.size,E.block⟩;replace hq:wr.heap.size≤q:=hq;have c2:=(E.cell (p:=κ c 1) hB.lt).trans c1
      have hu:=i8 underlying179 underlying182 (v:= .pointer (some ⟨q,0,none⟩)) ((E.block _ G).trans M) (i:=1) rfl)
    all_goals
     have G:=aO M;obtain⟨an,b1,b2,b3,b4,I⟩:=dK.Cy z aN U hB O ap L G Y hq aa (.map #[⟨.int .i64 1,.pointer (some ⟨q,0,none⟩),0⟩] 1);have ae:w.heap.size < w9.heap.size:=Za G E.size;have hI:dK o w c (ν w) at_ 1 (cm w9 (ν w) (.map #[⟨.int .i64 1,.pointer (some ⟨q,0,none⟩),0⟩] 1)):=
      ⟨o9,an,b1,b2,b3,Zc _,fun h=>by omega,fun _=>⟨q,kw ae _,b4,ω,ω⟩,fun h=>by omega⟩
     clear an b1 b2 b3 b4 I ad ax Y E aa c0 c1 c2 hu U hB;go_wp2_with fail;go_roundw
     case' rel=>exact⟨1,by go_num,ω,hI⟩
     case' measure=>simp[intOf]
def hl (o:ab) (w:World) (Y most:Nat) (cells:List Nat) (cnt:Nat) (e:Ending) (w':World):Prop:=
 if most - cells.length < 1 then e= .returned (.tuple #[.pointer none,.int .i64 6])∧Below w.heap.size w w'
 else ∃o' c m sq rq,e= .returned (.tuple #[.pointer (some ⟨c,0,none⟩),.int .i64 0])∧J (·=Y) o w o' w'∧an o' w' Y most (cells ++ [0]) cnt∧aq o' w' c ⟨cells.length,[],[]⟩ m sq rq∧w.heap.size≤c∧w.heap.size≤m∧w.heap.size≤sq∧w.heap.size≤rq
def dK.made {o1 w1 M at_ m} (ae:Wf o1 w1) (vs:List Value) (t1 t2) (I:dK (o1.set (ν w1) (some w1.heap.size)) ((w1.alloc (.cells #[ι (at_:Nat),.map none] t1)).alloc (.cells vs.toArray t2)) (ν w1) m at_ 2 M) :
  ∃o' c sq rq,c=w1.heap.size∧J Θ o1 w1 o' M∧aq o' M c ⟨at_,[],[]⟩ m sq rq∧w1.heap.size≤m∧w1.heap.size≤sq∧w1.heap.size≤rq:=by
 have hB:=ZJ ae (.cells #[ι (at_:Nat),.map none] t1);have ap:=ae.BD hB;have ac:=am (w1.alloc (.cells #[ι (at_:Nat),.map none] t1)) (.cells vs.toArray t2);have h3:=Zb (D:=(·=w1.heap.size)) ap ac;obtain⟨o4,ao,hC,hc,hm,L,-,-,h2⟩:=I;obtain⟨sq,rq,z,aj,be,l1,l2,n1,n2,n3⟩:=h2 rfl;have aS:((w1.alloc (.cells #[ι (at_:Nat),.map none] t1)).alloc (.cells vs.toArray t2)).heap.size=w1.heap.size+1+1:=by show (w1.heap.push _ |>.push _).size=_;rw[Array.size_push,Array.size_push]
 rw[aS] at L l1 l2;have Z:J Θ o1 w1 o4 M:=(((hB.more (D':=(·=w1.heap.size)) ae fun _ _ h=>h.elim).same ae h3).same ae ao).more ae fun k hk e=>by omega
 have az:=Z.unbox (c:=w1.heap.size) (Zc _);have a3:=az.unbox (c:=m) ω;have ah:=aM.unbox (w:=M) hc;have bL:m≠w1.heap.size:=ω;have A:(o4.set (ν w1) none) m=some m:=by rw[ab.BG _ _ bL];exact hm
 have hk2:=aM.unbox (w:=M) A;refine⟨_,_,sq,rq,rfl,a3,⟨hC,?_,⟨_,_,_,z⟩,Zw _ _ _,?_,?_,n3⟩,ω,ω,ω⟩
 ·rw[ab.BG _ _ bL.symm];exact Zw _ _ _
 ·exact (aj.kept ah (Zc _) ω).kept hk2 (Zc _) n1
 ·exact (be.kept ah (Zc _) ω).kept hk2 (Zc _) n2
def mK (o Y most cells cnt w) (z:Wf o w) (h:an o w Y most cells cnt) (hE:a6 o w) :
  Calls prog 174 #[π Y] w (hl o w Y most cells cnt):=by
 have hA:=tc o Y most cells cnt w z h
 by_cases ah:most - cells.length < 1
 ·unfold ca at hA
  unfold hl;simp only[ah,if_true] at hA ⊢;clear ah;go_enter func174,ntmps174;go_wp2_with fail;refine fV 0 rfl ?_;go_wp2_with (go_at_call 216;refine δ hA ?_;intro w1 hb);go_step3;refine⟨rfl,?_⟩;go_wp2_with fail;rw[Exit.noGoto_ret];go_ret2;exact⟨rfl,hb⟩
 ·unfold ca at hA
  unfold hl;simp only[ah,if_false] at hA ⊢;clear ah;obtain⟨L,hL⟩:∃L:Nat,cells.length=L:=⟨_,rfl⟩;rw[hL] at hA ⊢;clear hL;go_enter func174,ntmps174;go_wp2_with fail;refine fV 0 rfl ?_;go_wp2_with
   (go_at_call 216;refine hA.mono ?_
    rintro e w1 ⟨rfl,o1,ak,aJ⟩;have aP:=hE.kept ak.frozen;have ae:=z.BD ak;have aB:=aP.blk.alloc (.cells #[ι (L:Nat),.map none] 181);have d0:=aB.c 0 rfl
    have d1:=aB.c 1 rfl)
  have hB:=ZJ ae (.cells #[ι (L:Nat),.map none] 181);have ap:=ae.BD hB;have ac:=am (w1.alloc (.cells #[ι (L:Nat),.map none] 181)) (.cells #[ι 1,ι 2] 182);have a':(w1.alloc (.cells #[ι (L:Nat),.map none] 181)).heap.size=w1.heap.size+1:=by show (w1.heap.push _).size=_;rw[Array.size_push]
  have I:=rR (o1.set (ν w1) (some w1.heap.size)) (ν w1) L (η w1) _ (ap.below ac) ((Zh w1 181 [ι (L:Nat),.map none]).alloc _) (Zw _ _ _)
   (by rw[←a'];exact Zh _ 182 [ι 1,ι 2]) (by rw[ab.BG _ _ ω];exact ae.ge ω)
  refine I.mono ?_;rintro e M ⟨rfl,m,E⟩;obtain⟨o',c,sq,rq,hc,H,h2,h3,h4,h5⟩:=dK.made ae [ι 1,ι 2] _ _ E;have bw:=aJ.kept (H.kp) trivial;have ao:=ak.trans z H fun _ _ h=>h.elim;have hs:=ak.size;subst hc;clear E I a' ac ap hB d0 d1 aB aP;go_wp2_with fail;go_step3;go_wp2_with fail;rw[Exit.BS];go_ret2;exact⟨_,_,m,sq,rq,rfl,ao,bw,h2,ω,ω,ω,ω⟩
section
structure ey (o:ab) (w:World) (c:Nat) (x:fX) (q:Nat):Prop where
 blk:A w c 190 [.int .i64 (x.lk:Nat),.int .i64 (x.fd:Nat),.pointer (some ⟨q,0,none⟩)]
 fc:o c=none
 qs:M o w q x.q
section
variable {o o':ab} {w w':World} {c q:Nat} {x:fX} {K:Nat→Prop}
def ey.kept (h:ey o w c x q) (I:aM K o w o' w') (hs:w.heap.size≤w'.heap.size) (H:K q):ey o' w' c x q:=by obtain⟨a1,a2⟩:=I.BF h.blk h.fc;exact⟨a1,a2,h.qs.kept I hs H⟩
def ey.below (h:ey o w c x q) (z:Wf o w) (hb:Below (ν w) w w'):ey o w' c x q:=
 h.kept (kB z hb) hb.size trivial
end
def wg (o c x q w) (h:ey o w c x q):Calls prog 82 #[π c] w (μ (.bool false) w):=by have c1:=h.blk.c 2 rfl;go_enter func82,ntmps82;go_wp2_with fail;go_ret;exact⟨rfl,rfl⟩
def rX (lk fd w):Calls prog 446 #[.agg #[ι (lk:Nat),ι (fd:Nat)]] w (ϑ (ι (fd:Nat)) w):=by have hb:=am w (.cells #[ι (lk:Nat),ι (fd:Nat)] 188);go_enter func446,ntmps446;go_wp2_with fail;go_ret;exact⟨rfl,hb⟩
end
def zA {p:Prop} (h:p:=by
 go_enter func406,ntmps406;go_wp2_with first
  | (go_at_call 82;refine γ hN ?_)
  | (go_at_call 446;refine δ hL ?_;intro w1 hb)
  | (go_at_call 378;refine δ (hA _ hb) ?_;intro w1 U)
 go_ret2
 exact⟨rfl,Yt z hb U⟩):p:=h
def ui (o c x q Y most cells cnt w) (z:Wf o w) (hc:ey o w c x q) (h:an o w Y most cells cnt) (hi:x.fd < cells.length) :
  Calls prog 406 #[π c,π Y] w fun e w'=>e= .returned (.tuple #[.bool (cells[x.fd] != 0),ι 0])∧E Y most cells cnt o w w':=by
 have hN:=wg o c x q w hc;obtain⟨c0,c1,-⟩:=kc1 hc.blk;have hL:=rX x.lk x.fd w;have hA:=fun w1 (hb:Below (ν w) w w1)=>mi o Y most cells cnt x.fd w1 (z.below hb) (h.below z hb) hi;obtain⟨i,O⟩:∃i,x.lk=i:=⟨_,rfl⟩;obtain⟨j,A⟩:∃j,x.fd=j:=⟨_,rfl⟩;simp only[O,A] at *;obtain⟨y,hy⟩:∃y,cells[j]=y:=⟨_,rfl⟩;simp only[hy] at hA ⊢;clear hy O A
 by_cases hy:y=0
 ·subst hy
  exact zA
 ·have hy1:((y:Int) != 0)=true:=by simp[hy]
  have hy2:(y != 0)=true:=by simp[hy]
  rw[hy2];exact zA


def U (n:Int):Value:= .iface 353 (.agg #[.int .i64 n])
def eA (n:Int):Ending:= .panicked [{v:=U n,recovered:=false}]
def fw (n w):(Instr.typeAssert (U n) 20 353 true).run prog w= .ok (.tuple #[.agg #[ι n],Υ]) w:=by
 unfold U
 kernel_rfl
def cK (n w):Calls prog 172 #[Υ,ι n] w (μ (.tuple #[]) w):=by go_enter func172,ntmps172;go_wp2_with fail;refine xQ ?_;exact⟨rfl,rfl⟩
def mS (n w):Calls prog 172 #[Δ,ι n] w fun e w'=>e=eA n∧w=w':=by unfold eA U;go_enter func172,ntmps172;go_wp2_with fail;exact⟨rfl,rfl,rfl⟩
def bH {α:Type} (D:Nat→Prop) (enc:α→Value) (R:Except Int α→ab→World→Prop) (o:ab) (w:World) (e:Ending) (w':World):Prop:=
 ∃o',J D o w o' w'∧∃r,R r o' w'∧match r with
  | .ok n=>e= .returned (enc n)
  | .error n=>e=eA n
def af {α:Type} (D:Nat→Prop) (enc:α→Value) (O:Value) (R:Except Int α→ab→World→Prop) (o:ab) (w:World) (e:Ending) (w':World):Prop:=
 ∃o',J D o w o' w'∧∃r,R r o' w'∧match r with
  | .ok n=>e= .returned (.tuple #[enc n,.int .i64 0])
  | .error n=>e= .returned (.tuple #[O,.int .i64 n])
def dL {α:Type} (b0 b1:Nat) (R:Except Int α→ab→World→Prop):Prop:=∀r o w w',R r o w→aM (fun k=>k≠b0∧k≠b1) o w o w'→w.heap.size≤w'.heap.size→R r o w'
def two (o:ab) (n:Nat):ab:=(o.set n (some n)).set (n+1) (some (n+1))
def J.two {o w} (z:Wf o w) (x y):J Θ o w (two o (ν w)) ((w.alloc x).alloc y):=by have H:=ZJ z x;have h2:=ZJ (z.BD H) y;rw[show (w.alloc x).heap.size=w.heap.size+1 by simp] at h2;exact H.same z h2
def af.fin {D o o1 o2 w G w1 w' b0 b1} (z:Wf o w) (an:J Θ o w o2 G) (U:J D o2 G o1 w1) (hD:∀k,D k→k < w.heap.size) (e0:o2 b0=some b0) (e1:o2 b1=some b1) (h0:w.heap.size≤b0) (H:w.heap.size≤b1) (l0:b0 < G.heap.size) (l1:b1 < G.heap.size) (hF:Fr (fun b=>b=b0∨b=b1) w1 w') :
    J D o w o1 w'∧aM (fun k=>k≠b0∧k≠b1) o1 w1 o1 w':=by
  have ap:=z.BD an;have ae:=ap.BD U;have d0:o1 b0=some b0:=U.owned l0 e0 fun h=>by have:=hD _ h;omega
  have d1:o1 b1=some b1:=U.owned l1 e1 fun h=>by have:=hD _ h;omega
  have a8:J (fun k=>k=b0∨k=b1) o1 w1 o1 w':=Z9 ae hF fun b _ hb=>by
    rcases hb with rfl | rfl
    ·exact⟨_,d0,.inl rfl⟩
    ·exact⟨_,d1,.inr rfl⟩
  have hA:J D o w o1 w1:=(an.more z fun _ _ h=>h.elim).same z U;exact⟨hA.trans z a8 fun k hk e=>by omega,a8.et fun k hk e=>by omega⟩
def Yc:=@J.two
def xS {p q:Prop} (k:q) (h:Zq q→p:=by
 intro mq;refine wpS_of_wp ?_;simp only[Array.replicate_succ,Array.replicate_zero,List.push_toArray,List.append_toArray,List.nil_append,List.cons_append,List.setIfInBounds_toArray,List.set_cons_succ,List.set_cons_zero]
 exact mq.u):p:=h ⟨k⟩
def yt {p q:Prop} (k:q) (h:Zq q→p:=by
 intro mq;have O:=h0.alloc (.cells #[ι n] 353);have Z:=H.alloc (.cells #[ι n] 353);have k2:=Zh w 353 [ι n];have ai:=am w (.cells #[ι n] 353);have hy:w.heap.size≠I:=ω;have hz:w.heap.size≠be:=ω;revert O Z k2 ai hy hz
 exact mq.u):p:=h ⟨k⟩
def yc {p q:Prop} (k:q) (h:Zq q→p:=by
 intro mq;refine xS ?_;have L:=fun wx=>fw n wx;unfold U at L ⊢;revert L
 exact mq.u):p:=h ⟨k⟩
def yk {p q:Prop} (k:q) (h:Zq q→p:=by
 intro mq;obtain⟨r0,g0,-⟩:=kb0 O;obtain⟨r1,g1,-⟩:=kb0 Z;have r2:=k2.c 0 rfl;go_region;revert r0 g0 r1 g1 r2
 exact mq.u):p:=h ⟨k⟩
def pT (I be n v0 v1) (h:List PanicEntry) (w) (h0:A w I 3 [v0]) (H:A w be 33 [v1]) (ay:I≠be) :
  CallsD prog 215 #[π I,π be] (.panicking ({v:=U n,recovered:=false} :: h)) w fun e u' w'=>
   e= .returned (.tuple #[])∧u'= .panicking ({v:=U n,recovered:=true} :: h)∧A w' I 3 [ι 0]∧A w' be 33 [ι n]∧Fr (fun b=>b=I∨b=be) w w':=by
 have l0:=h0.lt;have l1:=H.lt;refine ZB func215 rfl fun c₀ cs hu=>?_;apply ZW;apply ZH;simp[wpOpsS,go_sem,recoverD,hu,ntmps215,Exit.thenS];refine yc ?_;intro L;go_wp2_with fail;refine yt ?_;intro O Z k2 ai hy hz;generalize w.alloc (.cells #[ι n] 353)=V at *;obtain⟨xb,z⟩:∃xb,w.heap.size=xb:=⟨_,rfl⟩;rw[z] at k2 hy hz ai ⊢;refine yk ?_;intro r0 g0 r1 g1 r2;have hP:A (σ (σ V I 0 (ι 0)) be 0 (ι n):World).drew I 3 [ι 0]∧A (σ (σ V I 0 (ι 0)) be 0 (ι n):World).drew be 33 [ι n]∧Fr (fun b=>b=I∨b=be) w (σ (σ V I 0 (ι 0)) be 0 (ι n):World).drew:=
   ⟨((O.set 0 (ι 0)).BJ (q:=κ be 0) ay (ι n)).drew,((Z.BJ (q:=κ I 0) (fun e=>ay e.symm) (ι 0)).set 0 (ι n)).drew,
     (((ZA (by rw[z];exact ai)).same (Z4 (q:=κ I 0) (.inl (.inl rfl)))).same (Z4 (q:=κ be 0) (.inl (.inr rfl)))).same Yn⟩
 go_wp2_with fail;simp[bodyPostS,results,results215];exact hP
def qX (I be w) :
  CallsD prog 215 #[π I,π be] .returning w fun e u' w'=>e= .returned (.tuple #[])∧u'= .returning∧w'=w:=by
 refine ZB func215 rfl fun c₀ cs hu=>?_;apply ZW;apply ZH;simp[wpOpsS,go_sem,recoverD,hu,ntmps215,Exit.thenS];refine xS ?_;go_wp2_with fail;cases c₀
 simp_all [bodyPostS,results,results215]
def xZ {p q:Prop} (k:q) (h:Zq q→p:=by
 intro mq;have e0:two o (ν w) w.heap.size=some w.heap.size:=by unfold two;rw[ab.BG _ _ ω];exact Zw _ _ _
 have e1:two o (ν w) (w.heap.size+1)=some (w.heap.size+1):=Zw _ _ _;revert e0 e1
 exact mq.u):p:=h ⟨k⟩
def yd {p q:Prop} (k:q) (h:Zq q→p:=by
 intro mq;have k3:=(ag.fr.block (ν w) l0 (by rintro ⟨k,hk,hd⟩;rw[e0] at hk;cases hk;have:=hD _ hd;omega)).trans O;have k4:=(ag.fr.block (η w) l1 (by rintro ⟨k,hk,hd⟩;rw[e1] at hk;cases hk;have:=hD _ hd;omega)).trans Z;revert k3 k4
 exact mq.u):p:=h ⟨k⟩
def xU {p q:Prop} (k:q) (h:Zq q→p:=by
 intro mq;obtain⟨t1,t2⟩:=af.fin z an ag hD e0 e1 (Zc _) ω l0 l1 Y;revert t1 t2
 exact mq.u):p:=h ⟨k⟩
def yO {p q:Prop} (k:q) (h:Zq q→p:=by
 intro mq;obtain⟨c3,f3,-⟩:=kb0 k3;obtain⟨c4,f4,-⟩:=kb0 k4;have h0:=(Yi k3 0 (ι n)).BJ (q:=κ (η w) 0) ξ (ι 0);have H:=(Y0 k4 (q:=κ (ν w) 0) ξ (ι n)).set 0 (ι 0);have Y:Fr (fun b=>b=w.heap.size∨b=w.heap.size+1) E (σ (σ E (ν w) 0 (ι n)) (η w) 0 (ι 0)):=(Z4 (q:=κ (ν w) 0) (.inl (.inl rfl))).same (Z4 (q:=κ (η w) 0) (.inl (.inr rfl)));revert c3 f3 c4 f4 h0 H Y
 exact mq.u):p:=h ⟨k⟩
def vz (F:Nat) (caps D) (R:Except Int Int→ab→World→Prop) (o w) (z:Wf o w) (hD:∀k,D k→k < w.heap.size) (hR:dL (ν w) (η w) R) (hF:Λ F) (aG:Calls prog F caps ((w.alloc (.cells #[ι 0] 3)).alloc θ2) (bH D (.int .i64) R (two o (ν w)) ((w.alloc (.cells #[ι 0] 3)).alloc θ2))) :
  Calls prog 170 #[.func (.func F) #[] caps] w (af D (.int .i64) (ι 0) R o w):=by
 have an:=Yc z (.cells #[ι 0] 3) (.cells #[ι 0] 33);have O:=(Zh w 3 [ι 0]).alloc θ2;have Z:=Zh (w.alloc (.cells #[ι 0] 3)) 33 [ι 0];rw[show (w.alloc (.cells #[ι 0] 3)).heap.size=w.heap.size+1 by simp] at Z;refine xZ ?_;intro e0 e1;go_enter_defers func170,ntmps170;go_wp2_with fail;generalize two o w.heap.size=o2 at *;generalize (w.alloc (.cells #[ι 0] 3)).alloc θ2=G at *;have l0:=O.lt;have l1:=Z.lt;refine aG.mono ?_;rintro e E ⟨o3,ag,r,hr,he⟩;refine yd ?_;intro k3 k4;cases r with
 | error n=>
   subst he
   show bodyPostD _ _ _ _ _ _
   refine leaves_cons (f:=215) (args:=#[ϖ w,π (η w)]) ξ (by simp[go_sem]) ?_;refine (pT (ν w) (η w) n _ _ [] _ k3 k4 ω).mono ?_;rintro e u' M ⟨rfl,rfl,h0,H,Y⟩;refine xU ?_;intro t1 t2;exact⟨.tuple #[ι 0,ι n],by simp[results,results170,go_sem,h0.c 0 rfl,H.c 0 rfl],o3,t1,.error n,hR _ _ _ _ hr t2 Y.size,rfl⟩
 | ok n=>
   subst he;refine yO ?_;intro c3 f3 c4 f4 h0 H Y;go_wp2_with fail
   show bodyPostD _ _ _ _ _ _
   refine leaves_cons (f:=215) (args:=#[ϖ w,π (η w)]) ξ (by simp[go_sem]) ?_;refine (qX (ν w) (η w) _).mono ?_;rintro e u' M ⟨rfl,rfl,rfl⟩;refine xU ?_;intro t1 t2;exact⟨.tuple #[ι n,ι 0],by simp[results,results170,go_sem,h0.c 0 rfl,H.c 0 rfl],o3,t1,.ok n,hR _ _ _ _ hr t2 Y.size,rfl⟩
def qK (I be n v0 v1) (h:List PanicEntry) (w) (h0:A w I 4 [v0]) (H:A w be 33 [v1]) (ay:I≠be) :
  CallsD prog 325 #[π I,π be] (.panicking ({v:=U n,recovered:=false} :: h)) w fun e u' w'=>
   e= .returned (.tuple #[])∧u'= .panicking ({v:=U n,recovered:=true} :: h)∧A w' I 4 [Δ]∧A w' be 33 [ι n]∧Fr (fun b=>b=I∨b=be) w w':=by
 have l0:=h0.lt;have l1:=H.lt;refine ZB func325 rfl fun c₀ cs hu=>?_;apply ZW;apply ZH;simp[wpOpsS,go_sem,recoverD,hu,ntmps325,Exit.thenS];refine yc ?_;intro L;go_wp2_with fail;refine yt ?_;intro O Z k2 ai hy hz;generalize w.alloc (.cells #[ι n] 353)=V at *;obtain⟨xb,z⟩:∃xb,w.heap.size=xb:=⟨_,rfl⟩;rw[z] at k2 hy hz ai ⊢;refine yk ?_;intro r0 g0 r1 g1 r2;have hP:A (σ (σ V I 0 (.bool false)) be 0 (ι n):World).drew I 4 [Δ]∧A (σ (σ V I 0 (.bool false)) be 0 (ι n):World).drew be 33 [ι n]∧Fr (fun b=>b=I∨b=be) w (σ (σ V I 0 (.bool false)) be 0 (ι n):World).drew:=
   ⟨((O.set 0 (.bool false)).BJ (q:=κ be 0) ay (ι n)).drew,((Z.BJ (q:=κ I 0) (fun e=>ay e.symm) (.bool false)).set 0 (ι n)).drew,
     (((ZA (by rw[z];exact ai)).same (Z4 (q:=κ I 0) (.inl (.inl rfl)))).same (Z4 (q:=κ be 0) (.inl (.inr rfl)))).same Yn⟩
 go_wp2_with fail;simp[bodyPostS,results,results325];exact hP
def uK (I be w) :
  CallsD prog 325 #[π I,π be] .returning w fun e u' w'=>e= .returned (.tuple #[])∧u'= .returning∧w'=w:=by
 refine ZB func325 rfl fun c₀ cs hu=>?_;apply ZW;apply ZH;simp[wpOpsS,go_sem,recoverD,hu,ntmps325,Exit.thenS];refine xS ?_;go_wp2_with fail;cases c₀
 simp_all [bodyPostS,results,results325]
def vy (F:Nat) (caps D) (R:Except Int Bool→ab→World→Prop) (o w) (z:Wf o w) (hD:∀k,D k→k < w.heap.size) (hR:dL (ν w) (η w) R) (hF:Λ F) (aG:Calls prog F caps ((w.alloc (.cells #[Δ] 4)).alloc θ2) (bH D (.bool) R (two o (ν w)) ((w.alloc (.cells #[Δ] 4)).alloc θ2))) :
  Calls prog 293 #[.func (.func F) #[] caps] w (af D (.bool) (.bool false) R o w):=by
 have an:=Yc z (.cells #[Δ] 4) (.cells #[ι 0] 33);have O:=(Zh w 4 [Δ]).alloc θ2;have Z:=Zh (w.alloc (.cells #[Δ] 4)) 33 [ι 0];rw[show (w.alloc (.cells #[Δ] 4)).heap.size=w.heap.size+1 by simp] at Z;refine xZ ?_;intro e0 e1;go_enter_defers func293,ntmps293;go_wp2_with fail;generalize two o w.heap.size=o2 at *;generalize (w.alloc (.cells #[Δ] 4)).alloc θ2=G at *;have l0:=O.lt;have l1:=Z.lt;refine aG.mono ?_;rintro e E ⟨o3,ag,r,hr,he⟩;refine yd ?_;intro k3 k4;cases r with
 | error n=>
   subst he
   show bodyPostD _ _ _ _ _ _
   refine leaves_cons (f:=325) (args:=#[ϖ w,π (η w)]) ξ (by simp[go_sem]) ?_;refine (qK (ν w) (η w) n _ _ [] _ k3 k4 ω).mono ?_;rintro e u' M ⟨rfl,rfl,h0,H,Y⟩;refine xU ?_;intro t1 t2;exact⟨.tuple #[Δ,ι n],by simp[results,results293,go_sem,h0.c 0 rfl,H.c 0 rfl],o3,t1,.error n,hR _ _ _ _ hr t2 Y.size,rfl⟩
 | ok n=>
   subst he;obtain⟨c3,f3,-⟩:=kb0 k3;obtain⟨c4,f4,-⟩:=kb0 k4;have h0:=(Yi k3 0 (.bool n)).BJ (q:=κ (η w) 0) ξ (ι 0);have H:=(Y0 k4 (q:=κ (ν w) 0) ξ (.bool n)).set 0 (ι 0);have Y:Fr (fun b=>b=w.heap.size∨b=w.heap.size+1) E (σ (σ E (ν w) 0 (.bool n)) (η w) 0 (ι 0)):=(Z4 (q:=κ (ν w) 0) (.inl (.inl rfl))).same (Z4 (q:=κ (η w) 0) (.inl (.inr rfl)));go_wp2_with fail
   show bodyPostD _ _ _ _ _ _
   refine leaves_cons (f:=325) (args:=#[ϖ w,π (η w)]) ξ (by simp[go_sem]) ?_;refine (uK (ν w) (η w) _).mono ?_;rintro e u' M ⟨rfl,rfl,rfl⟩;refine xU ?_;intro t1 t2;exact⟨.tuple #[.bool n,ι 0],by simp[results,results293,go_sem,h0.c 0 rfl,H.c 0 rfl],o3,t1,.ok n,hR _ _ _ _ hr t2 Y.size,rfl⟩
def wX (I be n v0 v1) (h:List PanicEntry) (w) (h0:A w I 434 [v0]) (H:A w be 33 [v1]) (ay:I≠be) :
  CallsD prog 439 #[π I,π be] (.panicking ({v:=U n,recovered:=false} :: h)) w fun e u' w'=>
   e= .returned (.tuple #[])∧u'= .panicking ({v:=U n,recovered:=true} :: h)∧A w' I 434 [ι 0]∧A w' be 33 [ι n]∧Fr (fun b=>b=I∨b=be) w w':=by
 have l0:=h0.lt;have l1:=H.lt;refine ZB func439 rfl fun c₀ cs hu=>?_;apply ZW;apply ZH;simp[wpOpsS,go_sem,recoverD,hu,ntmps439,Exit.thenS];refine yc ?_;intro L;go_wp2_with fail;refine yt ?_;intro O Z k2 ai hy hz;generalize w.alloc (.cells #[ι n] 353)=V at *;obtain⟨xb,z⟩:∃xb,w.heap.size=xb:=⟨_,rfl⟩;rw[z] at k2 hy hz ai ⊢;refine yk ?_;intro r0 g0 r1 g1 r2;have hP:A (σ (σ V I 0 (ι 0)) be 0 (ι n):World).drew I 434 [ι 0]∧A (σ (σ V I 0 (ι 0)) be 0 (ι n):World).drew be 33 [ι n]∧Fr (fun b=>b=I∨b=be) w (σ (σ V I 0 (ι 0)) be 0 (ι n):World).drew:=
   ⟨((O.set 0 (ι 0)).BJ (q:=κ be 0) ay (ι n)).drew,((Z.BJ (q:=κ I 0) (fun e=>ay e.symm) (ι 0)).set 0 (ι n)).drew,
     (((ZA (by rw[z];exact ai)).same (Z4 (q:=κ I 0) (.inl (.inl rfl)))).same (Z4 (q:=κ be 0) (.inl (.inr rfl)))).same Yn⟩
 go_wp2_with fail;simp[bodyPostS,results,results439];exact hP
def s6 (I be w) :
  CallsD prog 439 #[π I,π be] .returning w fun e u' w'=>e= .returned (.tuple #[])∧u'= .returning∧w'=w:=by
 refine ZB func439 rfl fun c₀ cs hu=>?_;apply ZW;apply ZH;simp[wpOpsS,go_sem,recoverD,hu,ntmps439,Exit.thenS];refine xS ?_;go_wp2_with fail;cases c₀
 simp_all [bodyPostS,results,results439]
def tI (F:Nat) (caps D) (R:Except Int Int→ab→World→Prop) (o w) (z:Wf o w) (hD:∀k,D k→k < w.heap.size) (hR:dL (ν w) (η w) R) (hF:Λ F) (aG:Calls prog F caps ((w.alloc (.cells #[ι 0] 434)).alloc θ2) (bH D (.int .i64) R (two o (ν w)) ((w.alloc (.cells #[ι 0] 434)).alloc θ2))) :
  Calls prog 396 #[.func (.func F) #[] caps] w (af D (.int .i64) (ι 0) R o w):=by
 have an:=Yc z (.cells #[ι 0] 434) (.cells #[ι 0] 33);have O:=(Zh w 434 [ι 0]).alloc θ2;have Z:=Zh (w.alloc (.cells #[ι 0] 434)) 33 [ι 0];rw[show (w.alloc (.cells #[ι 0] 434)).heap.size=w.heap.size+1 by simp] at Z;refine xZ ?_;intro e0 e1;go_enter_defers func396,ntmps396;go_wp2_with fail;generalize two o w.heap.size=o2 at *;generalize (w.alloc (.cells #[ι 0] 434)).alloc θ2=G at *;have l0:=O.lt;have l1:=Z.lt;refine aG.mono ?_;rintro e E ⟨o3,ag,r,hr,he⟩;refine yd ?_;intro k3 k4;cases r with
 | error n=>
   subst he
   show bodyPostD _ _ _ _ _ _
   refine leaves_cons (f:=439) (args:=#[ϖ w,π (η w)]) ξ (by simp[go_sem]) ?_;refine (wX (ν w) (η w) n _ _ [] _ k3 k4 ω).mono ?_;rintro e u' M ⟨rfl,rfl,h0,H,Y⟩;refine xU ?_;intro t1 t2;exact⟨.tuple #[ι 0,ι n],by simp[results,results396,go_sem,h0.c 0 rfl,H.c 0 rfl],o3,t1,.error n,hR _ _ _ _ hr t2 Y.size,rfl⟩
 | ok n=>
   subst he;refine yO ?_;intro c3 f3 c4 f4 h0 H Y;go_wp2_with fail
   show bodyPostD _ _ _ _ _ _
   refine leaves_cons (f:=439) (args:=#[ϖ w,π (η w)]) ξ (by simp[go_sem]) ?_;refine (s6 (ν w) (η w) _).mono ?_;rintro e u' M ⟨rfl,rfl,rfl⟩;refine xU ?_;intro t1 t2;exact⟨.tuple #[ι n,ι 0],by simp[results,results396,go_sem,h0.c 0 rfl,H.c 0 rfl],o3,t1,.ok n,hR _ _ _ _ hr t2 Y.size,rfl⟩
def wi (I be n v0 v1) (h:List PanicEntry) (w) (h0:A w I 33 [v0]) (H:A w be 33 [v1]) (ay:I≠be) :
  CallsD prog 459 #[π I,π be] (.panicking ({v:=U n,recovered:=false} :: h)) w fun e u' w'=>
   e= .returned (.tuple #[])∧u'= .panicking ({v:=U n,recovered:=true} :: h)∧A w' I 33 [ι 0]∧A w' be 33 [ι n]∧Fr (fun b=>b=I∨b=be) w w':=by
 have l0:=h0.lt;have l1:=H.lt;refine ZB func459 rfl fun c₀ cs hu=>?_;apply ZW;apply ZH;simp[wpOpsS,go_sem,recoverD,hu,ntmps459,Exit.thenS];refine yc ?_;intro L;go_wp2_with fail;refine yt ?_;intro O Z k2 ai hy hz;generalize w.alloc (.cells #[ι n] 353)=V at *;obtain⟨xb,z⟩:∃xb,w.heap.size=xb:=⟨_,rfl⟩;rw[z] at k2 hy hz ai ⊢;refine yk ?_;intro r0 g0 r1 g1 r2;have hP:A (σ (σ V I 0 (ι 0)) be 0 (ι n):World).drew I 33 [ι 0]∧A (σ (σ V I 0 (ι 0)) be 0 (ι n):World).drew be 33 [ι n]∧Fr (fun b=>b=I∨b=be) w (σ (σ V I 0 (ι 0)) be 0 (ι n):World).drew:=
   ⟨((O.set 0 (ι 0)).BJ (q:=κ be 0) ay (ι n)).drew,((Z.BJ (q:=κ I 0) (fun e=>ay e.symm) (ι 0)).set 0 (ι n)).drew,
     (((ZA (by rw[z];exact ai)).same (Z4 (q:=κ I 0) (.inl (.inl rfl)))).same (Z4 (q:=κ be 0) (.inl (.inr rfl)))).same Yn⟩
 go_wp2_with fail;simp[bodyPostS,results,results459];exact hP
def q9 (I be w) :
  CallsD prog 459 #[π I,π be] .returning w fun e u' w'=>e= .returned (.tuple #[])∧u'= .returning∧w'=w:=by
 refine ZB func459 rfl fun c₀ cs hu=>?_;apply ZW;apply ZH;simp[wpOpsS,go_sem,recoverD,hu,ntmps459,Exit.thenS];refine xS ?_;go_wp2_with fail;cases c₀
 simp_all [bodyPostS,results,results459]
def tC (F:Nat) (caps D) (R:Except Int Int→ab→World→Prop) (o w) (z:Wf o w) (hD:∀k,D k→k < w.heap.size) (hR:dL (ν w) (η w) R) (hF:Λ F) (aG:Calls prog F caps ((w.alloc θ2).alloc θ2) (bH D (.int .i64) R (two o (ν w)) ((w.alloc θ2).alloc θ2))) :
  Calls prog 442 #[.func (.func F) #[] caps] w (af D (.int .i64) (ι 0) R o w):=by
 have an:=Yc z (.cells #[ι 0] 33) (.cells #[ι 0] 33);have O:=(Zh w 33 [ι 0]).alloc θ2;have Z:=Zh (w.alloc θ2) 33 [ι 0];rw[show (w.alloc θ2).heap.size=w.heap.size+1 by simp] at Z;refine xZ ?_;intro e0 e1;go_enter_defers func442,ntmps442;go_wp2_with fail;generalize two o w.heap.size=o2 at *;generalize (w.alloc θ2).alloc θ2=G at *;have l0:=O.lt;have l1:=Z.lt;refine aG.mono ?_;rintro e E ⟨o3,ag,r,hr,he⟩;refine yd ?_;intro k3 k4;cases r with
 | error n=>
   subst he
   show bodyPostD _ _ _ _ _ _
   refine leaves_cons (f:=459) (args:=#[ϖ w,π (η w)]) ξ (by simp[go_sem]) ?_;refine (wi (ν w) (η w) n _ _ [] _ k3 k4 ω).mono ?_;rintro e u' M ⟨rfl,rfl,h0,H,Y⟩;refine xU ?_;intro t1 t2;exact⟨.tuple #[ι 0,ι n],by simp[results,results442,go_sem,h0.c 0 rfl,H.c 0 rfl],o3,t1,.error n,hR _ _ _ _ hr t2 Y.size,rfl⟩
 | ok n=>
   subst he;refine yO ?_;intro c3 f3 c4 f4 h0 H Y;go_wp2_with fail
   show bodyPostD _ _ _ _ _ _
   refine leaves_cons (f:=459) (args:=#[ϖ w,π (η w)]) ξ (by simp[go_sem]) ?_;refine (q9 (ν w) (η w) _).mono ?_;rintro e u' M ⟨rfl,rfl,rfl⟩;refine xU ?_;intro t1 t2;exact⟨.tuple #[ι n,ι 0],by simp[results,results442,go_sem,h0.c 0 rfl,H.c 0 rfl],o3,t1,.ok n,hR _ _ _ _ hr t2 Y.size,rfl⟩
section
def dB (x:Int) (cs:List Value):Prop:=cs=[.int .i64 x]∧ag x
def aK (ok:Nat→Prop) (w:World) (c:f0) (cs:List Value):Prop:=∃(a:Option Addr) (cap:Nat),cs=[.int .i64 c.fn,.slice a c.args.length cap]∧aU (ak ok w) ok w 3 c.args a∧ag c.fn∧c.args.length≤cap∧cap≤maxLen
def bh (ok:Nat→Prop) (w:World) (b:bI) (cs:List Value):Prop:=∃(av aD an:Option Addr) (cv cw cn:Nat),cs=[.int .i64 b.kd,.int .i64 b.n,.int .i64 b.v.kd,.int .i64 b.v.n,.slice av b.v.l.length cv,.slice aD b.wr.length cw,.slice an b.nk.length cn] ∧
 aG ok w b.v (.agg #[.int .i64 b.v.kd,.int .i64 b.v.n,.slice av b.v.l.length cv])∧aU (aK ok w) ok w 2 b.wr aD∧aU dB ok w 1 b.nk an∧ag b.kd∧ag b.n∧b.wr.length≤cw∧cw≤maxLen∧b.nk.length≤cn∧cn≤maxLen
def bx (ok:Nat→Prop) (w:World) (s:cd) (cs:List Value):Prop:=∃(aQ ay av:Option Addr) (cb cc cv:Nat),cs=[.int .i64 s.th,.slice aQ s.bases.length cb,.slice ay s.conds.length cc,.int .i64 s.fl,.bool s.parked,.bool s.done,.int .i64 s.br,.int .i64 s.v.kd,.int .i64 s.v.n,.slice av s.v.l.length cv,.int .i64 s.pa] ∧
 aU (bh ok w) ok w 7 s.bases aQ∧aU dB ok w 1 s.conds ay∧aG ok w s.v (.agg #[.int .i64 s.v.kd,.int .i64 s.v.n,.slice av s.v.l.length cv])∧ag s.th∧ag s.fl∧ag s.br∧ag s.pa∧s.bases.length≤cb∧cb≤maxLen∧s.conds.length≤cc∧cc≤maxLen
section
variable {ok ok':Nat→Prop} {w w':World} {cs:List Value}
def aK.et {c} (h:aK ok w c cs) (hc:∀g,ok g→∀q,w'.cell? (κ g q)=w.cell? (κ g q)) (az:∀g,ok g→ok' g):aK ok' w' c cs:=by
 obtain⟨a,cap,rfl,h2,h3⟩:=h
 exact⟨a,cap,rfl,h2.et hc az fun x cs hx=>by
  obtain⟨v0,v1,v2,e,h⟩:=hx
  exact⟨v0,v1,v2,e,(h.et hc).more az⟩,h3⟩
def bh.et {b} (h:bh ok w b cs) (hc:∀g,ok g→∀q,w'.cell? (κ g q)=w.cell? (κ g q)) (az:∀g,ok g→ok' g):bh ok' w' b cs:=by obtain⟨av,aD,an,cv,cw,cn,rfl,H,h2,h3,h4⟩:=h;exact⟨av,aD,an,cv,cw,cn,rfl,(H.et hc).more az,h2.et hc az fun x cs hx=>hx.et hc az,h3.et hc az fun _ _ hx=>hx,h4⟩
def bx.et {s} (h:bx ok w s cs) (hc:∀g,ok g→∀q,w'.cell? (κ g q)=w.cell? (κ g q)) (az:∀g,ok g→ok' g):bx ok' w' s cs:=by obtain⟨aQ,ay,av,cb,cc,cv,rfl,H,h2,h3,h4⟩:=h;exact⟨aQ,ay,av,cb,cc,cv,rfl,H.et hc az fun x cs hx=>hx.et hc az,h2.et hc az fun _ _ hx=>hx,(h3.et hc).more az,h4⟩
end
structure wL (m:aH):Prop where
 two:∀n∈m.cells,n≤2
 chs:∀x∈m.chs,x.at_ < m.cells.length
 lks:∀x∈m.cos,x.lk < m.cells.length
 fds:∀x∈m.cos,x.fd < m.cells.length
 fls:∀x∈m.sys,0≤x.fl∧x.fl < m.cells.length
 few:m.chs.length+2*m.cos.length+m.sys.length≤m.cells.length
def aA (c:Nat):Value:= .pointer (some ⟨c,0,none⟩)
def wl (W Y:Nat) (cs:List (Nat×Nat×Nat×Nat)) (ds:List (Nat×Nat)):List Nat:=W :: Y :: ((cs.flatMap fun c=>[c.2.2.1,c.2.2.2]) ++ ds.map (·.2))
structure ai (o:ab) (w:World) (W:Nat) (m:aH) (Y:Nat) (aB aF aC:Value) (cs:List (Nat×Nat×Nat×Nat)) (ds:List (Nat×Nat)):Prop where
 blk:A w W 113 [aA Y,aB,aF,aC]
 own:o W=some W
 ar:an o w Y m.most m.cells m.cnt
 rch:aw o w W 116 1 aB m.chs.length (cs.map fun c=>aA c.1)
 lch:cs.length=m.chs.length
 ch:∀(i:Nat) (c:Nat×Nat×Nat×Nat) (x:dN),cs[i]? =some c→m.chs[i]? =some x→aq o w c.1 x c.2.1 c.2.2.1 c.2.2.2
 rco:aw o w W 120 1 aF m.cos.length (ds.map fun c=>aA c.1)
 lco:ds.length=m.cos.length
 co:∀(i:Nat) (d:Nat×Nat) (x:fX),ds[i]? =some d→m.cos[i]? =some x→ey o w d.1 x d.2
 rsy:ax (bx (Fz o w) w) o w W 126 11 aC m.sys
 nd:(wl W Y cs ds).Nodup
 ok:wL m
def aI (o:ab) (w:World) (W:Nat) (m:aH) (L:List Nat):Prop:=∃Y aB aF aC cs ds,ai o w W m Y aB aF aC cs ds∧L=wl W Y cs ds
section
variable {o o':ab} {w w':World} {W Y:Nat} {m:aH} {aB aF aC:Value} {cs:List (Nat×Nat×Nat×Nat)} {ds:List (Nat×Nat)} {K:Nat→Prop} {L:List Nat}
def gu {i:Nat} {c} (h:cs[i]? =some c):c.2.2.1∈wl W Y cs ds∧c.2.2.2∈wl W Y cs ds:=by
 have hm:=Zi h;unfold wl
 constructor <;>
 ·refine Zo _ (Zo _ (Zm _ (Z1.2 ⟨c,hm,?_⟩)))
  simp
def rP {i:Nat} {d} (h:ds[i]? =some d):d.2∈wl W Y cs ds:=
 Zo _ (Zo _ (Zx _ (ZC.2 ⟨d,Zi h,rfl⟩)))
def eD:W∈wl W Y cs ds:=Zr
def gN:Y∈wl W Y cs ds:=Zo _ Zr
def ai.kept (h:ai o w W m Y aB aF aC cs ds) (I:aM K o w o' w') (hs:w.heap.size≤w'.heap.size) (hL:∀k∈wl W Y cs ds,K k):ai o' w' W m Y aB aF aC cs ds:=by
 obtain⟨H,h2⟩:=I.blk h.blk h.own (hL _ eD)
 exact⟨H,h2,h.ar.kept I (hL _ gN),h.rch.kept I (hL _ eD),h.lch,fun i c x hc hx=>(h.ch i c x hc hx).kept I hs (hL _ (gu hc).1) (hL _ (gu hc).2),
  h.rco.kept I (hL _ eD),h.lco,fun i d x hd hx=>(h.co i d x hd hx).kept I hs (hL _ (rP hd)),h.rsy.kept I (hL _ eD) fun _ _ hx=>hx.et (fun _ hg q=>I.cell hg q) (fun _ hg=>(I.fz hs hg).1),h.nd,h.ok⟩
def aI.kept (h:aI o w W m L) (I:aM K o w o' w') (hs:w.heap.size≤w'.heap.size) (hL:∀k∈L,K k):aI o' w' W m L:=by obtain⟨Y,aB,aF,aC,cs,ds,h,rfl⟩:=h;exact⟨Y,aB,aF,aC,cs,ds,h.kept I hs hL,rfl⟩
def aI.below (h:aI o w W m L) (z:Wf o w) (hb:Below (ν w) w w'):aI o w' W m L:=
 h.kept (kB z hb) hb.size fun _ _=>Zk
def zC {p q:Prop} (k:q) (h:Zq q→p:=by
 intro mq;have I:aM (·≠Y) o w o' w':=U.et fun _ h=>h;have Z:=h.nd;unfold wl at Z;rw[List.nodup_cons,List.nodup_cons] at Z;have a1:W≠Y:=fun e=>Z.1 (by rw[e];exact Zr);have aZ:∀k,k∈((cs.flatMap fun c=>[c.2.2.1,c.2.2.2]) ++ ds.map (·.2))→k≠Y:=fun k hk e=>Z.2.1 (by rw[←e];exact hk);obtain⟨H,h4⟩:=I.blk h.blk h.own a1;have hs:=U.size;revert I Z a1 aZ H h4 hs
 exact mq.u):p:=h ⟨k⟩
def ai.access (h:ai o w W m Y aB aF aC cs ds) {cells cnt} (U:J (·=Y) o w o' w') (hA:an o' w' Y m.most cells cnt) (hl:cells.length=m.cells.length) (h2:∀n∈cells,n≤2):ai o' w' W {m with cells:=cells,cnt:=cnt} Y aB aF aC cs ds:=by
 refine zC ?_;intro I Z a1 aZ H h4 hs
 refine⟨H,h4,hA,h.rch.kept I a1,h.lch,fun i c x hc hx=>(h.ch i c x hc hx).kept I hs (aZ _ (Zm _ (Z1.2 ⟨c,Zi hc,by simp⟩))) (aZ _ (Zm _ (Z1.2 ⟨c,Zi hc,by simp⟩))),
   h.rco.kept I a1,h.lco,fun i d x hd hx=>(h.co i d x hd hx).kept I hs (aZ _ (Zx _ (ZC.2 ⟨d,Zi hd,rfl⟩))),h.rsy.kept I a1 fun _ _ hx=>hx.et (fun _ hg q=>I.cell hg q) (fun _ hg=>(I.fz hs hg).1),h.nd,?_⟩
 obtain⟨o1,o2,o3,o4,o5,o6⟩:=h.ok;exact⟨h2,fun x hx=>by rw[hl];exact o2 x hx,fun x hx=>by rw[hl];exact o3 x hx,fun x hx=>by rw[hl];exact o4 x hx,fun x hx=>by rw[hl];exact o5 x hx,by rw[hl];exact o6⟩
end
end
def d3 (W Y v1 v2 v3 w) (h:A w W 113 [aA Y,v1,v2,v3]):Calls prog 49 #[π W] w (μ (.bool false) w):=by unfold aA at h;have c0:=h.c 0 rfl;go_enter func49,ntmps49;go_wp2_with fail;go_ret;exact⟨rfl,rfl⟩
def yP {p:Prop} (h:p:=by
 go_wp2_with first
  | (go_at_call 49;refine γ hN ?_)
  | (go_at_call 172;refine γ z ?_;clear z)
 refine γ ao ?_;clear ao hR hN;go_wp2_with (go_at_call 172;refine γ E ?_);go_ret
 exact⟨rfl,rfl⟩):p:=h
def pN (W Y F:Nat) (caps a n cap g i v1 v2 v3 w) (h:A w W 113 [aA Y,v1,v2,v3]) (hF:Λ F) (ao:Calls prog F caps w (μ (.slice a n cap) w)) (ha:a=some ⟨g,0,none⟩) (hi:i < n) :
  Calls prog 432 #[π W,ι (i:Nat),.func (.func F) #[] caps] w (μ (.pointer (some ⟨g,i,none⟩)) w):=by subst ha;have hN:=d3 W Y v1 v2 v3 w h;have hR:=cK;have z:=hR 1 w;have E:=hR 4 w;go_enter func432,ntmps432;exact yP
def sY (W Y F:Nat) (caps a n cap g i v1 v2 v3 w) (h:A w W 113 [aA Y,v1,v2,v3]) (hF:Λ F) (ao:Calls prog F caps w (μ (.slice a n cap) w)) (ha:a=some ⟨g,0,none⟩) (hi:i < n) :
  Calls prog 444 #[π W,ι (i:Nat),.func (.func F) #[] caps] w (μ (.pointer (some ⟨g,i,none⟩)) w):=by subst ha;have hN:=d3 W Y v1 v2 v3 w h;have hR:=cK;have z:=hR 1 w;have E:=hR 4 w;go_enter func444,ntmps444;exact yP
def lg (W Y F:Nat) (caps a n cap g i v1 v2 v3 w) (h:A w W 113 [aA Y,v1,v2,v3]) (hF:Λ F) (ao:Calls prog F caps w (μ (.slice a n cap) w)) (ha:a=some ⟨g,0,none⟩) (hi:i < n) :
  Calls prog 199 #[π W,ι (i:Nat),.func (.func F) #[] caps] w (μ (.pointer (some ⟨g,i*11,none⟩)) w):=by subst ha;have hN:=d3 W Y v1 v2 v3 w h;have hR:=cK;have z:=hR 1 w;have E:=hR 4 w;go_enter func199,ntmps199;exact yP
end Go.Proofs.YtmchabopafimeaaGreatDoor
