import Derived.Test.YtmchabopafimeaaGreatDoorQax
import Derived.Shelf.RegionOpen
namespace Go.Proofs.YtmchabopafimeaaGreatDoor
set_option maxRecDepth 100000
set_option maxHeartbeats 16000000
set_option linter.all false
open Tryz
section
open Go.RowKit Go.Sort
section
variable {o:ab} {w w1 G:World} {T c g b f:Nat} {m:bW} {wa va:Option Addr} {wc vc:Nat} {ll:List Nat}
def dv.blk {x} (h:dv o w f x):∃st v1 v2,A w f 280 [ι st,v1,v2,ζ]∧(st=1∨st=4):=by
 cases x with
 | new v=>obtain⟨g,a,cc,H,-⟩:=h;exact⟨_,_,_,H,.inl rfl⟩
 | over b=>obtain⟨-,-,r,cc,H,-⟩:=h;exact⟨_,_,_,H,.inr rfl⟩
def sT (O:bU o w b m f none wa va wc vc ll) (wv tv) :
  Calls prog 110 #[π T,π b,wv,tv] w (gW false w):=by
 obtain⟨w1,aP,-,b1,Z⟩:=al1 w 213 [π b];have km:=(b1.block b O.blk.lt).trans O.blk;obtain⟨st,v1,v2,hfo,aE⟩:=O.fo.blk;have I:=(b1.block f hfo.lt).trans hfo;have aF:=iS (w:=w1) I ω;have h:=qv (w:=w1) I ω ω;have hq:(st != 5)=true:=by rcases aE with rfl | rfl <;> rfl
 have c0:=Z.c 0 rfl;obtain⟨d0,d1,-⟩:=kc1 km;have HB:=χ b1;clear O hfo aE Z km I b1;go_enter func110,ntmps110;go_wp2_with first
  | (go_at_call 105;refine γ aF ?_)
  | (go_at_call 129;refine γ (c8 w1) ?_)
  | (go_at_call 151;refine δ h ?_;intro G aa)
 go_ret;have e1:=HB.out.trans (aa.mono HB.out.size);exact⟨rfl,e1.trans ((am G _).mono e1.size)⟩
def rr {S s} (z:Wf o w) (O:bU o w b m f (some S) wa va wc vc ll) (hs:m.sy=some s) (ha:m.after=false) (h6:s.at_≠6) (h0:s.at_≠0) (wv tv) :
  Calls prog 110 #[π T,π b,wv,tv] w (gW false w):=by
 obtain⟨w1,aP,-,b1,Z⟩:=al1 w 213 [π b];have km:=(b1.block b O.blk.lt).trans O.blk;have hsy:=O.sy;rw[hs] at hsy;obtain⟨_,_,_,_,_,_,_,_,ak,-⟩:=YA hsy (kB z b1) b1.size fun _ _=>Zk;have ah:=hw ak h0;have hq:(s.at_ != 6)=true:=by simp[h6]
 have c0:=Z.c 0 rfl;obtain⟨-,d1,-,-,-,-,d6,-⟩:=kc6 km;rw[ha] at d6;have HB:=χ b1;clear O hsy ak Z km b1 hs ha h6 h0 z;go_enter func110,ntmps110;go_wp2_with fail;go_step3;go_wp2_with (go_at_call 112;refine γ ah ?_);go_ret;exact⟨rfl,HB.out⟩
end
end
section
open Go.RowKit Go.Sort
section
variable {o o':ab} {w w' w1 G:World} {T c g bx:Nat} {t:aS} {F F':ba} {p:List Fn} {m:bW} {l:List a0}
def vT {s x ys pa va bi wa pc vc wc bf f S ll} (z:Wf o w) (hA:ay o w T c t (ys ++ [x]) pa va pc vc) (O:bU o w x.b m f (some S) wa bi wc bf ll) (aT:x.ls=x.b :: f :: ll) (hl:bG o w bx l) (aj:bx∉aB T (ys ++ [x])) (hc:bz o w c p) (hs:m.sy=some s) (h0:s.at_≠0) (ha:m.after=true) (hsm:small m.v=true) (hF:b7 {t with parts:=ys.map PX.m}=some F) (hR:f9 p F m.v=some F') (ak:l.length≤1000000) (wv) :
  Calls prog 110 #[π T,π x.b,wv,.func (.func 106) #[] #[π bx]] w (cx T c bx (bB {t with parts:=ys.map PX.m} (.act F')) (l ++ [{cO t 7 with sy:=s.own,v:=m.v}]) true (aB T (ys ++ [x])) o w):=by
 obtain⟨w1,aP,-,b1,Z⟩:=al1 w 213 [π x.b];have km:=(b1.block x.b O.blk.lt).trans O.blk;have ae:=z.below b1;have Y:=(tB z b1).kp;have b':=hA.kept Y b1.size fun _ _=>Zk;have hsy:=O.sy;rw[hs] at hsy;have bR:a8 o w1 S s ll:=YA hsy Y b1.size fun _ _=>Zk;have bX:=k' ae b';have bl:T∈aB T (ys ++ [x]):=by simp[aB]
 have a6:x.b∈aB T (ys ++ [x]):=bC.2 (.inr ⟨x,by simp,by rw[aT];simp⟩);have bY:∀k∈ll,k∈aB T (ys ++ [x]):=fun k hk=>bC.2 (.inr ⟨x,by simp,by rw[aT];simp[hk]⟩);have bo:=hA.nt x ξ;have be:T≠x.b:=fun e=>bo (by rw[aT,e];simp);have b2:∀k∈ll,k≠T:=fun k hk e=>bo (by rw[aT,←e];simp[hk]);have bZ:T≠bx:=fun e=>aj (e ▸ bl);have az:T≠w.heap.size:=by have:=hA.blk.lt;omega
 have aa:o w.heap.size=none:=z.ge (Zc _);have aC:o x.b=some x.b:=O.own;have H:aG (Fz o w1) w1 m.v (.agg (υ m.v bi bf)):=O.val.kept Y b1.size;have c0:=Z.c 0 rfl;obtain⟨-,d1,d2,-,-,-,d6,-⟩:=kc6 km;rw[ha] at d6;have aX:=χ (Zf Z (Zf km (Zf ae (Zf bR (Zf aa (Zf aC (Zf H b1)))))));have HW:=χ (Zf z (Zf hl (Zf aj (Zf hc (Zf hF (Zf hR (Zf h0 hsm)))))));have af:∀k∈aB T ys,k∈aB T (ys ++ [x]):=fun k hk=>by
  rcases bC.1 hk with e | ⟨y,hy,e⟩
  ·exact bC.2 (.inl e)
  ·exact bC.2 (.inr ⟨y,Zm _ hy,e⟩)
 have a3:x.b∉aB T ys:=fun e=>by
  rcases bC.1 e with e | ⟨y,hy,e⟩
  ·exact be e.symm
  ·exact (ZK.1 hA.dis).2.2 y hy x ξ x.b e (by rw[aT];simp)
 have HN:=χ (Zf bl (Zf a6 (Zf bY (Zf be (Zf b2 (Zf bZ (Zf az (Zf af a3))))))));clear b' O aT hl aj hc hs h0 ha hsm hF hR hsy bR bo hA Z km ae Y bl a6 bY be b2 bZ az af a3 aa aC H b1 z;generalize x.b=b at *;go_enter func110,ntmps110;go_upto_region 2 with (go_at_call 147;refine bX.mono ?_;rintro e G ⟨rfl,aq,cC,cA,U⟩);clear c0 d1 d2 d6 bX aP;obtain⟨Z,km,ae,bR,aa,aC,H,b1⟩:=aX.out;have ap:=ae.BD aq;have bg:=aq.et (K:=(·≠T)) fun _ h=>h;obtain⟨k2,-⟩:=bg.BF Z aa;obtain⟨cq,cb⟩:=bg.blk km aC (fun e=>HN.out.2.2.2.1 e.symm);have aY:=bR.kept bg aq.size HN.out.2.2.2.2.1;have a5:=H.kept bg aq.size;have ad:Calls prog 108 #[π T,ι 7] G (ϑ (.agg #[ι 7,ι 0,ι t.num,ι 0,ι 0,ι 0,ι 0,ι 0,ι 0,ζ]) G):=jg U 7;have H2:=χ (Zf ap (Zf U (Zf aY (Zf a5 aq))));have aL:=χ (Zf k2 cq);clear Z km ae bR aa aC H b1 bg cb aY a5 U ap aq k2 cq;go_upto_region 3 with (go_at_call 108;refine δ ad ?_;intro E ac);obtain⟨ap,U,aY,a5,aq⟩:=H2.out;have bc:=am E (.cells #[ι 7,ι 0,ι t.num,ι 0,ι 0,ι 0,ι 0,ι 0,ι 0,ζ] 88);have ah:=ac.trans (bc.mono ac.size);have k4:=Zh E 88 [ι 7,ι 0,ι t.num,ι 0,ι 0,ι 0,ι 0,ι 0,ι 0,ζ]
 have aA:=χ (fun w' (hb:Below (ν E) E w')=>(show w'.cell? (κ (ν w) 0)=π b∧w'.cell? (κ b 1)=π S∧w'.cell? (κ b 3)=ι m.v.kd∧w'.cell? (κ b 4)=ι m.v.n∧w'.cell? (κ b 5)=some (.slice bi m.v.l.length bf) from by
   have e1:=(hb.block (ν w) (Za (ZE (w:=G) aL.out.1) ac.size)).trans ((ac.block (ν w) (ZE (w:=G) aL.out.1)).trans aL.out.1);have e2:=(hb.block b (Za (ZE (w:=G) aL.out.2) ac.size)).trans ((ac.block b (ZE (w:=G) aL.out.2)).trans aL.out.2)
   exact⟨Zz (w:=w') e1 0 rfl,Zz (w:=w') e2 1 rfl,Zz (w:=w') e2 3 rfl,Zz (w:=w') e2 4 rfl,Zz (w:=w') e2 5 rfl⟩))
 have b9:=χ (fun w' (hb:Below (ν G) G w')=>(show Calls prog 114 #[π S] w' fun e bb=>e= .returned (ι s.own)∧w'=bb from by
   obtain⟨_,_,_,_,_,_,_,_,bD,-⟩:=aY.kept (kB ap hb) hb.size fun _ _=>Zk
   exact j7 bD HW.out.2.2.2.2.2.2.1))
 have bu:=χ (fun w' (hb:Below (ν G) G w')=>ce m.v _ w' HW.out.2.2.2.2.2.2.2 ((a5.kept (kB ap hb) hb.size).lt));generalize E.alloc (.cells #[ι 7,ι 0,ι t.num,ι 0,ι 0,ι 0,ι 0,ι 0,ι 0,ζ] 88)=M at *;have cy:E.heap.size≤M.heap.size:=bc.size;have bq:=χ (Zf k4 (Zf ac (Zf bc ah)));clear ap U aY a5 aq ad k4 ac ah;refine bj [(0,true),(1,true),(2,true),(3,true),(5,true),(6,true),(7,true),(8,true),(4,false),(10,true),(9,false),(11,false),(12,true),(13,false)] (fun w'=>w'.cell? (κ (ν w) 0)=π b∧w'.cell? (κ b 1)=π S∧w'.cell? (κ b 3)=ι m.v.kd∧w'.cell? (κ b 4)=ι m.v.n∧w'.cell? (κ b 5)=some (.slice bi m.v.l.length bf)) ψ ψ (aA.out _ (bc.trans ((Zj _ _).drew.mono cy))) ?_;have b3:Below (ν M) M M.drew:=(Zj _ _).drew;generalize M.drew=V at *;obtain⟨k4,ac,-,ah⟩:=bq.out;have ai:=ah.trans (b3.mono ah.size);have b5:=bc.trans (b3.mono bc.size);have k5:=(b3.block (ν E) k4.lt).trans k4;clear k4 ac ah;iterate 8 (refine wpC_t ?_;refine pe ?_)
 refine xP ?_;intro K I;go_at_call 114;refine γ (b9.out V ai) ?_;refine I _ _ _ Φ (fun _=>aA.out _ b5) ?_;clear I K;refine pe ?_;refine wpC_t ?_;refine pe ?_;refine xP ?_;intro K I;go_at_call 40;refine (bu.out V ai).mono ?_;rintro e w6 ⟨v',rfl,aw,bO⟩;obtain⟨a9,c9,rfl,-,-⟩:=id bO.three;have k6:=(aw.block (ν E) (ZE (w:=V) k5)).trans k5;have b0:=b5.trans (aw.mono b5.size);refine I _ _ _ Φ (fun _=>aA.out _ b0) ?_;clear I K;refine pe ?_;obtain⟨-,-,-,-,-,-,z3,y3,-⟩:=kb3 k6;refine xP ?_;intro K I;refine I _ _ _ Φ (fun _=>aA.out _ (b0.setCell (p:=κ (ν E) 3) (Zc _) _)) ?_;clear I K z3 y3;refine pe ?_;refine wpC_t ?_;refine pe ?_;have k7:=Yi (w:=w6) k6 3 (ι s.own);obtain⟨-,-,-,-,-,-,-,-,-,-,-,-,-,-,z7,y7,z8,y8,z9,y9,-⟩:=kb9 k7;refine ya ?_;intro K I;clear I K z7 z8 z9 y7 y8 y9;refine pe ?_;refine bn ?_;refine pe ?_;have aD:A (σ (σ (σ (σ w6 (ν E) 3 (ι s.own)) (ν E) 7 (ι m.v.kd)) (ν E) 8 (ι m.v.n)) (ν E) 9 (.slice a9 m.v.l.length c9)) (ν E) 88 [ι 7,ι 0,ι t.num,ι s.own,ι 0,ι 0,ι 0,ι m.v.kd,ι m.v.n,.slice a9 m.v.l.length c9]:=((k7.set 7 _).set 8 _).set 9 _;have b8:Below (ν E) E (σ (σ (σ (σ w6 (ν E) 3 (ι s.own)) (ν E) 7 (ι m.v.kd)) (ν E) 8 (ι m.v.n)) (ν E) 9 (.slice a9 m.v.l.length c9)):=(((b0.setCell (p:=κ (ν E) 3) (Zc _) _).setCell (p:=κ (ν E) 7) (Zc _) _).setCell (p:=κ (ν E) 8) (Zc _) _).setCell (p:=κ (ν E) 9) (Zc _) _
 have aJ:∀q,q≠E.heap.size→∀i,(σ (σ (σ (σ w6 (ν E) 3 (ι s.own)) (ν E) 7 (ι m.v.kd)) (ν E) 8 (ι m.v.n)) (ν E) 9 (.slice a9 m.v.l.length c9):World).cell? (κ q i)=w6.cell? (κ q i):=fun q hq i=>Zd (by rw[Below.heap_setCell _ _ _ _ hq,Below.heap_setCell _ _ _ _ hq,Below.heap_setCell _ _ _ _ hq,Below.heap_setCell _ _ _ _ hq]);have cr:w6.heap.size≤(σ (σ (σ (σ w6 (ν E) 3 (ι s.own)) (ν E) 7 (ι m.v.kd)) (ν E) 8 (ι m.v.n)) (ν E) 9 (.slice a9 m.v.l.length c9):World).heap.size:=by simp
 have ct:=ZE (w:=V) k5;have bQ:aG (Nw (ν V) (σ (σ (σ (σ w6 (ν E) 3 (ι s.own)) (ν E) 7 (ι m.v.kd)) (ν E) 8 (ι m.v.n)) (ν E) 9 (.slice a9 m.v.l.length c9))) (σ (σ (σ (σ w6 (ν E) 3 (ι s.own)) (ν E) 7 (ι m.v.kd)) (ν E) 8 (ι m.v.n)) (ν E) 9 (.slice a9 m.v.l.length c9)) m.v (.agg (υ m.v a9 c9)):=(bO.et fun q hq i=>aJ q (by have:=hq.1;omega) i).more fun q hq=>⟨hq.1,Za hq.2 cr⟩;have cd:E.heap.size≤V.heap.size:=Yx ct;clear k7 k6 k5 aw bO aJ cr b0 b5 ai b3 bc ct;generalize (σ (σ (σ (σ w6 (ν E) 3 (ι s.own)) (ν E) 7 (ι m.v.kd)) (ν E) 8 (ι m.v.n)) (ν E) 9 (.slice a9 m.v.l.length c9):World)=aZ at *;obtain⟨z0,z1,z2,z3,z4,z5,z6,z7,z8,z9,-⟩:=kc9 aD;obtain⟨aO,bN⟩:∃u,aZ.alloc (.cells #[ι 7,ι 0,ι t.num,ι s.own,ι 0,ι 0,ι 0,ι m.v.kd,ι m.v.n,.slice a9 m.v.l.length c9] 88)=u:=⟨_,rfl⟩;have aI:Below (ν aZ) aZ aO:=by rw[←bN];exact am aZ _
 have bT:=b8.trans (aI.mono b8.size);have aQ:A aO (ν aZ) 88 [ι 7,ι 0,ι t.num,ι s.own,ι 0,ι 0,ι 0,ι m.v.kd,ι m.v.n,.slice a9 m.v.l.length c9]:=by rw[←bN];exact Zh aZ 88 [ι 7,ι 0,ι t.num,ι s.own,ι 0,ι 0,ι 0,ι m.v.kd,ι m.v.n,.slice a9 m.v.l.length c9]
 obtain⟨-,ac,-,-⟩:=bq.out;have ao:Below (ν G) G aO:=ac.trans (bT.mono ac.size);obtain⟨ap,U,aY,a5,aq⟩:=H2.out;have ci:aM (fun _=>True) o G o aO:=(tB ap ao).et fun _ _=>id;have cw:=ac.size;have bS:aG (Fz o aO) aO m.v (.agg (υ m.v a9 c9)):=(bQ.et fun q hq i=>aI.cell (p:=κ q i) hq.2).more fun q hq=>⟨ap.ge (by have:=hq.1;omega),Za hq.2 aI.size⟩;obtain⟨Z,km,ae,-,aa,-,-,b1⟩:=aX.out;have aK:J (·=T) o w o G:=(Zb HW.out.1 b1).same HW.out.1 aq;have bI:bG o G bx l:=HW.out.2.1.kept (aK.et (K:=(·≠T)) fun _ h=>h) aK.size fun e=>HN.out.2.2.2.2.2.1 e.symm;have bA:=ap.below ao;have bF:=bI.kept ci ao.size trivial;have bM:Calls prog 106 #[.slice (Γ (ν aZ)) 1 1,π bx] aO (hP bx (l ++ [{cO t 7 with sy:=s.own,v:=m.v}]) o aO):=iN bA bF (cB.one aQ bS) ak ξ;have HF:=χ (Zf aK (Zf ao (Zf ap (Zf bA bT))));clear aI ao aQ ap ci bS aK bI bA bF bQ aD b8 bT U aY a5 aq Z km ae aa b1 ac cw cd;go_upto_region 5 with (refine bM.mono ?_;rintro e a' ⟨rfl,bp,bt,bL⟩);clear bN z0 z1 z2 z3 z4 z5 z6 z7 z8 z9;obtain⟨aK,ao,ap,bA,bT⟩:=HF.out;obtain⟨bl,a6,bY,be,b2,bZ,az,af,a3⟩:=HN.out;have aj:=HW.out.2.2.1;have tb:J Θ o G o aO:=Zb ap ao;have cj:=bA.BD bt;replace bt:=bt.BR bA;replace bL:=bL.kept (f4 cj) (Zc _) trivial;obtain⟨wd,aV⟩:∃u,a'.drew=u:=⟨_,rfl⟩;rw[aV] at bt bL;have aE:=bA.BD bt;have cf:=bt.et (K:=(·≠bx)) fun _ h=>h;have b6:∀k∈aB T ys,k≠bx:=fun k hk e=>aj (e ▸ af k hk);have cn:=(H2.out.2.1.kept (tb.kp) tb.size fun _ _=>Zk).kept cf bt.size b6
 have bP:a7 bp wd T c {t with parts:=ys.map PX.m} (aB T ys):=⟨ys,_,_,_,_,cn,rfl⟩;have b4:J (fun k=>k=T∨k=bx) o w bp wd:=((aK.more' fun k e=>.inl e).same HW.out.1 (tb.more' fun _ e=>e.elim)).same HW.out.1 (bt.more' fun _ e=>.inr e);have a4:=HW.out.2.2.2.1.kept (b4.et (K:=fun k=>k≠T∧k≠bx) fun k h e=>e.elim h.1 h.2) b4.size;obtain⟨g,ax,r2,r3,cm⟩:=bP.resume aE a4 HW.out.2.2.2.2.1 HW.out.2.2.2.2.2.1;have aR:g≠b:=fun e=>a3 (e ▸ cm);obtain⟨Z,km,ae,-,aa,aC,H,b1⟩:=aX.out;have ca:J (fun k=>k=T∨k=bx) o w1 bp wd:=((H2.out.2.2.2.2.more' fun k e=>.inl e).same ae (tb.more' fun _ e=>e.elim)).same ae (bt.more' fun _ e=>.inr e);have bV:=ca.et (K:=fun k=>k≠T∧k≠bx) fun k h e=>e.elim h.1 h.2;obtain⟨kx,bK⟩:=bV.BF Z aa;obtain⟨kb,aU⟩:=bV.blk km aC ⟨fun e=>be e.symm,fun e=>aj (e ▸ a6)⟩;have ck:=H.kept bV ca.size
 have bv:=χ (fun o' w' (I:aM (fun k=>k≠g) bp wd o' w')=>(show w'.cell? (κ (ν w) 0)=π b∧w'.cell? (κ b 1)=π S∧w'.cell? (κ b 3)=ι m.v.kd∧w'.cell? (κ b 4)=ι m.v.n∧w'.cell? (κ b 5)=some (.slice bi m.v.l.length bf) from by
   obtain⟨e1,-⟩:=I.BF kx bK;obtain⟨e2,-⟩:=I.blk kb aU aR.symm
   exact⟨Zz (w:=w') e1 0 rfl,Zz (w:=w') e2 1 rfl,Zz (w:=w') e2 3 rfl,Zz (w:=w') e2 4 rfl,Zz (w:=w') e2 5 rfl⟩))
 have bE:=χ (fun w' (hb:Below (ν wd) wd w')=>(tB aE hb).et (K:=fun k=>k≠g) fun _ _=>id);have cg:=χ (fun an aW bh (hb:Below (ν wd) wd an) (ht:J (·=g) bp an bh aW)=>(((Zb (D:=(·=g)) aE hb).same aE ht).et (K:=fun k=>k≠g) fun _ h=>h));have aF:=χ (fun w' (hb:Below (ν wd) wd w')=>r2 w' hb bi bf ((ck.kept (kB aE hb) hb.size).lt))
 have bd:=χ (show ∀(an aW:World) (bh:ab),Below (ν wd) wd an→J (·=g) bp an bh aW→a1 bh aW g c F'→cx T c bx (bB {t with parts:=ys.map PX.m} (.act F')) (l ++ [{cO t 7 with sy:=s.own,v:=m.v}]) true (aB T (ys ++ [x])) o w (.returned (.bool true)) aW from fun an aW bh hb ht hf=>by
   obtain⟨u1,u2⟩:=r3 an bh aW hb ht hf;have cu:=bL.kept (u1.et (K:=(·∉aB T ys)) fun _ h=>h) u1.size fun e=>b6 _ e rfl
   exact⟨rfl,bh,aB T ys,(b4.more' fun k e=>e.imp (fun e=>by rw[e];exact bl) id).same HW.out.1 (u1.more' fun k e=>.inl (af k e)),u2,cu,fun k hk=>.inl (af k hk)⟩)
 clear aK ao ap bA bT bl a6 bY be b2 bZ az af a3 aj tb cf b6 cn bP b4 a4 r2 r3 cm aR Z km ae aa aC H b1 ca bV kx bK kb aU ck bt bL bM aE cj;refine bj [(0,true),(2,true),(3,true),(4,true),(5,true),(1,false),(6,false),(7,true),(8,false)] (fun w'=>w'.cell? (κ (ν w) 0)=π b∧w'.cell? (κ b 1)=π S∧w'.cell? (κ b 3)=ι m.v.kd∧w'.cell? (κ b 4)=ι m.v.n∧w'.cell? (κ b 5)=some (.slice bi m.v.l.length bf)) ψ ψ (by rw[aV];exact bv.out bp wd (bE.out wd (Zj _ _))) ?_;rw[aV];clear aV;iterate 5 (refine wpC_t ?_;refine pe ?_)
 refine xP ?_;intro K I;go_at_call 94;refine δ ax ?_;intro bw ag;refine I _ _ _ Φ (fun _=>bv.out bp bw (bE.out bw ag)) ?_;clear I K;refine pe ?_;refine xP ?_;intro K I;go_at_call 133;refine (aF.out bw ag).mono ?_;rintro e aW ⟨rfl,bh,bJ,cz⟩;refine I _ _ _ Φ (fun _=>bv.out bh aW (cg.out bw aW bh ag bJ)) ?_;clear I K;refine pe ?_;refine wpC_t ?_;refine pe ?_;refine xP ?_;intro K I;go_at_call 129;refine γ (c8 aW) ?_;refine I _ _ _ Φ (fun _=>bv.out bh aW (cg.out bw aW bh ag bJ)) ?_;clear I K;refine pe ?_;refine bn ?_;refine pe ?_;go_wp2_with fail;go_ret;exact bd.out bw aW bh ag bJ cz
end
end
section
open Go.RowKit Go.Shelf
attribute [local go_sem] Oper.semAt_some
abbrev BV:=Nat×List Value
def ku (x:BV):Array Value:=#[.int .i64 (x.1:Int),.agg x.2.toArray]
def og (b:bI) (ag:List BV) (x:BV) (W:World):Prop:=ag=[]∧x.1=0∧bh (· < W.heap.size) W b x.2
def ow (xs:List BV):Prop:=xs.length=1
def ny (m):Fence.wide.depth.isSome=true→1≤m:=fun h=>by simp[Fence.wide] at h
def mV {W W'} (h:Below W.heap.size W W'):W.grownBy W' none:=⟨h.os,h.tape,h.output,h.size,fun k hk _=>h.block k hk⟩
def wR (m b) (aF:c7 b) (g a c w) (hg:A w g 124 [.slice a 1 c]) (hS:aU (bh (ο w) w) (ο w) w 7 [b] a) :
  ju prog m 197 #[π g] ku (og b) ow (fun _=>True) (fun W=>Below (ν w) w W) w:=by
 intro y af Jx W hW hJ M I hY h0;obtain⟨z,U,cs,rfl,Y,-,be,av,aD,an,cv,cw,cn,rfl,aB⟩:=hS 0 b rfl;have aq:=(hW.cell (p:=κ g 0) hg.lt).trans (hg.c 0 rfl)
 have HC:=χ (fun wx (hb:Below (ν w) w wx)=>(show wx.cell? (κ z U)=ι b.kd∧wx.cell? (κ z (U+1))=ι b.n∧wx.cell? (κ z (U+2))=ι b.v.kd∧wx.cell? (κ z (U+3))=ι b.v.n∧wx.cell? (κ z (U+4))=some (.slice av b.v.l.length cv)∧wx.cell? (κ z (U+5))=some (.slice aD b.wr.length cw)∧wx.cell? (κ z (U+6))=some (.slice an b.nk.length cn) from
   ⟨(hb.cell (p:=κ z U) Y).trans (by simpa using be 0 ω),(hb.cell (p:=κ z (U+1)) Y).trans (by simpa using be 1 ω),(hb.cell (p:=κ z (U+2)) Y).trans (by simpa using be 2 ω),(hb.cell (p:=κ z (U+3)) Y).trans (by simpa using be 3 ω),(hb.cell (p:=κ z (U+4)) Y).trans (by simpa using be 4 ω),(hb.cell (p:=κ z (U+5)) Y).trans (by simpa using be 5 ω),(hb.cell (p:=κ z (U+6)) Y).trans (by simpa using be 6 ω)⟩))
 have aR:=χ (fun wx (hb:Below (ν w) w wx)=>(show bh (ο wx) wx b [ι b.kd,ι b.n,ι b.v.kd,ι b.v.n,.slice av b.v.l.length cv,.slice aD b.wr.length cw,.slice an b.nk.length cn] from
   eE _ _ _ _ _ _ ⟨av,aD,an,cv,cw,cn,rfl,aB⟩ (fun q hq i=>hb.cell (p:=κ q i) hq) fun q hq=>Za hq hb.size))
 have bF:=χ aF;have HJ:=χ hJ;have L:=χ I;have Z:=χ hY;clear hJ M I hY hS be aB hg aF Y;refine callsIn_of_wp func197 rfl trivial ?_ rfl;simp only[ntmps197,List.size_toArray,List.length_cons,List.length_nil,Nat.reduceAdd,Nat.reduceSub,Array.replicate_succ,Array.replicate_zero,List.push_toArray,List.append_toArray,List.nil_append,List.cons_append];gi_wp2;gi_loopw [3,4,7] (fun _ _ i wr=>∃ag:List BV,(i= .int .i64 0∧ag=[]∨i= .int .i64 1∧ag.length=1)∧af ag wr) (fun _ _ i _=>2 - (intOf i).toNat)
 case atStart=>exact⟨[],.inl ⟨rfl,rfl⟩,h0⟩
 case round=>
  clear h0 aq hW;obtain⟨ag,h,hj⟩:=hrel;rcases h with ⟨rfl,rfl⟩ | ⟨rfl,aI⟩
  ·have ao:=L.out [] wr hj
   obtain⟨e0,e1,e2,e3,e4,e5,e6⟩:=HC.out wr ao;have aa:=am wr (.cells #[ι b.kd,ι b.n,ι b.v.kd,ι b.v.n,.slice av b.v.l.length cv,.slice aD b.wr.length cw,.slice an b.nk.length cn] 194);have az:=lf b _ _ (aR.out _ (ao.trans (aa.mono ao.size))) bF.out;clear ao;gi_wp2;refine⟨trivial,ny _,(callsIn_wide.2 az).mono ?_⟩;rintro e E ⟨ba,rfl,ac,H⟩;have ap:=aa.trans (ac.mono aa.size);have J:=HJ.out [] _ _ hj (mV ap);have hG:og b [] (0,ba) E:=⟨rfl,rfl,eE _ _ _ _ _ _ H (fun _ _ _=>rfl) fun q hq=>hq.2⟩;obtain⟨fn,tmps,assign,body,hy,hR⟩:=Z.out [] (0,ba) E J hG;dsimp only[ku] at hy;rw[show ((0:Nat):Int)=0 from rfl] at hy;clear e0 e1 e2 e3 e4 e5 e6 az hG H aa ac ap hj;gi_wp2;refine⟨ny _,hR.mono ?_⟩;rintro e V (⟨rfl,G⟩ | ⟨rfl,G⟩)
   ·gi_wp2
    go_roundw
    case rel=>exact⟨[] ++ [(0,ba)],.inr ⟨by go_num,rfl⟩,G⟩
    case measure=>decide
   ·gi_wp2
    refine Zl (Yw rfl _ _ _) rfl ?_;exact⟨⟨_,rfl⟩,.inr ⟨_,trivial,G⟩⟩
  ·have O:=χ aI
   clear aI;gi_wp2;go_end0;exact⟨⟨_,rfl⟩,.inl ⟨ag,O.out,hj⟩⟩
end
section
open Go.RowKit Go.Shelf
attribute [local go_sem] Oper.semAt_some
section
variable {o o' o2:ab} {w w1 G:World} {W T c g bx:Nat} {t t1:aS} {wm wm' wm1:aH} {L:List Nat} {m:bW} {l:List a0}
def tD {P} {c:Code} {Q a w} (h:c.wp P (Exit.then (Q .normal) (fun _ _ _=>False)) a w):c.wp P Q a w:=
  Code.wp_mono (fun e a w h=>by cases e <;> first | exact h | exact h.elim) h
def ds {B W W' row} (h:W.grownBy W' row) (hB:B≤W.heap.size) (hr:∀g,row=some g→B≤g):Below B W W':=⟨h.os,h.tape,h.output,h.size,fun k hk=>h.block k ω fun e=>by have:=hr k e.symm;omega⟩
def J.grown {D W W' row} (h:J D o w o' W) (hg:W.grownBy W' row) (hr:∀g,row=some g→w.heap.size≤g):J D o w o' W':=by
 refine⟨⟨hg.os.trans h.fr.os,hg.tape.trans h.fr.tape,hg.output.trans h.fr.output,Zp h.fr.size hg.size,fun b hb hS=>?_⟩,h.old,fun b k hb hk=>?_⟩
 ·exact (hg.block b (Za hb h.fr.size) fun e=>by have:=hr b e.symm;omega).trans (h.fr.block b hb hS)
 ·obtain⟨H,h2,h3⟩:=h.new b k hb hk
  exact⟨Za H hg.size,Za h2 hg.size,h3⟩
def xt {s x} (h:ix s wm=some x):s.at_=6∧(∀y∈wm.sys,bK y)∧(∃wm',az s.own wm=(.ok x,wm'))∧x.done=true:=by
 unfold ix at h
 split at h
 case isFalse=>cases h
 case isTrue h6=>
 split at h
 case h_2=>cases h
 case h_1 u wm1 hg=>
 split at h
 case h_2=>cases h
 case h_1 y wm2 hs=>
 split at h
 case isFalse=>cases h
 case isTrue hd=>
 cases h
 exact⟨h6,(eT hg).1,⟨_,hs⟩,hd⟩
def rG {s U bm x ys pa va bi wa pc vc wc bf f S ll} (z:Wf o w) (hI:aI o w W wm L) (hA:ay o w T c t (ys ++ [x]) pa va pc vc) (a4:t.parts.dropLast=ys.map PX.m) (hm:x.m= .meet m) (O:bU o w x.b m f (some S) wa bi wc bf ll) (aT:x.ls=x.b :: f :: ll) (hl:bG o w bx l) (aj:bx∉aB T (ys ++ [x])) (hs:m.sy=some s) (ha:m.after=false) (hr:ix s wm=some U) (a7:U.br=0) (hfo:m.fo= .over bm) (hsm:small bm.v=true) (tv) :
  Calls prog 110 #[π T,π x.b,π W,tv] w (cx T c bx (bB t (.meet {m with v:=U.v,after:=true})) l true (aB T (ys ++ [x])) o w):=by
 obtain⟨h6,a5,⟨bq,bA⟩,ad⟩:=xt hr;obtain⟨w1,aP,-,b1,Z⟩:=al1 w 213 [π x.b];have ae:=z.below b1;have Y:=(tB z b1).kp;have aw:=O.kept Y b1.size trivial trivial fun _ _=>Zk;have hsy:=aw.sy;rw[hs] at hsy;have aa:o w.heap.size=none:=z.ge (Zc _);have bv:=rp ae (hI.below z b1) hsy h6 a5 bA ad;unfold lN at bv;rw[a7] at bv;obtain⟨_,_,_,_,_,_,_,_,ak,-⟩:=id hsy;have ah:=hw ak ω;have hq:(s.at_ != 6)=false:=by simp[h6]
 have bg:=aw.fo;rw[hfo] at bg;have aW:c7 bm:=⟨hsm,by rw[bg.1];simp,by rw[bg.1];simp,by rw[bg.2.1];simp⟩;have bS:=χ (fun o4 M (ht:J Θ o w1 o4 M)=>xg (bg.2.2.kept (ht.kp) ht.size trivial) aW);have c0:=Z.c 0 rfl;obtain⟨-,d1,-,-,-,-,d6,-⟩:=kc6 aw.blk;rw[ha] at d6;have aX:=χ (Zf Z (Zf ae (Zf aw (Zf aa b1))));have HW:=χ (Zf z (Zf hA (Zf a4 (Zf hm (Zf aT (Zf hl (Zf aj (Zf aW bg))))))))
 have bd:=χ (show ∀(oF:ab) (wF:World) (aD ra:Option Addr) (cw rc:Nat),J (·=x.b) o w oF wF→oF x.b=some x.b→A wF x.b 217 (hN f (some S) {m with v:=U.v,after:=true} aD ra cw rc)→cw≤maxLen→aG (Fz oF wF) wF U.v (.agg (υ U.v ra rc))→cx T c bx (bB t (.meet {m with v:=U.v,after:=true})) l true (aB T (ys ++ [x])) o w (.returned (.bool true)) wF from fun oF wF aD ra cw rc ht bY hk aN hv=>by
   have I:=ht.et (K:=(·≠x.b)) fun _ h=>h;refine yF ?_;intro aZ;have a6:=aZ x.b (by rw[aT];simp);have hM:bU oF wF x.b {m with v:=U.v,after:=true} f (some S) aD ra cw rc ll:=
    ⟨hk,bY,O.fo.kept I ht.size (fun e=>O.nf e.symm),hv,O.sy.kept I ht.size (fun k hk e=>O.nb (e ▸ hk)),O.nf,O.nb,O.nl,aN⟩
   have h2:=hA.top (x':=⟨.meet {m with v:=U.v,after:=true},x.b,x.ls⟩) (ht.more' fun k e=>by rw[show k=x.b from e,aT];simp) (show c3 oF wF x.b {m with v:=U.v,after:=true} x.ls from⟨f,some S,aD,ra,cw,rc,ll,hM,aT⟩) (by unfold a';rw[hm]) fun k hk=>.inl hk;refine⟨rfl,oF,aB T (ys ++ [⟨.meet {m with v:=U.v,after:=true},x.b,x.ls⟩]),ht.more' fun k e=>.inl (by rw[show k=x.b from e];exact a6),⟨_,pa,va,pc,vc,?_,rfl⟩,hl.kept I ht.size fun e=>aj (e ▸ a6),fun k hk=>.inl ?_⟩
   ·unfold bB
    rw[a4];exact h2
   ·rcases bC.1 hk with e | ⟨y,hy,e⟩
    ·exact bC.2 (.inl e)
    ·rcases Zv.1 hy with hy | hy
     ·exact bC.2 (.inr ⟨y,by simp[hy],e⟩)
     ·rw[List.mem_singleton.1 hy] at e
      exact aZ k e)
 clear h6 a5 bA ad hr Z ae Y aw O hsy aa ak bg aW z hI hA a4 hm aT hl aj b1 hs ha a7 hfo hsm;generalize x.b=b at *;refine callsIn_wide.1 (callsIn_of_wp_marks (n:=4) func110 rfl trivial ?_ rfl);simp only[ntmps110,List.size_toArray,List.length_cons,List.length_nil,Nat.reduceAdd,Nat.reduceSub,Array.replicate_succ,Array.replicate_zero,List.push_toArray,List.append_toArray,List.nil_append,List.cons_append];refine wpIn_wide.2 ?_;go_wp2_with fail;go_step3;go_upto_region 16 with first
  | (go_at_call 112;refine γ ah ?_)
  | (go_at_call 153;refine bv.mono ?_;rintro e G ⟨o2,aq,ra,rc,rfl,be⟩)
 have b3:=am G (.cells #[ι 0] 3);have bF:=am (G.alloc (.cells #[ι 0] 3)) (.cells #[ι U.v.kd,ι U.v.n,.slice ra U.v.l.length rc] 86);have b4:Below (ν G) G ((G.alloc (.cells #[ι 0] 3)).alloc (υ U.v ra rc)):=b3.trans (bF.mono b3.size);have aQ:=(Zh G 3 [ι 0]).alloc (υ U.v ra rc);have af:=Zh (G.alloc (.cells #[ι 0] 3)) 86 [ι U.v.kd,ι U.v.n,.slice ra U.v.l.length rc];rw[World.size_alloc] at af;generalize (G.alloc (.cells #[ι 0] 3)).alloc (υ U.v ra rc)=M at *;obtain⟨Z,ae,aw,aa,b1⟩:=aX.out;have ap:=ae.BD aq;have ao:=aq.same ae (tB ap b4);have bR:=bS.out o2 M ao;have H4:=χ (Zf ao (Zf aq (Zf b4 (Zf be (Zf aQ af)))));have aV:=ao.kp;obtain⟨aM,-⟩:=aV.BF Z aa;have bM:=aw.kept aV ao.size trivial trivial fun _ _=>Zk;clear c0 d1 d6;have c0:=Zz (w:=M) aM 0 rfl;have d0:=bM.blk.c 0 rfl;clear aV aM bM;clear Z ae aw aa b1 ap ao aq b3 b4 bF be aQ af;go_wp2_with (go_at_call 129;refine γ (c8 M) ?_);go_step3;go_wp2_with (go_at_call 154;refine bR.mono ?_;rintro e V ⟨g,bj,cg,rfl,ai,bV,b0,cd,-,-⟩);obtain⟨Z,ae,aw,aa,b1⟩:=aX.out;obtain⟨ao,aq,b4,be,aQ,af⟩:=H4.out;have aK:=ae.BD ao;have aL:=aK.below ai;have az:J Θ o w1 o2 V:=ao.same ae (Zb aK ai);have bu:=az.kp;obtain⟨kx,-⟩:=bu.BF Z aa;have aJ:=aw.kept bu az.size trivial trivial fun _ _=>Zk;have bb:=(ai.block (ν G) aQ.lt).trans aQ;have aY:=(ai.block (η G) af.lt).trans af;have bt:=ZE (w:=V) kx;have a3:=aJ.blk.lt;have b5:=ZE (w:=V) aY;have H5:=χ (Zf aL (Zf az (Zf kx (Zf aJ (Zf bb (Zf aY ai))))));have aW:=HW.out.2.2.2.2.2.2.2.1
 clear Z ae aw aa b1 ao aq b4 be aQ af aK ai bu kx aJ bb aY
 refine wpIn_wide.1 (ma (n:=4) (gf:=197) (lb:=#[.pointer (some ⟨g,0,none⟩)]) rfl (enters_of func197 ψ rfl) (wR _ bm aW g bj cg V bV b0) (fun _=>rfl)
   (fun ag W=>Below (ν V) V W∧ag=[])
   (fun c ag W=>c= .exit 1∧∃aD cw,J (·=b) o2 V o2 W∧A W b 217 (hN f (some S) m aD bi cw bf)∧cw≤maxLen) ?_ ?_ (fun _ _ h=>h.1) ?_ ?_ ?_ ?_)
 ·rintro ag W W' ⟨H,h2⟩ hg
  exact⟨H.trans (ds hg H.size fun g hg=>by injection hg;omega),h2⟩
 ·rintro c ag W W' ⟨h0,aD,cw,H,h2,h3⟩ hg
  refine⟨h0,aD,cw,?_,(hg.block _ (Za a3 H.size) (fun e=>by injection e;omega)).trans h2,h3⟩;exact H.grown hg fun q hq=>by injection hq;omega
 ·intro W hg
  exact⟨ds hg (Zc _) (fun g hg=>by cases hg),rfl⟩
 ·rintro ag xv Wx ⟨a1,rfl⟩ ⟨-,a7,bO⟩ a8
  obtain⟨xi,xc⟩:=xv;dsimp only at a7 bO;subst a7;obtain⟨av,aD,an,cv,cw,cn,rfl,-,-,-,-,-,-,aN,-⟩:=bO;dsimp only[ku];rw[show ((0:Nat):Int)=0 from rfl];have bZ:=χ (HW.out.2.2.2.2.2.2.2.2.1);have bT:=χ aN;have bX:=χ a1;clear aN a1;gi_wp2;refine⟨mV (am _ _),?_⟩;intro E aA bz a9;have a1:=bX.out;have bo:=am Wx (.cells #[ι bm.kd,ι bm.n,ι bm.v.kd,ι bm.v.n,.slice av bm.v.l.length cv,.slice aD bm.wr.length cw,.slice an bm.nk.length cn] 194);have bn:=a1.trans (bo.mono a1.size);have aR:∀q cs T',A V q T' cs→A E q T' cs:=fun q cs T' hq=>(aA.block q (Za hq.lt bn.size) (fun e=>by injection e with e;have:=hq.lt;omega)).trans ((bn.block q hq.lt).trans hq);obtain⟨aL,az,kx,aJ,bb,aY,ai⟩:=H5.out;have bL:=aR _ _ _ kx;have bc:=aR _ _ _ aJ.blk;have bP:=aR _ _ _ bb;have kb3:A E Wx.heap.size 194 [ι bm.kd,ι bm.n,ι bm.v.kd,ι bm.v.n,.slice av bm.v.l.length cv,.slice aD bm.wr.length cw,.slice an bm.nk.length cn]:=(aA.block Wx.heap.size ξ (fun e=>by injection e with e;omega)).trans (Zh Wx 194 [ι bm.kd,ι bm.n,ι bm.v.kd,ι bm.v.n,.slice av bm.v.l.length cv,.slice aD bm.wr.length cw,.slice an bm.nk.length cn]);have c0:=Zz (w:=E) bL 0 rfl;obtain⟨-,-,-,-,d2,f2,-⟩:=kb2 bc;have e0:=Zz (w:=E) bP 0 rfl;have g5:=Zz (w:=E) kb3 5 rfl;have aO:J (·=b) o2 V o2 E:=((Zb (D:=(·=b)) aL bn)).grown aA fun q hq=>by injection hq with hq;omega
  have HQ:=χ (Zf aO (Zf bc (aL.BD aO)));have bw:=χ aJ.own;clear a1 bo bn aR aL az kx aJ bb aY ai bL bc bP kb3 aO aA a9 bz;gi_wp2;obtain⟨aO,bc,ax⟩:=HQ.out;refine⟨⟨Z0 _ _ _ _ Ω,Z0 _ _ _ _ Ω⟩,rfl,aD,cw,?_,?_,?_⟩
  ·exact aO.same H5.out.1 (Z3 (D:=(·=b)) ax bw.out rfl 2 _)
  ·have:=Yi (w:=E) bc 2 (.slice aD bm.wr.length cw)
   rw[bZ.out] at this ⊢;exact this
  ·exact bT.out
 ·rintro xs Wx hS ⟨-,hI⟩
  exfalso
  unfold ow at hS;rw[hI] at hS;cases hS
 ·rintro c ag Wx bp ⟨rfl,aD,cw,ht,km,aN⟩ hD
  obtain⟨aL,az,kx,aJ,bb,aY,ai⟩:=H5.out;obtain⟨Z,ae,aw,aa,b1⟩:=aX.out;obtain⟨ao,aq,b4,be,aQ,af⟩:=H4.out;have ap:=ae.BD aq;have bE:=ht.et (K:=(·≠b)) fun _ h=>h;obtain⟨aC,aF⟩:=(az.kp).BF Z aa;obtain⟨bN,-⟩:=bE.BF aC aF;have bI:o2 (G.heap.size+1)=none:=ap.ge ω;obtain⟨bQ,-⟩:=bE.BF aY bI;have c0:=Zz (w:=Wx) bN 0 rfl;obtain⟨e0,e1,e2,-⟩:=kc2 bQ;obtain⟨-,-,-,-,-,-,d3,f3,d4,f4,d5,f5,d6,f6,-⟩:=kb6 km;have HQ:=χ (Zf ht (Zf km (Zf aN hD)));clear aL az kx aJ bb aY ai Z ae aw aa b1 ao aq b4 be aQ af ap bE aC aF bN bI bQ ht km aN hD bp;gi_wp2;refine tD ?_;go_region;go_wp2_with fail;simp only[Exit.noGoto,Exit.inBlock,Exit.then];go_wp2_with fail;obtain⟨ht,km,aN,hD⟩:=HQ.out;obtain⟨aL,az,kx,aJ,bb,aY,ai⟩:=H5.out;obtain⟨Z,ae,aw,aa,b1⟩:=aX.out;obtain⟨ao,aq,b4,be,aQ,af⟩:=H4.out;have z:=HW.out.1;have ac:=aL.BD ht;have aU:o2 b=some b:=aJ.own;have hF:Fr (·=b) Wx (σ (σ (σ (σ Wx b 3 (ι U.v.kd)) b 4 (ι U.v.n)) b 5 (.slice ra U.v.l.length rc)) b 6 (.bool true)):=aE (S:=(·=b)) rfl 0 [(3,ι U.v.kd),(4,ι U.v.n),(5,.slice ra U.v.l.length rc),(6,Υ)] Wx;have t1:J (·=b) o2 Wx o2 (σ (σ (σ (σ Wx b 3 (ι U.v.kd)) b 4 (ι U.v.n)) b 5 (.slice ra U.v.l.length rc)) b 6 (.bool true):World).drew:=Z9 ac (S:=(·=b)) ⟨hF.os,hF.tape,hF.output,hF.size,hF.block⟩ fun q _ hq=>⟨b,by rw[show q=b from hq];exact aU,rfl⟩;have bl:V.heap.size≠b:=fun e=>by omega
  have bh:(σ (σ (σ (σ Wx b 3 (ι U.v.kd)) b 4 (ι U.v.n)) b 5 (.slice ra U.v.l.length rc)) b 6 (.bool true):World).drew.heap[V.heap.size]? =some (.deferred (some [])):=((Z0 _ _ _ _ bl).trans ((Z0 _ _ _ _ bl).trans ((Z0 _ _ _ _ bl).trans (Z0 _ _ _ _ bl)))).trans hD;have kN:A (σ (σ (σ (σ Wx b 3 (ι U.v.kd)) b 4 (ι U.v.n)) b 5 (.slice ra U.v.l.length rc)) b 6 (.bool true):World).drew b 217 (hN f (some S) {m with v:=U.v,after:=true} aD ra cw rc):=(((Yi (w:=Wx) km 3 _).set 4 _).set 5 _).set 6 _;have b2:J (·=b) o w o2 V:=(Zb z b1).same z (az.more' fun _ e=>e.elim);have t2:J (·=b) o w o2 (σ (σ (σ (σ Wx b 3 (ι U.v.kd)) b 4 (ι U.v.n)) b 5 (.slice ra U.v.l.length rc)) b 6 (.bool true):World).drew:=(b2.same z ht).same z t1;have bD:=grownBy_putObj' (σ (σ (σ (σ Wx b 3 (ι U.v.kd)) b 4 (ι U.v.n)) b 5 (.slice ra U.v.l.length rc)) b 6 (.bool true):World).drew (ν V) (.deferred none);have t3:=t2.grown bD fun q hq=>by injection hq with hq;omega
  have k9:A ((σ (σ (σ (σ Wx b 3 (ι U.v.kd)) b 4 (ι U.v.n)) b 5 (.slice ra U.v.l.length rc)) b 6 (.bool true):World).drew.putObj (ν V) (.deferred none)) b 217 _:=(World.putObj_heap_other bl.symm).trans kN;have hV:aG (Fz o2 ((σ (σ (σ (σ Wx b 3 (ι U.v.kd)) b 4 (ι U.v.n)) b 5 (.slice ra U.v.l.length rc)) b 6 (.bool true):World).drew.putObj (ν V) (.deferred none))) ((σ (σ (σ (σ Wx b 3 (ι U.v.kd)) b 4 (ι U.v.n)) b 5 (.slice ra U.v.l.length rc)) b 6 (.bool true):World).drew.putObj (ν V) (.deferred none)) U.v (.agg (υ U.v ra rc)):=by
   have ap:=ae.BD aq;have aK:=ae.BD ao;have bK:J (·=b) o2 G o2 V:=Zb ap (b4.trans (ai.mono b4.size));have bJ:=((bK.same ap ht).same ap t1).grown bD fun q hq=>by injection hq with hq;have:=bK.size;omega
   exact be.kept (bJ.et (K:=(·≠b)) fun _ h=>h) bJ.size
  refine⟨by simp,.inl ⟨_,_,rfl,run_takeDeferred bh,?_⟩⟩;exact⟨.bool true,by simp[results,results110,go_sem],bd.out _ _ aD ra cw rc t3 aU k9 aN hV⟩
end
end
section
open Go.RowKit Go.Sort
def g0 (o:ab) (w:World) (wv:Value) (wx:Option (Nat×aH×List Nat)):Prop:=match wx with
 | none=>wv= .pointer none
 | some (W,wm,L)=>wv= .pointer (some ⟨W,0,none⟩)∧aI o w W wm L
def kV (wx:Option (Nat×aH×List Nat)):List Nat:=match wx with
 | none=>[]
 | some (_,_,L)=>L
def fO (wx:Option (Nat×aH×List Nat)):Option aH:=wx.map fun x=>x.2.1
section
variable {o o':ab} {w w':World} {c T g bx:Nat} {t t':aS} {Ls:List Nat} {F F':ba} {p:List Fn} {m:bW} {es l:List a0} {wv:Value} {wx:Option (Nat×aH×List Nat)} {b:Bool} {K:Nat→Prop}
def g0.kept (h:g0 o w wv wx) (I:aM K o w o' w') (hs:w.heap.size≤w'.heap.size) (hL:∀k∈kV wx,K k):g0 o' w' wv wx:=by
 cases wx with
 | none=>exact h
 | some x=>obtain⟨W,wm,L⟩:=x;exact⟨h.1,h.2.kept I hs hL⟩
def bJ (bx:Nat):Value:= .func (.func 106) #[] #[.pointer (some ⟨bx,0,none⟩)]
def uV (z:Wf o w) (U:a7 o w T c t Ls) (hl:bG o w bx l) (aj:bx∉Ls) (hc:bz o w c p) (hF:b7 t=some F) (hf:a1 o w g c F) (ak:l.length≤1000000) (h:iO p t F=some (t',es,b)) :
  Calls prog 109 #[π T,π g,bJ bx] w (cx T c bx t' (l ++ es) b Ls o w):=by
 unfold iO at h
 split at h
 case isTrue=>cases h
 case isFalse h4=>
 split at h
 case isTrue h3=>
  split at h
  case isFalse=>cases h
  case isTrue hsm=>
  split at h
  case h_1=>cases h
  case h_2 hnm=>
  cases h
  exact tf z U hl aj hF hf h3 hsm (fun m e=>hnm m e) ak
 case isFalse h3=>
  obtain⟨wn,hM,h⟩:=Zt.1 h;cases wn with
  | none=>
    cases h
    rw[List.append_nil];exact (pp z hf hc _ h3 h4 hM).mono fun e w' he=>cx.Cf he z U hl
  | some x=>
    dsimp only at h
    split at h
    case isTrue hx=>
     split at h
     case h_2=>cases h
     case h_1 v hv=>
     split at h
     case isFalse=>cases h
     case isTrue hcond=>
     cases h
     rw[List.append_nil];exact tU z U hl aj hf hc _ h3 h4 hM hx hv hcond.1 hcond.2.1 hcond.2.2
    case isFalse hx=>
     cases h
     rw[List.append_nil];exact (q3 z hf hc _ h3 h4 hM hx).mono fun e w' he=>cx.Cf he z U hl
def t8 {x ys pa va bi wa pc vc wc bf f ps ll} (z:Wf o w) (hA:ay o w T c t (ys ++ [x]) pa va pc vc) (a4:t.parts.dropLast=ys.map PX.m) (hm:x.m= .meet m) (O:bU o w x.b m f ps wa bi wc bf ll) (aT:x.ls=x.b :: f :: ll) (hl:bG o w bx l) (aj:bx∉aB T (ys ++ [x])) (hc:bz o w c p) (H:g0 o w wv wx) (ak:l.length≤1000000) (h:iY p (fO wx) t m=some (t',es,b)) :
  Calls prog 110 #[π T,π x.b,wv,bJ bx] w (cx T c bx t' (l ++ es) b (aB T (ys ++ [x])) o w):=by
 have aa:a7 o w T c t (aB T (ys ++ [x])):=⟨_,_,_,_,_,hA,rfl⟩;have hsy:=O.sy;unfold iY at h
 split at h
 case h_1 hs=>
  cases h
  rw[hs] at hsy;obtain rfl:ps=none:=by
   cases ps with
   | none=>rfl
   | some S=>exact hsy.elim
  rw[List.append_nil];exact (sT O wv _).mono fun e w' he=>cx.Cf he z aa hl
 case h_2 s hs=>
  rw[hs] at hsy;obtain⟨S,rfl⟩:∃S,ps=some S:=by
   cases ps with
   | none=>exact hsy.elim
   | some S=>exact⟨S,rfl⟩
  split at h
  case isTrue ha=>
   split at h
   case isTrue h6=>
    obtain⟨U,hr,h⟩:=Zt.1 h;obtain⟨wm,A,hr⟩:=Zt.1 hr
    split at h
    case h_2=>cases h
    case h_1 bm hfo=>
    split at h
    case isFalse=>cases h
    case isTrue hc2=>
    cases h
    rw[List.append_nil];obtain⟨W,wm',L,rfl⟩:∃W wm' L,wx=some (W,wm',L):=by
     cases wx with
     | none=>cases A
     | some y=>exact⟨_,_,_,rfl⟩
    cases A
    obtain⟨rfl,hI⟩:=H;exact rG z hI hA a4 hm O aT hl aj hs ha hr hc2.1 hfo hc2.2 _
   case isFalse h6=>
    split at h
    case isTrue=>cases h
    case isFalse h0=>
    cases h
    rw[List.append_nil];exact (rr z O hs ha h6 h0 wv _).mono fun e w' he=>cx.Cf he z aa hl
  case isFalse ha=>
   split at h
   case isFalse=>cases h
   case isTrue hsm=>
   split at h
   case h_2=>cases h
   case h_1 F hF=>
   obtain⟨F',hR,h⟩:=Zs.1 h;cases h
   have a8:b7 {t with parts:=ys.map PX.m}=some F:=by unfold b7;dsimp only;rw[←a4,hF]
   have:=vT z hA O aT hl aj hc hs hsm.2 (by simpa using ha) hsm.1 a8 hR ak wv;unfold bB at this;dsimp only at this;rw[a4];exact this
end
end
section
open Go.RowKit Go.Sort
section
variable {o o' o1 o2:ab} {w w' w1 G:World} {c T g bx:Nat} {t t' t1 t2:aS} {Ls Ls' Ls1:List Nat} {F:ba} {p:List Fn} {m:bW} {es l l1 l2:List a0} {wv:Value} {wx:Option (Nat×aH×List Nat)} {b:Bool} {K:Nat→Prop}
def d0 (T c bx:Nat) (Ls:List Nat) (o:ab) (w:World) (t1:aS) (l1:List a0) (o1:ab) (w1:World) (Ls1:List Nat):Prop:=J (fun k=>k∈Ls∨k=bx) o w o1 w1∧a7 o1 w1 T c t1 Ls1∧bG o1 w1 bx l1∧∀k∈Ls1,k∈Ls∨w.heap.size≤k
def d0.step {e} (z:Wf o w) (hl:bG o w bx l) (h:d0 T c bx Ls o w t1 l1 o1 w1 Ls1) (he:cx T c bx t2 l2 b Ls1 o1 w1 e G):e= .returned (.bool b)∧∃o2 Ls2,d0 T c bx Ls o w t2 l2 o2 G Ls2:=by
 obtain⟨a1,a2,a3,a4⟩:=h;obtain⟨rfl,o2,Ls2,b1,b2,b3,b4⟩:=he;have hs:=a1.size;refine⟨rfl,o2,Ls2,a1.trans z b1 fun k hk hD=>?_,b2,b3,fun k hk=>?_⟩
 ·rcases hD with e | e
  ·exact .inl ((a4 k e).elim id fun e=>by omega)
  ·exact .inr e
 ·rcases b4 k hk with e | e
  ·exact a4 k e
  ·exact .inr ω
def d0.drop (h:d0 T c bx Ls o w t1 l1 o1 w1 Ls1) (z:Wf o w) (hb:Below (ν w1) w1 G):d0 T c bx Ls o w t1 l1 o1 G Ls1:=by obtain⟨a1,a2,a3,a4⟩:=h;have ae:=z.BD a1;exact⟨a1.same z (Zb ae hb),a2.below ae hb,a3.kept (kB ae hb) hb.size trivial,a4⟩
def jJ (T c bx:Nat) (p:List Fn) (wm:Option aH) (Ls:List Nat) (o:ab) (w:World) (t':aS) (le:List a0) (k:Nat) (ac:Value) (wr:World):Prop:=∃o1 Ls1 t1 l1,d0 T c bx Ls o w t1 l1 o1 wr Ls1∧((ac= .bool true∧∃bd,e5 p wm k t1=some (t',bd)∧l1 ++ bd=le)∨(ac= .bool false∧t1=t'∧l1=le))
def oC (T c bx:Nat) (t':aS) (l':List a0) (Ls:List Nat) (o:ab) (w:World) (e:Ending) (w':World):Prop:=e= .returned (.tuple #[])∧∃o' Ls',d0 T c bx Ls o w t' l' o' w' Ls'
def m9 {n} (z:Wf o w) (U:a7 o w T c t Ls) (hl:bG o w bx l) (aj:bx∉Ls) (hc:bz o w c p) (H:g0 o w wv wx) (hd:∀k∈kV wx,k∉Ls∧k≠bx) (ak:(l ++ es).length≤1000000) (h:e5 p (fO wx) n t=some (t',es)) :
  Calls prog 74 #[π T,wv,bJ bx] w (oC T c bx t' (l ++ es) Ls o w):=by
 have HW:=χ (Zf z (Zf hl (Zf aj (Zf hc (Zf H (Zf hd ak))))));have h0:jJ T c bx p (fO wx) Ls o w t' (l ++ es) n (.bool true) w:=⟨o,Ls,t,l,⟨ZM _ z,U,hl,fun k hk=>.inl hk⟩,.inl ⟨rfl,es,h,rfl⟩⟩;have L:=jS;have ai:=jL;have ah:=jY;have V:=mF;have ag:=my;clear z U hl aj hc H hd ak h;go_enter func74,ntmps74;go_wp2_with fail;go_loopg [6,7,8,9] n (fun k s6 _ _ _ wr=>jJ T c bx p (fO wx) Ls o w t' (l ++ es) k s6 wr)
 case atStart=>exact h0
 case round=>
  clear h0;obtain⟨o1,Ls1,t1,l1,hS,be⟩:=hrel;rcases be with ⟨rfl,bd,aM,a9⟩ | ⟨rfl,rfl,rfl⟩
  ·cases gk with
   | zero=>cases aM
   | succ f=>
   have af:(kr p (fO wx) t1).bind (fun r=>if r.2.2=true then (e5 p (fO wx) f r.1).map fun q=>(q.1,r.2.1 ++ q.2) else some (r.1,r.2.1))=some (t',bd):=aM;obtain⟨⟨t2,aW,b⟩,hr,I⟩:=Zt.1 af;clear aM af;obtain⟨z,hl,aj,hc,H,hd,ak⟩:=HW.out;have ae:=z.BD hS.1;have a8:=hS.1.size;have aC:=hl.lt;have Y:=hS.1.et (K:=fun k=>k∉Ls∧k≠bx) fun k h e=>e.elim h.1 h.2;have aB:=hc.kept Y a8;have Z:=H.kept Y a8 hd;have bQ:bx∉Ls1:=fun e=>(hS.2.2.2 bx e).elim aj fun e=>by omega
   have ao:l1.length≤1000000:=by have:=congrArg List.length a9;rw[List.length_append] at this;omega
   have HN:=χ (show ∀(o2:ab) (G:World) (Ls2:List Nat),d0 T c bx Ls o w t2 (l1 ++ aW) o2 G Ls2→jJ T c bx p (fO wx) Ls o w t' (l ++ es) f (.bool b) G from fun o2 G Ls2 h2=>by
     refine⟨o2,Ls2,t2,l1 ++ aW,h2,?_⟩;dsimp only at I;cases b with
     | true=>rw[if_pos rfl] at I;obtain⟨q,hq,e⟩:=Zs.1 I;injection e with e1 e2;exact .inl ⟨rfl,q.2,by rw[hq,←e1],by rw[List.append_assoc,e2,a9]⟩
     | false=>
       rw[if_neg Bool.false_ne_true] at I;injection I with e;injection e with e1 e2
       exact .inr ⟨rfl,e1,by rw[e2,a9]⟩)
   clear I a9 Y a8 aC aj ak hd H hc;unfold kr at hr
   split at hr
   case h_1 hg=>
    injection hr with hr;injection hr with e1 hr;injection hr with e2 e3;subst e1 e2 e3;obtain⟨xs,pa,va,pc,vc,hA,-⟩:=hS.2.1;obtain rfl:xs=[]:=by rw[List.getLast?_eq_none_iff,hA.pts] at hg;exact List.map_eq_nil_iff.1 hg
    have A:=i' hA;have HX:=χ (HN.out _ _ _ (by rw[List.append_nil];exact hS));clear hA hS ae aB Z hg z hl bQ;go_wp2_with (go_at_call 104;refine γ A ?_);go_roundg f
    case measure=>omega
    case rel=>exact HX.out
   case h_2 F hg=>
    have hF:b7 t1=some F:=by unfold b7;rw[hg]
    obtain⟨ys,x,pa,va,pc,vc,g,hA,ad,hm,-,hb,-,hf,-,-⟩:=hS.2.1.act ae hF;have A:=fg hA;have hv:a' x= .iface 205 (π x.b):=by unfold a';rw[hm]
    rw[hv] at A;have aO:=hb.lt;have c0:=hb.c 0 rfl
    have aL:=χ (fun G (aa:Below (ν wr) wr G)=>(show Calls prog 109 #[π T,π g,bJ bx] G fun e w'=>e= .returned (.bool b)∧∃o2 Ls2,d0 T c bx Ls o w t2 (l1 ++ aW) o2 w' Ls2 from by
      have h2:=hS.drop z aa
      exact (uV (z.BD h2.1) h2.2.1 h2.2.2.1 bQ (aB.below ae aa) hF (hf.below ae aa) ao hr).mono fun e w' he=>h2.step z hl he))
    clear hA hS aB Z hg bQ hf hm hF hr ad hv hb ae z hl;generalize x.b=M at *;unfold bJ at *;go_wp2_with first
     | (go_at_call 104;refine δ A ?_;intro G aa;have c0:=(aa.cell (p:=κ M 0) aO).trans c0;have ac:=aL.out G aa)
     | (go_at_call 109;refine ac.mono ?_;rintro e E ⟨rfl,o3,Ls3,aV⟩;have HX:=χ (HN.out o3 E Ls3 aV);clear aV)
    go_roundg f
    case measure=>omega
    case rel=>exact HX.out
   case h_3 m hg=>
    have hF:dy t1=some m:=by unfold dy;rw[hg]
    obtain⟨ys,x,pa,va,pc,vc,f',ps,wa,bi,wc,bf,ll,hA,ad,hm,aT,O,a4,-,-,-⟩:=hS.2.1.meet ae hF;have A:=fg hA;have hv:a' x= .iface 213 (π x.b):=by unfold a';rw[hm]
    rw[hv] at A
    have aL:=χ (fun G (aa:Below (ν wr) wr G)=>(show Calls prog 110 #[π T,π x.b,wv,bJ bx] G fun e w'=>e= .returned (.bool b)∧∃o2 Ls2,d0 T c bx Ls o w t2 (l1 ++ aW) o2 w' Ls2 from by
      have h2:=hS.drop z aa;have bh:=(tB ae aa).kp;subst ad
      exact (t8 (z.BD h2.1) (hA.kept bh aa.size fun _ _=>Zk) a4 hm (O.kept bh aa.size trivial trivial fun _ _=>Zk) aT h2.2.2.1 bQ (aB.below ae aa) (Z.kept bh aa.size fun _ _=>Zk) ao hr).mono fun e w' he=>h2.step z hl he))
    clear hA hS aB Z hg bQ O hm hF hr ad aT a4 hv ae z hl;generalize x.b=M at *;unfold bJ at *;go_wp2_with first
     | (go_at_call 104;refine δ A ?_;intro G aa;have ac:=aL.out G aa)
     | (go_at_call 110;refine ac.mono ?_;rintro e E ⟨rfl,o3,Ls3,aV⟩;have HX:=χ (HN.out o3 E Ls3 aV);clear aV)
    go_roundg f
    case measure=>omega
    case rel=>exact HX.out
  ·have HS:=χ hS
   clear hS;go_wp2_with fail;refine xQ ?_;exact⟨rfl,o1,Ls1,HS.out⟩
end
end
section
open Go.RowKit Go.Sort
def q2 (I a1 a2 a3 w):CallsD prog 107 #[I,a1,a2,a3] .returning w fun e u' w'=>e= .returned (.tuple #[])∧u'= .returning∧w'=w:=by
 refine ZB func107 rfl fun c₀ cs hu=>?_;apply ZW;apply ZH;simp[wpOpsS,go_sem,recoverD,hu,ntmps107,Exit.thenS];refine xS ?_;go_wp2_with fail;cases c₀
 simp_all [bodyPostS,results,results107]
def vK (n w):(Instr.typeAssert (fL n) 20 221 true).run prog w= .ok (.tuple #[.agg #[ι n],Υ]) w:=by
 unfold fL
 kernel_rfl
def uY (I be a2 a3 n v0 v1) (h:List PanicEntry) (w) (h0:A w I 29 [v0]) (H:A w be 33 [v1]) (ay:I≠be) :
  CallsD prog 107 #[π I,π be,a2,a3] (.panicking ({v:=fL n,recovered:=false} :: h)) w fun e u' w'=>
   e= .returned (.tuple #[])∧u'= .panicking ({v:=fL n,recovered:=true} :: h)∧A w' I 29 [ζ]∧A w' be 33 [ι n]∧Fr (fun b=>b=I∨b=be) w w':=by
 have l0:=h0.lt;have l1:=H.lt;refine ZB func107 rfl fun c₀ cs hu=>?_;apply ZW;apply ZH;simp[wpOpsS,go_sem,recoverD,hu,ntmps107,Exit.thenS];refine xS ?_;have L:=fun wx=>vK n wx;unfold fL at L ⊢;go_wp2_with fail;have O:=h0.alloc (.cells #[ι n] 221);have Z:=H.alloc (.cells #[ι n] 221);have k2:=Zh w 221 [ι n];have ai:=am w (.cells #[ι n] 221);have hy:w.heap.size≠I:=ω;have hz:w.heap.size≠be:=ω;generalize w.alloc (.cells #[ι n] 221)=V at *;obtain⟨xb,z⟩:∃xb,w.heap.size=xb:=⟨_,rfl⟩;rw[z] at k2 hy hz ai ⊢;refine yk ?_;intro r0 g0 r1 g1 r2;have hP:A (σ (σ V I 0 (.slice none 0 0)) be 0 (ι n):World).drew I 29 [ζ]∧A (σ (σ V I 0 (.slice none 0 0)) be 0 (ι n):World).drew be 33 [ι n]∧Fr (fun b=>b=I∨b=be) w (σ (σ V I 0 (.slice none 0 0)) be 0 (ι n):World).drew:=
   ⟨((O.set 0 (.slice none 0 0)).BJ (q:=κ be 0) ay (ι n)).drew,((Z.BJ (q:=κ I 0) (fun e=>ay e.symm) (.slice none 0 0)).set 0 (ι n)).drew,
     (((ZA (by rw[z];exact ai)).same (Z4 (q:=κ I 0) (.inl (.inl rfl)))).same (Z4 (q:=κ be 0) (.inl (.inr rfl)))).same Yn⟩
 go_wp2_with fail;simp[bodyPostS,results,results107];exact hP
section
variable {o o' o1 o2:ab} {w w' w1 G:World} {T:Nat} {l:List a0} {D:Nat→Prop}
def rk (D:Nat→Prop) (l:List a0) (R:Nat→ab→World→Prop) (o:ab) (w:World) (e:Ending) (w':World):Prop:=∃o' a c bx,e= .returned (.tuple #[.slice a l.length c,.int .i64 0])∧J D o w o' w'∧R bx o' w'∧w.heap.size≤bx∧bx < w'.heap.size∧ax (bA (Fz o' w') w') o' w' bx 88 10 (.slice a l.length c) l
def nv (z:Wf o w) (T):∃o4,J Θ o w o4 ((((w.alloc (.cells #[π T] 38)).alloc (.cells #[ζ] 29)).alloc θ2).alloc (.cells #[bJ (η w)] 160)) ∧
  o4 (w.heap.size+1)=some (w.heap.size+1)∧o4 (w.heap.size+1+1)=some (w.heap.size+1+1):=by
 have t1:J Θ o w o (w.alloc (.cells #[π T] 38)):=Zb z (am w _);have ae:=z.BD t1;have t2:=ZJ ae (.cells #[ζ] 29);have ap:=ae.BD t2;have t3:=ZJ ap (.cells #[ι 0] 33);have ax:=ap.BD t3;have t4:J Θ _ _ _ ((((w.alloc (.cells #[π T] 38)).alloc (.cells #[ζ] 29)).alloc θ2).alloc (.cells #[bJ (η w)] 160)):=Zb ax (am _ _);refine⟨_,((t1.same z t2).same z t3).same z t4,?_,?_⟩
 ·simp only[World.size_alloc]
  rw[ab.BG _ _ ω];exact Zw _ _ _
 ·simp only[World.size_alloc]
  exact Zw _ _ _
def kP {b0 b1} (z:Wf o w) (an:J Θ o w o1 w1) (U:J (fun k=>D k∨k=b0) o1 w1 o2 G) (hD:∀k,D k→k < w.heap.size) (d0:o2 b0=some b0) (e1:o1 b1=some b1) (h0:w.heap.size≤b0) (H:w.heap.size≤b1) (l1:b1 < w1.heap.size) (ay:b0≠b1) (hF:Fr (fun b=>b=b0∨b=b1) G w') :
    J D o w o2 w'∧aM (fun k=>k≠b0∧k≠b1) o2 G o2 w':=by
  have ae:=z.BD an;have ap:=ae.BD U;have d1:o2 b1=some b1:=U.owned l1 e1 fun h=>h.elim (fun h=>by have:=hD _ h;omega) fun h=>ay h.symm;have a8:J (fun k=>k=b0∨k=b1) o2 G o2 w':=Z9 ap hF fun b _ hb=>by
    rcases hb with rfl | rfl
    ·exact⟨_,d0,.inl rfl⟩
    ·exact⟨_,d1,.inr rfl⟩
  have hA:J D o w o2 G:=(an.more' fun _ h=>h.elim).trans z U fun k hk e=>e.elim id fun e=>by omega
  exact⟨hA.trans z a8 fun k hk e=>by omega,a8.et fun k hk e=>by omega⟩
def Bm {p q:Prop} (k:q) (h:Zq q→p:=by
 intro mq;obtain⟨o4,ao,bK,E⟩:=nv z T;have b4:Below (ν w) w ((((w.alloc (.cells #[π T] 38)).alloc (.cells #[ζ] 29)).alloc θ2).alloc (.cells #[bJ (η w)] 160)):=(((am w _).alloc ξ _).alloc Ξ _).alloc Ξ _;have kx:=((Zh (w.alloc (.cells #[π T] 38)) 29 [ζ]).alloc θ2).alloc (.cells #[bJ (η w)] 160);have ke:=(Zh ((w.alloc (.cells #[π T] 38)).alloc (.cells #[ζ] 29)) 33 [ι 0]).alloc (.cells #[bJ (η w)] 160);simp only[World.size_alloc] at kx ke;revert o4 ao bK E b4 kx ke
 exact mq.u):p:=h ⟨k⟩
def oA (F:Nat) (caps R) (z:Wf o w) (hD:∀k,D k→k < w.heap.size) (hF:Λ F) (aG:∀(o4:ab) (M:World) (bx be:Nat),J Θ o w o4 M→Below (ν w) w M→bG o4 M bx []→w.heap.size≤bx→w.heap.size≤be→be < M.heap.size→bx≠be→Calls prog F (#[bJ bx] ++ caps) M fun e w'=>e= .returned (.tuple #[])∧∃o5,J (fun k=>D k∨k=bx) o4 M o5 w'∧bG o5 w' bx l∧∀w6,aM (fun k=>k≠bx∧k≠be) o5 w' o5 w6→w'.heap.size≤w6.heap.size→R bx o5 w6) :
    Calls prog 72 #[π T,.func (.func F) #[] caps] w (rk D l R o w):=by
  refine Bm ?_;intro o4 ao bK E b4 kx ke;go_enter_defers func72,ntmps72;unfold bJ at *;go_wp2_with fail;obtain⟨bx,aj⟩:∃bx,w.heap.size+1=bx:=⟨_,rfl⟩;obtain⟨be,L⟩:∃be,bx+1=be:=⟨_,rfl⟩;have g1:w.heap.size≤bx:=ω;have g2:w.heap.size≤be:=ω;have g3:bx≠be:=ω;simp only[aj,L] at *;generalize (((w.alloc (.cells #[π T] 38)).alloc (.cells #[ζ] 29)).alloc θ2).alloc (.cells #[.func (.func 106) #[] #[π bx]] 160)=M at *;have le:=ke.lt;refine (aG o4 M bx be ao b4 ⟨none,0,kx,bK,Yd _ _ _ _ _ _⟩ g1 g2 le g3).mono ?_;rintro e V ⟨rfl,o5,az,⟨a,c,t1,t2,t3⟩,hR⟩;have k5:A V be 33 [ι 0]:=(az.fr.block be le (by rintro ⟨k,hk,hd⟩;rw[E] at hk;cases hk;rcases hd with hd | hd;exact absurd (hD _ hd) ω;omega)).trans ke;obtain⟨c3,f3,-⟩:=kb0 t1;obtain⟨c4,f4,-⟩:=kb0 k5;have l5:=t1.lt;have h0:=(t1.set 0 (.slice a l.length c)).BJ (q:=κ be 0) g3 (ι 0);have H:=(k5.BJ (q:=κ bx 0) (fun e=>g3 e.symm) (.slice a l.length c)).set 0 (ι 0);have bf:Fr (fun b=>b=bx∨b=be) V (σ (σ V bx 0 (.slice a l.length c)) be 0 (ι 0)):=(Z4 (q:=κ bx 0) (.inl (.inl rfl))).same (Z4 (q:=κ be 0) (.inl (.inr rfl)));obtain⟨t6,k6⟩:=kP z ao az hD t2 E g1 g2 le g3 bf;obtain⟨xs,x1,x2⟩:=t3;have x3:=(x1.BH (bq t1 x1.row φ) 0 (.slice a l.length c)).BH (bq k5 x1.row φ) 0 (ι 0);have hS:=bf.size;go_wp2_with fail
  show bodyPostD _ _ _ _ _ _
  refine leaves_cons (f:=107) (args:=#[π bx,π be,ϖ w,π (be+1)]) ξ (by simp[go_sem]) ?_;refine (q2 _ _ _ _ _).mono ?_;rintro e u' w7 ⟨rfl,rfl,rfl⟩;exact⟨.tuple #[.slice a l.length c,ι 0],by simp[results,results72,go_sem,h0.c 0 rfl,H.c 0 rfl],o5,a,c,bx,rfl,t6,hR _ k6 hS,g1,ω,xs,x3,x2.mono fun _ _ h=>h.kept k6 hS⟩
def rQ (D:Nat→Prop) (n:Int) (o:ab) (w:World) (e:Ending) (w':World):Prop:=e= .returned (.tuple #[.slice none 0 0,.int .i64 n])∧∃o',J D o w o' w'
def rE (F:Nat) (caps n) (z:Wf o w) (hD:∀k,D k→k < w.heap.size) (hF:Λ F) (aG:∀(o4:ab) (M:World) (bx be:Nat),J Θ o w o4 M→Below (ν w) w M→bG o4 M bx []→w.heap.size≤bx→w.heap.size≤be→be < M.heap.size→bx≠be→Calls prog F (#[bJ bx] ++ caps) M fun e w'=>e=h' n∧∃o5,J D o4 M o5 w') :
  Calls prog 72 #[π T,.func (.func F) #[] caps] w (rQ D n o w):=by
 refine Bm ?_;intro o4 ao bK E b4 kx ke;go_enter_defers func72,ntmps72;unfold bJ at *;go_wp2_with fail;obtain⟨bx,aj⟩:∃bx,w.heap.size+1=bx:=⟨_,rfl⟩;obtain⟨be,L⟩:∃be,bx+1=be:=⟨_,rfl⟩;have g1:w.heap.size≤bx:=ω;have g2:w.heap.size≤be:=ω;have g3:bx≠be:=ω;simp only[aj,L] at *;generalize (((w.alloc (.cells #[π T] 38)).alloc (.cells #[ζ] 29)).alloc θ2).alloc (.cells #[.func (.func 106) #[] #[π bx]] 160)=M at *;have lx:=kx.lt;have le:=ke.lt;refine (aG o4 M bx be ao b4 ⟨none,0,kx,bK,Yd _ _ _ _ _ _⟩ g1 g2 le g3).mono ?_;rintro e V ⟨rfl,o5,az⟩;have k4:A V bx 29 [ζ]:=(az.fr.block bx lx (by rintro ⟨k,hk,hd⟩;rw[bK] at hk;cases hk;exact absurd (hD _ hd) ω)).trans kx;have k5:A V be 33 [ι 0]:=(az.fr.block be le (by rintro ⟨k,hk,hd⟩;rw[E] at hk;cases hk;exact absurd (hD _ hd) ω)).trans ke
 show bodyPostD _ _ _ _ _ _
 refine leaves_cons (f:=107) (args:=#[π bx,π be,ϖ w,π (be+1)]) ξ (by simp[go_sem]) ?_;refine (uY bx be _ _ n _ _ [] _ k4 k5 g3).mono ?_;rintro e u' w7 ⟨rfl,rfl,h0,H,ak⟩;have d0:o5 bx=some bx:=az.owned lx bK fun h=>by have:=hD _ h;omega
 obtain⟨t6,-⟩:=kP z ao (az.more' fun _ h=>.inl h) hD d0 E g1 g2 le g3 ak;exact⟨.tuple #[ζ,ι n],by simp[results,results72,go_sem,h0.c 0 rfl,H.c 0 rfl],rfl,o5,t6⟩
end
end
section
open Go.RowKit Go.Sort
def ot {o w W Y m aB aF aC cs ds} (hW:ai o w W m Y aB aF aC cs ds):Calls prog 69 #[π W] w (μ (.bool false) w):=by have I:=h7 hW;clear hW;go_enter func69,ntmps69;go_wp2_with (go_at_call 96;refine γ I ?_);go_ret;exact⟨rfl,rfl⟩
section
variable {o:ab} {w w' w1 G:World} {T c:Nat} {t:aS} {Ls:List Nat} {F:ba} {p:List Fn} {m:bW}
def sg (d:Int) (w:World) (e:Ending) (w':World):Prop:=e= .returned (.int .i64 d)∧Below w.heap.size w w'
def Bn {p:Prop} (h:p:=by
 go_enter func71,ntmps71;go_wp2_with first
  | (go_at_call 104;refine δ A ?_;intro G aa;have c0:=(aa.cell (p:=κ M 0) aO).trans c0;have a1:=H.out G aa)
  | (go_at_call 95;refine a1.mono ?_;rintro e E ⟨ac,xa,xc,rfl,-⟩)
 go_ret;have e1:=aa.trans (ac.mono aa.size)
 exact⟨rfl,e1.trans ((am E _).mono e1.size)⟩):p:=h
def Bo {p:Prop} (h:p:=by
 have bc:=χ (fun w1 (hb:Below (ν w) w w1)=>iS (w:=w1) ((hb.block _ aY).trans ag) φ);clear hA U hc z hm hv hF hg ad O a4 aT hsy hsm ag;generalize x.b=M at *;go_enter func71,ntmps71;go_wp2_with first
  | (go_at_call 104;refine δ A ?_;intro G aa;have d0:=(aa.cell (p:=κ M 0) aO).trans d0;have d1:=(aa.cell (p:=κ M 1) aO).trans d1;have aF:=bc.out G aa)
  | (go_at_call 105;refine γ aF ?_)
 go_ret
 exact⟨rfl,aa⟩):p:=h
def vJ {d} (z:Wf o w) (U:a7 o w T c t Ls) (hc:bz o w c p) (h:f2 p t=some d):Calls prog 71 #[π T] w (sg d w):=by
 unfold f2 at h;have L:=jS;have ai:=jL;have ah:=jY
 split at h
 case h_1=>cases h
 case h_2 F hg=>
  have hF:b7 t=some F:=by unfold b7;rw[hg]
  obtain⟨ys,x,pa,va,pc,vc,g,hA,ad,hm,-,hb,-,hf,-,-⟩:=U.act z hF;have A:=fg hA;have hv:a' x= .iface 205 (π x.b):=by unfold a';rw[hm]
  rw[hv] at A;have aO:=hb.lt;have c0:=hb.c 0 rfl;obtain⟨r,hM,h⟩:=Zt.1 h;have H:=χ (fun w1 (hb:Below (ν w) w w1)=>gQ (z.below hb) (hf.below z hb) (hc.below z hb) hM);clear hA U hf hc hM z hm hv hF hg ad hb;generalize x.b=M at *;cases r with
  | none=>
    cases h
    go_enter func71,ntmps71;go_wp2_with first
     | (go_at_call 104;refine δ A ?_;intro G aa;have c0:=(aa.cell (p:=κ M 0) aO).trans c0;have a1:=H.out G aa)
     | (go_at_call 95;refine a1.mono ?_;rintro e E ⟨ac,rfl⟩)
    go_ret;have e1:=aa.trans (ac.mono aa.size);exact⟨rfl,e1.trans ((am E _).mono e1.size)⟩
  | some q=>
    dsimp only at h;have I:(q.kind=1∧d=2)∨(q.kind≠1∧q.kind=2∧d=3):=by
     split at h
     case isTrue hk=>cases h;exact .inl ⟨hk,rfl⟩
     case isFalse hk=>
      split at h
      case isTrue hk2=>cases h;exact .inr ⟨hk,hk2,rfl⟩
      case isFalse=>cases h
    clear h;rcases I with ⟨hk,rfl⟩ | ⟨hk,hk2,rfl⟩
    ·have aj:(q.kind == 1)=true:=by simp[hk]
     clear hk;exact Bn
    ·have aj:(q.kind == 1)=false:=by simp[hk]
     have be:(q.kind == 2)=true:=by simp[hk2]
     clear hk hk2;exact Bn
 case h_3 m hg=>
  have hF:dy t=some m:=by unfold dy;rw[hg]
  obtain⟨ys,x,pa,va,pc,vc,f',ps,wa,bi,wc,bf,ll,hA,ad,hm,aT,O,a4,-,-,-⟩:=U.meet z hF;have A:=fg hA;have hv:a' x= .iface 213 (π x.b):=by unfold a';rw[hm]
  rw[hv] at A;have aO:=O.blk.lt;obtain⟨d0,d1,-⟩:=kc1 O.blk;have hsy:=O.sy;have hfo:=O.fo;cases hsm:m.sy with
  | some s=>
    rw[hsm] at h hsy;cases h
    obtain⟨S,rfl⟩:∃S,ps=some S:=by
     cases ps with
     | none=>exact hsy.elim
     | some S=>exact⟨S,rfl⟩
    clear hA U hc z hm hv hF hg ad O a4 aT hsy hfo hsm;generalize x.b=M at *;go_enter func71,ntmps71;go_wp2_with (go_at_call 104;refine δ A ?_;intro G aa;have d0:=(aa.cell (p:=κ M 0) aO).trans d0;have d1:=(aa.cell (p:=κ M 1) aO).trans d1);go_ret;exact⟨rfl,aa⟩
  | none=>
    rw[hsm] at h hsy;have ae:ps=none:=by
     cases ps with
     | none=>rfl
     | some S=>exact hsy.elim
    subst ae;have aY:=hfo.lt;cases bb:m.fo with
    | new v=>
      rw[bb] at h hfo;cases h
      obtain⟨g,a,cc,ag,-⟩:=hfo;exact Bo
    | over b=>
      rw[bb] at h hfo;cases h
      obtain⟨-,-,r,cc,ag,-⟩:=hfo;exact Bo
end
def ej:List (Int×Nat):=[(1,97),(2,98),(3,99),(4,100),(5,101),(6,102),(7,103)]
def nV (w):Calls prog 70 #[] w fun e w'=>e= .returned (.map (some w.heap.size))∧H w' (ν w) ej∧Below (ν w) w w':=by refine ym ?_;intro am az A;obtain⟨w1,ay,O,af⟩:=h (P:=prog) underlying155 underlying157 1 (.func (.func 97) #[] #[]) az (Zc _) A rfl;obtain⟨G,aK,z,aa⟩:=h (P:=prog) underlying155 underlying157 2 (.func (.func 98) #[] #[]) af (Zc _) O rfl;obtain⟨E,a9,J,ac⟩:=h (P:=prog) underlying155 underlying157 3 (.func (.func 99) #[] #[]) aa (Zc _) z rfl;obtain⟨M,aq,I,ah⟩:=h (P:=prog) underlying155 underlying157 4 (.func (.func 100) #[] #[]) ac (Zc _) J rfl;obtain⟨V,ak,aj,ai⟩:=h (P:=prog) underlying155 underlying157 5 (.func (.func 101) #[] #[]) ah (Zc _) I rfl;obtain⟨w6,ao,U,aw⟩:=h (P:=prog) underlying155 underlying157 6 (.func (.func 102) #[] #[]) ai (Zc _) aj rfl;obtain⟨w7,aH,L,ae⟩:=h (P:=prog) underlying155 underlying157 7 (.func (.func 103) #[] #[]) aw (Zc _) U rfl;have hF:H w7 (ν w) ej:=⟨_,L⟩;clear A O z J I aj U L az af aa ac ah ai aw;go_enter func70,ntmps70;go_wp2_with fail;go_ret;exact⟨rfl,hF,ae⟩
def qB {w mm} (h:H w mm ej):(Instr.lookup 155 (.map (some mm)) (ι 1) true).run prog w= .ok (.tuple #[.func (.func 97) #[] #[],Υ]) w:=
 ZT (j:=0) underlying155 underlying157 h ψ
def tx {w mm} (h:H w mm ej):(Instr.lookup 155 (.map (some mm)) (ι 2) true).run prog w= .ok (.tuple #[.func (.func 98) #[] #[],Υ]) w:=
 ZT (j:=1) underlying155 underlying157 h ψ
def vF {w mm} (h:H w mm ej):(Instr.lookup 155 (.map (some mm)) (ι 3) true).run prog w= .ok (.tuple #[.func (.func 99) #[] #[],Υ]) w:=
 ZT (j:=2) underlying155 underlying157 h ψ
def s2 {w mm} (h:H w mm ej):(Instr.lookup 155 (.map (some mm)) (ι 4) true).run prog w= .ok (.tuple #[.func (.func 100) #[] #[],Υ]) w:=
 ZT (j:=3) underlying155 underlying157 h ψ
def mO {w mm} (h:H w mm ej):(Instr.lookup 155 (.map (some mm)) (ι 6) true).run prog w= .ok (.tuple #[.func (.func 102) #[] #[],Υ]) w:=
 ZT (j:=5) underlying155 underlying157 h ψ
def w3 {w mm} (h:H w mm ej):(Instr.lookup 155 (.map (some mm)) (ι 7) true).run prog w= .ok (.tuple #[.func (.func 103) #[] #[],Υ]) w:=
 ZT (j:=6) underlying155 underlying157 h ψ
end
end Go.Proofs.YtmchabopafimeaaGreatDoor
