import Derived.Test.YtmchabopafimeaaGreatDoorQaw
namespace Go.Proofs.YtmchabopafimeaaGreatDoor
set_option maxRecDepth 100000
set_option maxHeartbeats 16000000
set_option linter.all false
open Go.RowKit Go.Sort Tryz
section
def fL (n:Int):Value:= .iface 221 (.agg #[.int .i64 n])
def h' (n:Int):Ending:= .panicked [{v:=fL n,recovered:=false}]
section
variable {o o':ab} {w w' w1 G:World} {W T c:Nat} {t t':aS} {wm wm' wm1:aH} {L L' Ls Ls' l':List Nat} {p:List Fn} {m m':bW} {es:List a0} {ys:List PX} {x:PX} {pa va:Option Addr} {pc vc:Nat}
def ay.Cm (hA:ay o w T c t (ys ++ [x]) pa va pc vc) (z:Wf o w) (a4:t.parts.dropLast=ys.map PX.m) (hm:x.m= .meet m) (hd:∀k∈aB T (ys ++ [x]),k∉L) (U:J (fun k=>k∈L∨k∈x.ls) o w o' w') (hI:aI o' w' W wm' L') (A:∀k∈L',k∈L∨w.heap.size≤k) (O:c3 o' w' x.b m' l') (hn:∀k∈l',k∈x.ls∨w.heap.size≤k) (H:∀k∈l',k∉L') :
    ∃Ls',ao W T c (bB t (.meet m')) wm' L (aB T (ys ++ [x])) o w o' w' L' Ls':=by
  have ad:=hA.lt;refine yF ?_;intro aZ;have I:aM (fun k=>k∈aB T (ys ++ [x])∧k∉x.ls) o w o' w':=U.et fun k hk hD=>hD.elim (hd k hk.1) hk.2;have h2:=hA.CO I U.size (x':=⟨.meet m',x.b,l'⟩) (show c3 o' w' x.b m' l' from O) (by unfold a';rw[hm]) hn;have ak:J (fun k=>k∈L∨k∈aB T (ys ++ [x])) o w o' w':=U.more z fun k _ h=>h.imp id (aZ k);have M:∀k∈aB T (ys ++ [⟨.meet m',x.b,l'⟩]),k∈aB T (ys ++ [x])∨k∈l':=by
   intro k hk;rcases bC.1 hk with e | ⟨y,hy,e⟩
   ·exact .inl (bC.2 (.inl e))
   ·rcases Zv.1 hy with hy | hy
    ·exact .inl (bC.2 (.inr ⟨y,by simp[hy],e⟩))
    ·rw[List.mem_singleton.1 hy] at e
     exact .inr e
  refine⟨aB T (ys ++ [⟨.meet m',x.b,l'⟩]),ak,hI,⟨ys ++ [⟨.meet m',x.b,l'⟩],pa,va,pc,vc,?_,rfl⟩,A,fun k hk=>?_,fun k hk E=>?_⟩
  ·unfold bB
   rw[a4];exact h2
  ·rcases M k hk with e | e
   ·exact .inl e
   ·exact (hn k e).imp (aZ k) id
  ·rcases M k hk with e | e
   ·rcases A k E with e2 | e2
    ·exact hd k e e2
    ·have:=ad k e;omega
   ·exact H k e E
def pr {th b s} (h:g2 th b wm=some (some (s,wm'))):(0≤th∧th < 1000000∧dt wm [] b=true∧b.wr=[]∧b.nk=[]∧small b.v=true)∧s.at_≠0∧∃own wm1,b3 th [b] [] wm=(.ok own,wm1)∧h9 ⟨none,3,own,0,1,none,0⟩ wm1=(.ok s,wm'):=by
 unfold g2 at h
 split at h
 case isFalse=>cases h
 case isTrue hc=>
 split at h
 case h_2=>split at h <;> cases h
 case h_1 own wm1 hB=>
 split at h
 case h_2=>cases h
 case h_1 s' wm2 hN=>
 split at h
 case isFalse=>cases h
 case isTrue hs=>
 cases h
 exact⟨hc,hs,own,wm1,hB,hN⟩
def xH {th b} (h:g2 th b wm=some none):(0≤th∧th < 1000000∧dt wm [] b=true∧b.wr=[]∧b.nk=[]∧small b.v=true)∧∃wm1,b3 th [b] [] wm=(.error 6,wm1):=by
 unfold g2 at h
 split at h
 case isFalse=>cases h
 case isTrue hc=>
 split at h
 case h_1 own wm1 hB=>
  split at h
  case h_2=>cases h
  case h_1=>split at h <;> cases h
 case h_2 k wm1 hB=>
 split at h
 case isFalse=>cases h
 case isTrue hk=>
 subst hk;exact⟨hc,wm1,hB⟩
def jc {th:Int} {b} (hc:0≤th∧th < 1000000∧dt wm [] b=true∧b.wr=[]∧b.nk=[]∧small b.v=true):c7 b:=⟨hc.2.2.2.2.2,by rw[hc.2.2.2.1];simp,by rw[hc.2.2.2.1];simp,by rw[hc.2.2.2.2.1];simp⟩
def kM {th b wx a a2 cb cc} (z:Wf o w) (hc:0≤th∧th < 1000000∧dt wm [] b=true∧b.wr=[]∧b.nk=[]∧small b.v=true) (hS:aU (bh (Nw (ν w) wx) wx) (Nw (ν w) wx) wx 7 [b] a) (H:1≤cb) (h2:cb≤maxLen) (h3:cc≤maxLen):dR o wx wm th [b] [] a a2 cb cc:=by have hf:∀g,Nw (ν w) wx g→Fz o wx g:=fun g hg=>⟨z.ge hg.1,hg.2⟩;exact⟨hc.1,by unfold ag;omega,hS.et (fun _ _ _=>rfl) hf fun x cs h=>eE _ _ _ _ _ _ h (fun _ _ _=>rfl) hf,Ym _ _ _ _ _,H,h2,Z2 _,h3,by simp[eN],by simp,by simp,by simp[hc.2.2.1],fun M A=>by rw[List.mem_singleton.1 A];exact jc hc⟩
def Bi {p q:Prop} (k:q) (h:Zq q→p:=by
 intro mq;have ax:=O.blk.c 0 rfl;have aO:=O.blk.lt;have aE:=hA.blk.lt;have ak:=hA.blk.c 1 rfl;have aW:c7 bm:=jc ag;have aA:=χ (fun w' (hb:Below (ν w) w w')=>(show w'.cell? (κ T 1)=ι t.num∧w'.cell? (κ x.b 0)=π f from⟨(hb.cell (p:=κ T 1) aE).trans ak,(hb.cell (p:=κ x.b 0) aO).trans ax⟩))
 have bv:=χ (fun M V o5 (hb:Below (ν w) w M) (ht:J (fun k=>k∈L∨k∈([]:List Nat)) o M o5 V)=>(show V.cell? (κ T 1)=ι t.num∧V.cell? (κ x.b 0)=π f from by
   have I:=ht.et (K:=(·∉L)) fun k h e=>e.elim h (fun e=>by cases e);obtain⟨q1,-⟩:=I.blk ((hb.block T aE).trans hA.blk) hA.own (hd T (by simp[aB]));obtain⟨q2,-⟩:=I.blk ((hb.block x.b aO).trans O.blk) O.own (hd x.b (aZ x.b (by rw[aT];simp)))
   exact⟨Zz (w:=V) q1 1 rfl,Zz (w:=V) q2 0 rfl⟩))
 have aR:=χ (fun w1 (hb:Below (ν w) w w1)=>kv (aq w1 hb) aW)
 have bu:=χ (fun w1 (hb:Below (ν w) w w1)=>(show Calls prog 137 #[π f] w1 _ from by
   obtain⟨r,cr,a1,-⟩:=aq w1 hb
   exact mh a1 φ))
 revert ax aO aE ak aW aA bv aR bu
 exact mq.u):p:=h ⟨k⟩
def Bj {p q:Prop} (k:q) (h:Zq q→p:=by
 intro mq;refine bj [(0,true),(1,true),(2,true),(3,true),(4,true),(5,true),(6,true),(7,true),(8,true),(10,true),(11,true),(12,true),(13,true),(9,false),(14,false),(15,false),(16,true),(17,true),(18,true),(19,true),(20,true)] (fun w'=>w'.cell? (κ T 1)=ι t.num∧w'.cell? (κ b 0)=π f) ψ ψ (aA.out _ (af.trans ((Zj _ _).drew.mono af.size))) ?_;have aa:Below (ν w) w w1.drew:=af.trans ((Zj _ _).drew.mono af.size);revert aa
 exact mq.u):p:=h ⟨k⟩
def Bk {p q:Prop} (k:q) (h:Zq q→p:=by
 intro mq;refine pe ?_;have aG:aU (bh (Nw (ν G) M) M) (Nw (ν G) M) M 7 [bm] aQ:=bp.et (fun g hg q=>Y.cell (p:=κ g q) hg.2) (fun g hg=>⟨hg.1,Za hg.2 Y.size⟩) fun x cs h=>eE _ _ _ _ _ _ h (fun g hg q=>Y.cell (p:=κ g q) hg.2) fun g hg=>⟨hg.1,Za hg.2 Y.size⟩;have aD:=a5.out M G aQ ay cb cc aa (a6.trans (Y.mono a6.size)) aG aY bc be;revert aG aD
 exact mq.u):p:=h ⟨k⟩
def BC {p q:Prop} (k:q) (h:Zq q→p:=by
 intro mq;have I:=ht.et (K:=(·∉L)) fun k h e=>e.elim h (fun e=>by cases e);obtain⟨q1,-⟩:=I.blk ((hb.block T aE).trans hA.blk) hA.own (hd T (by simp[aB]));obtain⟨q2,-⟩:=I.blk ((hb.block x.b aO).trans O.blk) O.own (hd x.b (aZ x.b (by rw[aT];simp)));revert I q1 q2
 exact mq.u):p:=h ⟨k⟩
def vg (z:Wf o w) (hI:aI o w W wm L) (U:a7 o w T c t Ls) (hd:∀k∈Ls,k∉L) (next) (h:hr t wm=some (some (t',wm',es))) :
  Calls prog 102 #[π T,π W,ι next] w (b8 W T c t' wm' es L Ls o w):=by
 unfold hr at h;obtain⟨m,hF,h⟩:=Zt.1 h
 split at h
 case isFalse=>cases h
 case isTrue hsy=>
 split at h
 case h_2=>cases h
 case h_1 bm hfo=>
 obtain⟨r,hB,h⟩:=Zs.1 h;cases r with
 | none=>cases h
 | some q=>
 obtain⟨s,bq⟩:=q;injection h with h;injection h with H h;injection h with h2 h3;subst H h2 h3;obtain⟨ag,aV,own,wm1,ai,bx⟩:=pr hB;obtain⟨ys,x,pa,va,pc,vc,f,ps,wa,bi,wc,bf,l,hA,rfl,hm,aT,O,a4,aZ,bo,-⟩:=U.meet z hF;refine zi ?_;intro an a' aw;have aq:∀w1,Below (ν w) w w1→cX o w1 f bm:=fun w1 hb=>by have:=(aw w1 hb).fo;rw[hfo] at this;exact this.2.2
 refine Bi ?_;intro ax aO aE ak aW aA bv aR bu;have a5:=χ (fun wx w1 (a a2:Option Addr) (cb cc:Nat) (hb:Below (ν w) w w1) (hx:Below (ν w1) w1 wx) (hS:aU (bh (Nw (ν w1) wx) wx) (Nw (ν w1) wx) wx 7 [bm] a) (H:1≤cb) (h2:cb≤maxLen) (h3:cc≤maxLen)=>q4 (z.below (hb.trans (hx.mono hb.size))) (hI.below z (hb.trans (hx.mono hb.size))) ag.2.2.2.2.1 (kM (a2:=a2) (cc:=cc) (z.below hb) ag hS H h2 h3) ai bx);have bb:∀(M V:World) (o5:ab),Below (ν w) w M→J (fun k=>k∈L∨k∈([]:List Nat)) o M o5 V→J (·∈L) o w o5 V∧aM (·∉L) o w o5 V∧w.heap.size≤V.heap.size:=fun M V o5 hb ht=>by have aK:=z.below hb;have q1:J (·∈L) o w o5 V:=(Zb z hb).same z (ht.more aK fun k _ e=>e.elim id (fun e=>by cases e));exact⟨q1,q1.et fun _ h=>h,q1.size⟩
 have aJ:∀(M V:World) (o5:ab),Below (ν w) w M→J (fun k=>k∈L∨k∈([]:List Nat)) o M o5 V→bU o5 V x.b m f ps wa bi wc bf l:=fun M V o5 hb ht=>by obtain⟨q1,q2,q3⟩:=bb M V o5 hb ht;have hx:∀k∈x.ls,k∉L:=fun k hk=>hd k (aZ k hk);rw[aT] at hx;exact O.kept q2 q3 (hx _ ξ) (hx _ ξ) fun k hk=>hx k (by simp[hk])
 have bw:=χ aJ
 have a9:=χ (show ∀(M V:World) (o5:ab) (S:Nat) (L' Ls':List Nat),Below (ν w) w M→aX W S s bq L [] o M o5 V L' Ls'→(∃Ls2,ao W T c (bB t (.meet {m with sy:=some s})) bq L (aB T (ys ++ [x])) o w o5 (σ V x.b 1 (π S)) L' Ls2)∧a8 o5 (σ V x.b 1 (π S)) S s Ls'∧Wf o5 (σ V x.b 1 (π S)) from fun M V o5 S L' Ls' hb hS=>by
   obtain⟨s1,s2,s3,s4,s5,s6⟩:=hS;obtain⟨q1,q2,q3⟩:=bb M V o5 hb s1;have Z:=aJ M V o5 hb s1;have aL:=z.BD q1;have ah:=hb.size;have aj:x.b < w.heap.size:=O.blk.lt;have bt:f < w.heap.size:=O.fo.lt;have hn:∀k∈Ls',w.heap.size≤k:=fun k hk=>(s5 k hk).elim (fun e=>by cases e) (fun e=>Zp ah e);have bE:x.b∉L':=fun e=>by
    rcases s4 _ e with e | e
    ·exact hd x.b (aZ x.b (by rw[aT];simp)) e
    ·omega
   have bG:f∉L':=fun e=>by
    rcases s4 _ e with e | e
    ·exact hd f (aZ f (by rw[aT];simp)) e
    ·omega
   have t2:=Z3 (D:=(·=x.b)) aL Z.own rfl 1 (π S);have bg:=t2.et (K:=(·≠x.b)) fun _ h=>h;have aF:∀k∈Ls',k≠x.b:=fun k hk e=>by have:=hn k hk;omega
   have bz:=s3.kept bg t2.size aF;have az:bU o5 (σ V x.b 1 (π S)) x.b {m with sy:=some s} f (some S) wa bi wc bf Ls':=
    ⟨Z.blk.set 1 _,Z.own,Z.fo.kept bg t2.size (fun e=>Z.nf e.symm),Z.val.kept bg t2.size,bz,Z.nf,fun e=>aF _ e rfl,fun e=>by have:=hn f e;omega,Z.wcm⟩
   obtain⟨Ls2,u⟩:=hA.Cm z a4 hm hd (o':=o5) (w':=V.setCell ⟨x.b,1,none⟩ (π S)) (W:=W) (wm':=bq) (L':=L') (m':={m with sy:=some s}) (l':=x.b :: f :: Ls')
    ((q1.more z fun _ _ e=>.inl e).same z (t2.more aL fun k _ e=>.inr (by rw[aT,show k=x.b from e];simp)))
    (s2.kept bg t2.size fun k hk e=>bE (e ▸ hk)) (fun k hk=>(s4 k hk).imp id fun e=>Zp ah e) ⟨f,some S,wa,bi,wc,bf,Ls',az,rfl⟩
    (fun k hk=>by
      simp only[List.mem_cons] at hk;rcases hk with e | e | e
      ·exact .inl (by rw[aT,e];simp)
      ·exact .inl (by rw[aT,e];simp)
      ·exact .inr (hn k e))
    (fun k hk=>by
      simp only[List.mem_cons] at hk;rcases hk with e | e | e
      ·rw[e];exact bE
      ·rw[e];exact bG
      ·exact s6 k e)
   exact⟨⟨Ls2,u⟩,bz,aL.BD t2⟩)
 have a3:=χ aV;have bd:=χ (show ∀(w6 w9:World) (o5:ab) (L' Ls2:List Nat) (g bl:Nat),ao W T c (bB t (.meet {m with sy:=some s})) bq L (aB T (ys ++ [x])) o w o5 w6 L' Ls2→Below (ν w6) w6 w9→A w9 g 88 [ι (4),ι 0,ι t.num,ι s.own,ι 0,ι 0,ι 0,ι 0,ι 0,ζ]→b8 W T c (bB t (.meet {m with sy:=some s})) bq [{cO t 4 with sy:=s.own}] L (aB T (ys ++ [x])) o w (.returned (.slice (Γ g) 1 bl)) w9 from fun w6 w9 o5 L' Ls2 g bl hS hb hk=>b8.told z hS hb hk (e6 _ _) bl);clear ak ax aW hA O aw hm hF hfo aq hB hI hd aT a4 aZ z ag a' aV ai bx bo hsy h bb aJ;generalize x.b=b at *;go_enter func102,ntmps102;go_upto_region 2 with (go_at_call 111;refine δ an ?_;intro w1 af);refine Bj ?_;intro aa;generalize w1.drew=G at *;iterate 13 (refine wpC_t ?_;refine pe ?_)
 refine xP ?_;intro K I;go_at_call 141;refine (aR.out G aa).mono ?_;rintro e E ⟨aQ,cb,rfl,a6,bp,aY,bc⟩;dsimp only[List.length_cons,List.length_nil,Nat.reduceAdd] at aY ⊢;have ac:=aa.trans (a6.mono aa.size);refine I _ _ _ Φ (fun _=>aA.out _ ac) ?_;clear I K;refine pe ?_;refine xP ?_;intro K I;go_at_call 137;refine (bu.out E ac).mono ?_;rintro e M ⟨ay,cc,rfl,be,Y⟩;have ah:=ac.trans (Y.mono ac.size);refine I _ _ _ Φ (fun _=>aA.out _ ah) ?_;clear I K;refine Bk ?_;intro aG aD;refine xP ?_;intro K I;go_at_call 140;refine aD.mono ?_;rintro e V ⟨o5,S,L',Ls',aC,rfl⟩;refine I _ _ _ Φ (fun _=>bv.out M V o5 ah aC.1) ?_;clear I K;refine yf ?_;refine pe ?_;have k5:=bw.out M V o5 ah aC.1;have bA:=k5.blk;obtain⟨-,-,bI,bF,-⟩:=kb1 bA;obtain⟨⟨Ls2,ap⟩,bC,aP⟩:=a9.out M V o5 S L' Ls' ah aC;clear k5 bA aC bp aG aD;go_upto_region 7 with (go_at_call 129;refine γ (c8 V) ?_);clear bI bF;generalize (σ V b 1 (π S):World)=w6 at *;have ad:Calls prog 108 #[π T,ι 4] w6 (ϑ (.agg #[ι (4),ι 0,ι t.num,ι 0,ι 0,ι 0,ι 0,ι 0,ι 0,ζ]) w6):=i3 ap.2.2.1 4;have H6:=χ ap
 have b9:=χ (fun w8 (hb:Below (ν w6) w6 w8)=>(show Calls prog 114 #[π S] w8 fun e w'=>e= .returned (ι s.own)∧w8=w' from by
   obtain⟨_,_,_,_,_,_,_,_,bD,-⟩:=bC.kept (kB aP hb) hb.size fun _ _=>Zk
   exact j7 bD a3.out))
 clear ap bC;go_wp2_with first
  | (go_at_call 108;refine δ ad ?_;intro w7 ae)
  | (go_at_call 114;refine (b9.out _ (ae.trans ((am w7 _).mono ae.size))).mono ?_;rintro e w8 ⟨rfl,rfl⟩)
 go_ret;obtain⟨u1,u2⟩:=jQ w7 [ι (4),ι 0,ι t.num,ι s.own,ι 0,ι 0,ι 0,ι 0,ι 0,ζ] [ι (4),ι 0,ι t.num,ι s.own,ι 0,ι 0,ι 0,ι 0,ι 0,ζ] 88;exact bd.out w6 _ o5 L' Ls2 _ _ H6.out (ae.trans (u1.mono ae.size)) u2
def f8 (L Ls:List Nat) (o:ab) (w:World) (e:Ending) (w':World):Prop:=e=h' 6∧∃o',J (fun k=>k∈L∨k∈Ls) o w o' w'
def J.more' {D D'} (h:J D o w o' w') (hD:∀k,D k→D' k):J D' o w o' w':=
 ⟨h.fr.more fun _ _ ⟨k,e,hd⟩=>⟨k,e,hD k hd⟩,fun b hb=>(h.old b hb).imp id fun⟨e,k,e2,hd⟩=>⟨e,k,e2,hD k hd⟩,fun _ k hb hk=>⟨(h.new _ k hb hk).1,(h.new _ k hb hk).2.1,(h.new _ k hb hk).2.2.imp (hD k) id⟩⟩
def xa (z:Wf o w) (hI:aI o w W wm L) (U:a7 o w T c t Ls) (hd:∀k∈Ls,k∉L) (next) (h:hr t wm=some none) :
  Calls prog 102 #[π T,π W,ι next] w (f8 L Ls o w):=by
 unfold hr at h;obtain⟨m,hF,h⟩:=Zt.1 h
 split at h
 case isFalse=>cases h
 case isTrue hsy=>
 split at h
 case h_2=>cases h
 case h_1 bm hfo=>
 obtain⟨r,hB,h⟩:=Zs.1 h;cases r with
 | some q=>cases h
 | none=>
 obtain⟨ag,wm1,ai⟩:=xH hB;obtain⟨ys,x,pa,va,pc,vc,f,ps,wa,bi,wc,bf,l,hA,rfl,hm,aT,O,a4,aZ,bo,-⟩:=U.meet z hF;refine zi ?_;intro an a' aw;have aq:∀w1,Below (ν w) w w1→cX o w1 f bm:=fun w1 hb=>by have:=(aw w1 hb).fo;rw[hfo] at this;exact this.2.2
 refine Bi ?_;intro ax aO aE ak aW aA bv aR bu;have a5:=χ (fun wx w1 (a a2:Option Addr) (cb cc:Nat) (hb:Below (ν w) w w1) (hx:Below (ν w1) w1 wx) (hS:aU (bh (Nw (ν w1) wx) wx) (Nw (ν w1) wx) wx 7 [bm] a) (H:1≤cb) (h2:cb≤maxLen) (h3:cc≤maxLen)=>vY (z.below (hb.trans (hx.mono hb.size))) (hI.below z (hb.trans (hx.mono hb.size))) (kM (a2:=a2) (cc:=cc) (z.below hb) ag hS H h2 h3) ai φ);have bd:=χ (show ∀(M V:World) (o5:ab),Below (ν w) w M→J (·∈L) o M o5 V→f8 L (aB T (ys ++ [x])) o w (h' 6) V from fun M V o5 hb ht=>⟨rfl,o5,(Zb z hb).same z (ht.more (z.below hb) fun _ _ e=>.inl e)⟩);clear ak ax aW hA O aw hm hF hfo aq hB hI hd aT a4 aZ z ag a' ai bo hsy h;generalize x.b=b at *;go_enter func102,ntmps102;go_upto_region 2 with (go_at_call 111;refine δ an ?_;intro w1 af);refine Bj ?_;intro aa;generalize w1.drew=G at *;iterate 13 (refine wpC_t ?_;refine pe ?_)
 refine xP ?_;intro K I;go_at_call 141;refine (aR.out G aa).mono ?_;rintro e E ⟨aQ,cb,rfl,a6,bp,aY,bc⟩;dsimp only[List.length_cons,List.length_nil,Nat.reduceAdd] at aY ⊢;have ac:=aa.trans (a6.mono aa.size);refine I _ _ _ Φ (fun _=>aA.out _ ac) ?_;clear I K;refine pe ?_;refine xP ?_;intro K I;go_at_call 137;refine (bu.out E ac).mono ?_;rintro e M ⟨ay,cc,rfl,be,Y⟩;have ah:=ac.trans (Y.mono ac.size);refine I _ _ _ Φ (fun _=>aA.out _ ah) ?_;clear I K;refine Bk ?_;intro aG aD;refine xP ?_;intro K I;go_at_call 140;refine aD.mono ?_;rintro e V ⟨o5,Z,-,rfl⟩;refine I _ _ _ Φ (fun _=>bv.out M V o5 ah (Z.more' fun _ e=>.inl e)) ?_;clear I K;refine yf ?_;refine pe ?_;clear bp aG aD;go_wp2_with fail;exact⟨rfl,bd.out M V o5 ah Z⟩
end
end
section
section
variable {o o' o1 o2:ab} {w w' w1 G:World} {W c:Nat} {t:aS} {wm wm' wm1:aH} {L:List Nat} {p:List Fn}
def pc {s e} (h:fE wm s=some e):(∀x∈wm.sys,bK x)∧∃x b wm',az s wm=(.ok x,wm')∧(∃k:Nat,x.br=k∧x.bases[k]? =some b)∧((b.kd=5∧e=⟨5,0,x.th,s,x.br,x.pa,b.n,b.v⟩)∨(b.kd=6∧e=⟨5,0,x.th,s,x.br,x.pa,b.n,x.v⟩)):=by
 unfold fE at h
 split at h
 case h_2=>cases h
 case h_1 u wm1 hg=>
 split at h
 case h_2=>cases h
 case h_1 x wm2 hs=>
 split at h
 case isFalse=>cases h
 case isTrue hbr=>
 split at h
 case h_2=>cases h
 case h_1 b hb=>
 refine⟨(eT hg).1,x,b,wm2,hs,⟨x.br.toNat,ω,hb⟩,?_⟩
 split at h
 case isTrue h5=>cases h;exact .inl ⟨h5,rfl⟩
 case isFalse=>
  split at h
  case isTrue h6=>cases h;exact .inr ⟨h6,rfl⟩
  case isFalse=>cases h
def r' (O:a0) (o:ab) (w:World) (e:Ending) (w':World):Prop:=∃o' a c,J (fun _=>False) o w o' w'∧e= .returned (.agg (dI O a c).toArray)∧aG (Fz o' w') w' O.v (.agg #[.int .i64 O.v.kd,.int .i64 O.v.n,.slice a O.v.l.length c])
def kX (z:Wf o w) (hI:aI o w W wm L) {s O} (h:fE wm s=some O):Calls prog 144 #[π W,ι s] w (r' O o w):=by
 obtain⟨a5,x,b,wm',hs,⟨k,hk,hb⟩,ag⟩:=pc h;have ak:=ZJ z (.cells #[ι 0,ι 0,ι 0,ι 0,ι 0,ι 0,ι 0,ι 0,ι 0,ζ] 88);have Y:=Zh w 88 [ι 0,ι 0,ι 0,ι 0,ι 0,ι 0,ι 0,ι 0,ι 0,ζ];refine yo ?_;intro af;have aJ:=hI.kept (ak.kp) ak.size fun _ _=>Zk;generalize o.set (ν w) (some w.heap.size)=o1 at *;obtain⟨w1,aP⟩:∃u,w.alloc (.cells #[ι 0,ι 0,ι 0,ι 0,ι 0,ι 0,ι 0,ι 0,ι 0,ζ] 88)=u:=⟨_,rfl⟩;rw[aP] at ak Y aJ;have ae:=z.BD ak;have aK:=(e7 ae aJ a5 hs).2;have aC:k < x.bases.length:=(Ze.1 hb).1;have aT:=Y.lt;have HI:=χ (Zf ak (Zf af Y));have HW:=χ (Zf z ae);have aU:=χ ag;have HB:=χ hb;clear hI aJ a5 hs h hb ag ak af Y z ae;go_enter func144,ntmps144;go_upto_region 2 with (go_at_call 113;refine aK.mono ?_;rintro e G ⟨o2,aq,cs,rfl,hC⟩;obtain⟨aQ,ay,av,cb,cc,cv,rfl,hCC⟩:=id hC);obtain⟨az,-,aV,-,-,hbr,-,aN,bY,-,-⟩:=hCC;obtain⟨z,ae⟩:=HW.out;have ap:=ae.BD aq;obtain⟨g,U,bs,rfl,hg,-,a6,aB⟩:=az k b HB.out;obtain⟨au,aD,an,cu,cw,cn,rfl,aO,-⟩:=aB;have b3:=am G (.cells #[ι x.th,.slice (some ⟨g,U,none⟩) x.bases.length cb,.slice ay x.conds.length cc,ι x.fl,.bool x.parked,.bool x.done,ι (k:Nat),ι x.v.kd,ι x.v.n,.slice av x.v.l.length cv,ι x.pa] 126);have k3:=Zh G 126 [ι x.th,.slice (some ⟨g,U,none⟩) x.bases.length cb,.slice ay x.conds.length cc,ι x.fl,.bool x.parked,.bool x.done,ι (k:Nat),ι x.v.kd,ι x.v.n,.slice av x.v.l.length cv,ι x.pa]
 generalize G.alloc (.cells #[ι x.th,.slice (some ⟨g,U,none⟩) x.bases.length cb,.slice ay x.conds.length cc,ι x.fl,.bool x.parked,.bool x.done,ι (k:Nat),ι x.v.kd,ι x.v.n,.slice av x.v.l.length cv,ι x.pa] 126)=E at *;obtain⟨c0,c1,-,-,-,-,c6,c7,c8,c9,a4,-⟩:=kc10 k3;go_upto_region 3 with fail;have b4:=am E (.cells #[ι 5,ι 0,ι x.th,ι s,ι (k:Nat),ι x.pa,ι 0,ι 0,ι 0,ζ] 88);have k4:=Zh E 88 [ι 5,ι 0,ι x.th,ι s,ι (k:Nat),ι x.pa,ι 0,ι 0,ι 0,ζ];have ax:=k3.alloc (.cells #[ι 5,ι 0,ι x.th,ι s,ι (k:Nat),ι x.pa,ι 0,ι 0,ι 0,ζ] 88);have H:=b3.trans (b4.mono b3.size);clear c0 c1 c6 c7 c8 c9 a4;generalize E.alloc (.cells #[ι 5,ι 0,ι x.th,ι s,ι (k:Nat),ι x.pa,ι 0,ι 0,ι 0,ζ] 88)=M at *;obtain⟨c0,c1,-,-,-,-,c6,c7,c8,c9,a4,-⟩:=kc10 ax;have ai:g < G.heap.size:=hg.2;have e0:=(H.cell (p:=κ g (U+k*7)) ai).trans (a6 0 ω);have e1:=(H.cell (p:=κ g (U+k*7+1)) ai).trans (a6 1 ω);have e2:=(H.cell (p:=κ g (U+k*7+2)) ai).trans (a6 2 ω);have e3:=(H.cell (p:=κ g (U+k*7+3)) ai).trans (a6 3 ω);have e4:=(H.cell (p:=κ g (U+k*7+4)) ai).trans (a6 4 ω);have e5:=(H.cell (p:=κ g (U+k*7+5)) ai).trans (a6 5 ω);have e6:=(H.cell (p:=κ g (U+k*7+6)) ai).trans (a6 6 ω);have aj:decide (x.bases.length≤k)=false:=Zn ω;go_upto_region 6 with fail;have I:=am M (.cells #[ι b.kd,ι b.n,ι b.v.kd,ι b.v.n,.slice au b.v.l.length cu,.slice aD b.wr.length cw,.slice an b.nk.length cn] 194);have k5:=Zh M 194 [ι b.kd,ι b.n,ι b.v.kd,ι b.v.n,.slice au b.v.l.length cu,.slice aD b.wr.length cw,.slice an b.nk.length cn]
 have ad:=ax.alloc (ρ b au cu aD cw an cn);have ac:=k4.alloc (ρ b au cu aD cw an cn);have aF:=H.trans (I.mono H.size);clear c0 c1 c6 c7 c8 c9 a4 e0 e1 e2 e3 e4 e5 e6;generalize M.alloc (ρ b au cu aD cw an cn)=V at *;obtain⟨ak,af,Y⟩:=HI.out;obtain⟨aw,ao⟩:=(aq.kp).blk Y af trivial;have aa:=(aF.block (ν w) aw.lt).trans aw;obtain⟨e0,e1,e2,e3,e4,e5,e6,-⟩:=kc6 k5;obtain⟨c0,c1,-,-,-,-,c6,c7,c8,c9,a4,-⟩:=kc10 ad;obtain⟨d0,-,d1,-,d2,-,d3,-,d4,-,d5,-,d6,g6,d7,g7,d8,g8,d9,g9,-⟩:=kb9 ac;obtain⟨r0,s0,r1,s1,r2,s2,r3,s3,r4,s4,r5,s5,r6,s6,r7,s7,r8,s8,r9,s9,-⟩:=kb9 aa;have bc:¬E.heap.size=w.heap.size:=by have:=ak.size;have:=aq.size;have:=b3.size;have:=Y.lt;omega
 have aR:¬w.heap.size=E.heap.size:=fun e=>bc e.symm;have aY:=Y.lt;have bj:w.heap.size < V.heap.size:=Za aw.lt aF.size;have Z:G.heap.size≤E.heap.size:=b3.size
 have aL:=χ (fun (w6 w7 w8:World) (q1:Fr (·=E.heap.size) V w6) (q2:w7.heap=w6.heap∧w7.tape=w6.tape∧w7.output=w6.output∧w7.os=w6.os) (q3:Fr (·=w.heap.size) w7 w8)=>(show J Θ o w o2 w8∧∀t v,aG (Fz o2 G) G t v→aG (Fz o2 w8) w8 t v from by
   have q7:Fr (·=E.heap.size) V w7:=⟨q2.2.2.2.trans q1.os,q2.2.1.trans q1.tape,q2.2.2.1.trans q1.output,by rw[q2.1];exact q1.size,fun b hb hS=>by rw[q2.1];exact q1.block b hb hS⟩;have aX:Below (ν G) G w7:=aF.trans (q7.toBelow (ν G) (fun k hk e=>by omega) aF.size);obtain⟨u1,u2,u3⟩:=fq z ak (aq.same ae (Zb ap aX)) aY af (Zc _) q3
   exact⟨u1,fun t v hv=>(hv.kept (kB ap aX) aX.size).kept u2 u3⟩))
 rcases aU.out with ⟨h5,rfl⟩ | ⟨h6,rfl⟩
 ·have ah:(b.kd == 5)=true:=by simp[h5]
  have HK:=χ (Zf ac aa);have HV:=χ aO;clear h5 Y aw aa k5 ad ac ax k4 k3 b3 b4 af ao ak a6 aV aO aP z ae ap aY;go_upto_region 8 with fail;go_region;have aA:Fr (·=E.heap.size) V (σ (σ (σ (σ V (ν E) 6 (ι b.n)) (ν E) 7 (ι b.v.kd)) (ν E) 8 (ι b.v.n)) (ν E) 9 (.slice au b.v.l.length cu)):=aE (S:=(·=E.heap.size)) rfl 0 [(6,ι b.n),(7,ι b.v.kd),(8,ι b.v.n),(9,.slice au b.v.l.length cu)] V;have k6:A (σ (σ (σ (σ V (ν E) 6 (ι b.n)) (ν E) 7 (ι b.v.kd)) (ν E) 8 (ι b.v.n)) (ν E) 9 (.slice au b.v.l.length cu):World).drew (ν E) 88 [ι 5,ι 0,ι x.th,ι s,ι (k:Nat),ι x.pa,ι b.n,ι b.v.kd,ι b.v.n,.slice au b.v.l.length cu]:=(((HK.out.1.set 6 _).set 7 _).set 8 _).set 9 _;have kr:A (σ (σ (σ (σ V (ν E) 6 (ι b.n)) (ν E) 7 (ι b.v.kd)) (ν E) 8 (ι b.v.n)) (ν E) 9 (.slice au b.v.l.length cu):World).drew (ν w) 88 [ι 0,ι 0,ι 0,ι 0,ι 0,ι 0,ι 0,ι 0,ι 0,ζ]:=(aA.block (ν w) bj aR).trans HK.out.2
  have hD:(σ (σ (σ (σ V (ν E) 6 (ι b.n)) (ν E) 7 (ι b.v.kd)) (ν E) 8 (ι b.v.n)) (ν E) 9 (.slice au b.v.l.length cu):World).drew.heap=(σ (σ (σ (σ V (ν E) 6 (ι b.n)) (ν E) 7 (ι b.v.kd)) (ν E) 8 (ι b.v.n)) (ν E) 9 (.slice au b.v.l.length cu):World).heap∧(σ (σ (σ (σ V (ν E) 6 (ι b.n)) (ν E) 7 (ι b.v.kd)) (ν E) 8 (ι b.v.n)) (ν E) 9 (.slice au b.v.l.length cu):World).drew.tape=(σ (σ (σ (σ V (ν E) 6 (ι b.n)) (ν E) 7 (ι b.v.kd)) (ν E) 8 (ι b.v.n)) (ν E) 9 (.slice au b.v.l.length cu):World).tape∧(σ (σ (σ (σ V (ν E) 6 (ι b.n)) (ν E) 7 (ι b.v.kd)) (ν E) 8 (ι b.v.n)) (ν E) 9 (.slice au b.v.l.length cu):World).drew.output=(σ (σ (σ (σ V (ν E) 6 (ι b.n)) (ν E) 7 (ι b.v.kd)) (ν E) 8 (ι b.v.n)) (ν E) 9 (.slice au b.v.l.length cu):World).output∧(σ (σ (σ (σ V (ν E) 6 (ι b.n)) (ν E) 7 (ι b.v.kd)) (ν E) 8 (ι b.v.n)) (ν E) 9 (.slice au b.v.l.length cu):World).drew.os=(σ (σ (σ (σ V (ν E) 6 (ι b.n)) (ν E) 7 (ι b.v.kd)) (ν E) 8 (ι b.v.n)) (ν E) 9 (.slice au b.v.l.length cu):World).os:=⟨rfl,rfl,rfl,rfl⟩;have HB:=χ (fun w8=>aL.out (σ (σ (σ (σ V (ν E) 6 (ι b.n)) (ν E) 7 (ι b.v.kd)) (ν E) 8 (ι b.v.n)) (ν E) 9 (.slice au b.v.l.length cu)) (σ (σ (σ (σ V (ν E) 6 (ι b.n)) (ν E) 7 (ι b.v.kd)) (ν E) 8 (ι b.v.n)) (ν E) 9 (.slice au b.v.l.length cu):World).drew w8 aA hD);clear d0 r0 s0 d1 r1 s1 d2 r2 s2 d3 r3 s3 d4 r4 s4 d5 r5 s5 d6 g6 r6 s6 d7 g7 r7 s7 d8 g8 r8 s8 d9 g9 r9 s9 c0 c1 c6 c7 c8 c9 a4 e0 e1 e2 e3 e4 e5 e6 aA hD
  generalize (σ (σ (σ (σ V (ν E) 6 (ι b.n)) (ν E) 7 (ι b.v.kd)) (ν E) 8 (ι b.v.n)) (ν E) 9 (.slice au b.v.l.length cu):World).drew=w7 at *;obtain⟨d0,d1,d2,d3,d4,d5,d6,d7,d8,d9,-⟩:=kc9 k6;obtain⟨r0,s0,r1,s1,r2,s2,r3,s3,r4,s4,r5,s5,r6,s6,r7,s7,r8,s8,r9,s9,-⟩:=kb9 kr;have aM:=χ kr;clear k6 kr;go_wp2_with fail;have hp:A (σ10 w7 (ν w) (ι 5) (ι 0) (ι x.th) (ι s) (ι (k:Nat)) (ι x.pa) (ι b.n) (ι b.v.kd) (ι b.v.n) (.slice au b.v.l.length cu)) (ν w) 88 [ι 5,ι 0,ι x.th,ι s,ι (k:Nat),ι x.pa,ι b.n,ι b.v.kd,ι b.v.n,.slice au b.v.l.length cu]:=aW [(0,ι 5),(1,ι 0),(2,ι x.th),(3,ι s),(4,ι (k:Nat)),(5,ι x.pa),(6,ι b.n),(7,ι b.v.kd),(8,ι b.v.n),(9,.slice au b.v.l.length cu)] w7 _ aM.out;obtain⟨u1,u2⟩:=HB.out (σ10 w7 (ν w) (ι 5) (ι 0) (ι x.th) (ι s) (ι (k:Nat)) (ι x.pa) (ι b.n) (ι b.v.kd) (ι b.v.n) (.slice au b.v.l.length cu)) (aE (S:=(·=w.heap.size)) rfl 0 [(0,ι 5),(1,ι 0),(2,ι x.th),(3,ι s),(4,ι (k:Nat)),(5,ι x.pa),(6,ι b.n),(7,ι b.v.kd),(8,ι b.v.n),(9,.slice au b.v.l.length cu)] w7);exact Zl (v:= .agg #[ι 5,ι 0,ι x.th,ι s,ι (k:Nat),ι x.pa,ι b.n,ι b.v.kd,ι b.v.n,.slice au b.v.l.length cu]) (by simp[results,results144,go_sem,hp.c 0 rfl,hp.c 1 rfl,hp.c 2 rfl,hp.c 3 rfl,hp.c 4 rfl,hp.c 5 rfl,hp.c 6 rfl,hp.c 7 rfl,hp.c 8 rfl,hp.c 9 rfl]) rfl ⟨o2,au,cu,u1,rfl,u2 _ _ HV.out⟩
 ·have ah:(b.kd == 5)=false:=by simp[h6]
  have aZ:(b.kd == 6)=true:=by simp[h6]
  have HK:=χ (Zf ac aa);have HV:=χ aV;clear h6 Y aw aa k5 ad ac ax k4 k3 b3 b4 af ao ak a6 aV aO aP z ae ap aY;go_upto_region 10 with fail;go_region;have aA:Fr (·=E.heap.size) V (σ (σ (σ (σ V (ν E) 6 (ι b.n)) (ν E) 7 (ι x.v.kd)) (ν E) 8 (ι x.v.n)) (ν E) 9 (.slice av x.v.l.length cv)):=aE (S:=(·=E.heap.size)) rfl 0 [(6,ι b.n),(7,ι x.v.kd),(8,ι x.v.n),(9,.slice av x.v.l.length cv)] V;have k6:A (σ (σ (σ (σ V (ν E) 6 (ι b.n)) (ν E) 7 (ι x.v.kd)) (ν E) 8 (ι x.v.n)) (ν E) 9 (.slice av x.v.l.length cv):World).drew (ν E) 88 [ι 5,ι 0,ι x.th,ι s,ι (k:Nat),ι x.pa,ι b.n,ι x.v.kd,ι x.v.n,.slice av x.v.l.length cv]:=(((HK.out.1.set 6 _).set 7 _).set 8 _).set 9 _;have kr:A (σ (σ (σ (σ V (ν E) 6 (ι b.n)) (ν E) 7 (ι x.v.kd)) (ν E) 8 (ι x.v.n)) (ν E) 9 (.slice av x.v.l.length cv):World).drew (ν w) 88 [ι 0,ι 0,ι 0,ι 0,ι 0,ι 0,ι 0,ι 0,ι 0,ζ]:=(aA.block (ν w) bj aR).trans HK.out.2
  have hD:(σ (σ (σ (σ V (ν E) 6 (ι b.n)) (ν E) 7 (ι x.v.kd)) (ν E) 8 (ι x.v.n)) (ν E) 9 (.slice av x.v.l.length cv):World).drew.heap=(σ (σ (σ (σ V (ν E) 6 (ι b.n)) (ν E) 7 (ι x.v.kd)) (ν E) 8 (ι x.v.n)) (ν E) 9 (.slice av x.v.l.length cv):World).heap∧(σ (σ (σ (σ V (ν E) 6 (ι b.n)) (ν E) 7 (ι x.v.kd)) (ν E) 8 (ι x.v.n)) (ν E) 9 (.slice av x.v.l.length cv):World).drew.tape=(σ (σ (σ (σ V (ν E) 6 (ι b.n)) (ν E) 7 (ι x.v.kd)) (ν E) 8 (ι x.v.n)) (ν E) 9 (.slice av x.v.l.length cv):World).tape∧(σ (σ (σ (σ V (ν E) 6 (ι b.n)) (ν E) 7 (ι x.v.kd)) (ν E) 8 (ι x.v.n)) (ν E) 9 (.slice av x.v.l.length cv):World).drew.output=(σ (σ (σ (σ V (ν E) 6 (ι b.n)) (ν E) 7 (ι x.v.kd)) (ν E) 8 (ι x.v.n)) (ν E) 9 (.slice av x.v.l.length cv):World).output∧(σ (σ (σ (σ V (ν E) 6 (ι b.n)) (ν E) 7 (ι x.v.kd)) (ν E) 8 (ι x.v.n)) (ν E) 9 (.slice av x.v.l.length cv):World).drew.os=(σ (σ (σ (σ V (ν E) 6 (ι b.n)) (ν E) 7 (ι x.v.kd)) (ν E) 8 (ι x.v.n)) (ν E) 9 (.slice av x.v.l.length cv):World).os:=⟨rfl,rfl,rfl,rfl⟩;have HB:=χ (fun w8=>aL.out (σ (σ (σ (σ V (ν E) 6 (ι b.n)) (ν E) 7 (ι x.v.kd)) (ν E) 8 (ι x.v.n)) (ν E) 9 (.slice av x.v.l.length cv)) (σ (σ (σ (σ V (ν E) 6 (ι b.n)) (ν E) 7 (ι x.v.kd)) (ν E) 8 (ι x.v.n)) (ν E) 9 (.slice av x.v.l.length cv):World).drew w8 aA hD);clear d0 r0 s0 d1 r1 s1 d2 r2 s2 d3 r3 s3 d4 r4 s4 d5 r5 s5 d6 g6 r6 s6 d7 g7 r7 s7 d8 g8 r8 s8 d9 g9 r9 s9 c0 c1 c6 c7 c8 c9 a4 e0 e1 e2 e3 e4 e5 e6 aA hD
  generalize (σ (σ (σ (σ V (ν E) 6 (ι b.n)) (ν E) 7 (ι x.v.kd)) (ν E) 8 (ι x.v.n)) (ν E) 9 (.slice av x.v.l.length cv):World).drew=w7 at *;obtain⟨d0,d1,d2,d3,d4,d5,d6,d7,d8,d9,-⟩:=kc9 k6;obtain⟨r0,s0,r1,s1,r2,s2,r3,s3,r4,s4,r5,s5,r6,s6,r7,s7,r8,s8,r9,s9,-⟩:=kb9 kr;have aM:=χ kr;clear k6 kr;go_wp2_with fail;have hp:A (σ10 w7 (ν w) (ι 5) (ι 0) (ι x.th) (ι s) (ι (k:Nat)) (ι x.pa) (ι b.n) (ι x.v.kd) (ι x.v.n) (.slice av x.v.l.length cv)) (ν w) 88 [ι 5,ι 0,ι x.th,ι s,ι (k:Nat),ι x.pa,ι b.n,ι x.v.kd,ι x.v.n,.slice av x.v.l.length cv]:=aW [(0,ι 5),(1,ι 0),(2,ι x.th),(3,ι s),(4,ι (k:Nat)),(5,ι x.pa),(6,ι b.n),(7,ι x.v.kd),(8,ι x.v.n),(9,.slice av x.v.l.length cv)] w7 _ aM.out;obtain⟨u1,u2⟩:=HB.out (σ10 w7 (ν w) (ι 5) (ι 0) (ι x.th) (ι s) (ι (k:Nat)) (ι x.pa) (ι b.n) (ι x.v.kd) (ι x.v.n) (.slice av x.v.l.length cv)) (aE (S:=(·=w.heap.size)) rfl 0 [(0,ι 5),(1,ι 0),(2,ι x.th),(3,ι s),(4,ι (k:Nat)),(5,ι x.pa),(6,ι b.n),(7,ι x.v.kd),(8,ι x.v.n),(9,.slice av x.v.l.length cv)] w7);exact Zl (v:= .agg #[ι 5,ι 0,ι x.th,ι s,ι (k:Nat),ι x.pa,ι b.n,ι x.v.kd,ι x.v.n,.slice av x.v.l.length cv]) (by simp[results,results144,go_sem,hp.c 0 rfl,hp.c 1 rfl,hp.c 2 rfl,hp.c 3 rfl,hp.c 4 rfl,hp.c 5 rfl,hp.c 6 rfl,hp.c 7 rfl,hp.c 8 rfl,hp.c 9 rfl]) rfl ⟨o2,av,cv,u1,rfl,u2 _ _ HV.out⟩
end
end
section
section
variable {o o1 o2:ab} {w w1 G:World} {W T c:Nat} {t t' t1:aS} {wm wm' wm1:aH} {L L' L1 Ls Ls' Ls1 l':List Nat} {p:List Fn} {m m':bW} {es:List a0}
def ao.still (z:Wf o w) (h:ao W T c t1 wm1 L Ls o w o1 w1 L1 Ls1) (U:J Θ o1 w1 o2 G):ao W T c t1 wm1 L Ls o w o2 G L1 Ls1:=by obtain⟨q1,q2,q3,q4,q5,q6⟩:=h;have I:=U.kp;exact⟨q1.same z (U.more' fun _ e=>e.elim),q2.kept I U.size fun _ _=>Zk,q3.kept I U.size fun _ _=>Zk,q4,q5,q6⟩
def aQ.BP {an sz g cs} (h:A w g an cs) (n) (hn:cs.length=n*sz) (hm:n≤maxLen):aQ w an sz (.slice (Γ g) n n) n cs:=
 ⟨hn,.inr ⟨g,n,cs.toArray,rfl,h,Zc _,hm,by simp[hn],by simp[←hn]⟩⟩
def aQ.sl {α:Type} {P an sz n a cap xs} {l:List α} (h0:0 < sz) (h:aQ w an sz (.slice a n cap) n xs) (hr:aD P sz l xs):aU P (ο w) w sz l a:=by obtain⟨a',aA,e,-,-,aE⟩:=h.form;injection e with e1 _ _;subst e1;intro j x hx;obtain⟨cs,q1,q2,q3⟩:=hr.at_ hx;have hb:=dH (sz:=sz) (Ze.1 hx).1;rw[←hr.1] at hb;obtain⟨u,hu⟩:∃u,xs[j*sz]? =some u:=⟨_,Zg ω⟩;obtain⟨g,rfl,hg,-⟩:=aE _ _ hu;refine⟨g,0,cs,rfl,hg,q1,fun i hi=>?_,q2⟩;obtain⟨u',z⟩:∃u',xs[j*sz+i]? =some u':=⟨_,Zg ω⟩;obtain⟨g',e',-,hc,-⟩:=aE _ _ z;injection e' with e';injection e' with e';subst e';rw[Nat.zero_add,hc,←q3 i hi,z]
def pY {mv} (h:jj mv wm=some es):(mv.kind=3∧0≤mv.partner∧∃a b,fE wm mv.sync=some a∧fE wm mv.partner=some b∧es=[a,b])∨(mv.kind≠3∧mv.kind≠4∧es=[]):=by
 unfold jj at h
 split at h
 case isTrue h3=>
  obtain⟨a,ha,h⟩:=Zt.1 h
  split at h
  case isTrue hp=>obtain⟨b,hb,h⟩:=Zs.1 h;exact .inl ⟨h3,hp,a,b,ha,hb,h.symm⟩
  case isFalse=>cases h
 case isFalse h3=>
  split at h
  case isTrue=>cases h
  case isFalse h4=>cases h;exact .inr ⟨h3,h4,rfl⟩
def ry (mv w):Calls prog 142 #[aj mv,ι 0] w (ϑ (aj mv) w):=by
 refine A' ?_;intro w1 aP G aB z1 b1;have b3:Below (ν w) w G:=by rw[←aB];exact b1.alloc b1.size _
 have O:A w1 (ν w) 273 [ι mv.kind,ι mv.sync,ι mv.partner,ι mv.cond]:=by rw[←aP];exact Zh w _ _
 replace O:A G (ν w) 273 [ι mv.kind,ι mv.sync,ι mv.partner,ι mv.cond]:=by rw[←aB];exact O.alloc _
 have Z:A G (η w) 273 [ι 0,ι 0,ι 0,ι 0]:=by rw[←aB,←z1];exact Zh w1 _ _
 obtain⟨c0,c1,c2,c3,-⟩:=kc3 O;obtain⟨d0,f0,d1,f1,d2,f2,d3,f3,-⟩:=kb3 Z;go_enter func142,ntmps142;go_wp2_with fail;have aZ:A (σ4 G (η w) (ι mv.kind) (ι mv.sync) (ι mv.partner) (ι mv.cond)) (η w) 273 [ι mv.kind,ι mv.sync,ι mv.partner,ι mv.cond]:=(((Z.set 0 _).set 1 _).set 2 _).set 3 _;have aT:Below (ν w) w (σ4 G (η w) (ι mv.kind) (ι mv.sync) (ι mv.partner) (ι mv.cond)):=(((b3.setCell (p:=κ (η w) 0) (Yf _) _).setCell (p:=κ (η w) 1) (Yf _) _).setCell (p:=κ (η w) 2) (Yf _) _).setCell (p:=κ (η w) 3) (Yf _) _;exact Zl (v:= .agg #[ι mv.kind,ι mv.sync,ι mv.partner,ι mv.cond]) (by simp[results,results142,go_sem,aZ.c 0 rfl,aZ.c 1 rfl,aZ.c 2 rfl,aZ.c 3 rfl]) rfl ⟨rfl,aT⟩
def ay.synced {ys x pa va bi wa pc vc wc bf f S l s'} (hA:ay o w T c t (ys ++ [x]) pa va pc vc) (z:Wf o w) (a4:t.parts.dropLast=ys.map PX.m) (hm:x.m= .meet m) (aT:x.ls=x.b :: f :: l) (O:bU o w x.b m f (some S) wa bi wc bf l) (hd:∀k∈aB T (ys ++ [x]),k∉L) (hb:Below (ν w) w w1) (hS:aX W S s' wm' L l o w1 o2 G L' Ls') :
  ∃Ls2,ao W T c (bB t (.meet {m with sy:=some s'})) wm' L (aB T (ys ++ [x])) o w o2 G L' Ls2:=by
 obtain⟨s1,s2,s3,s4,s5,s6⟩:=hS;refine yF ?_;intro aZ;have a8:=hb.size;have U:J (fun k=>k∈L∨k∈l) o w o2 G:=(Zb z hb).same z s1;have I:=U.et (K:=fun k=>k∉L∧k∉l) fun k h e=>e.elim h.1 h.2;have aj:=hd x.b (aZ _ (by rw[aT];simp));have bt:=hd f (aZ _ (by rw[aT];simp));have hn:∀k∈Ls',k∈l∨w.heap.size≤k:=fun k hk=>(s5 k hk).imp id fun e=>Zp a8 e;obtain⟨Z,k2⟩:=I.blk O.blk O.own ⟨aj,O.nb⟩;have aC:=O.blk.lt;have aA:=O.fo.lt;have az:bU o2 G x.b {m with sy:=some s'} f (some S) wa bi wc bf Ls':=
  ⟨Z,k2,O.fo.kept I U.size ⟨bt,O.nl⟩,O.val.kept I U.size,s3,O.nf,fun e=>(hn _ e).elim O.nb fun e=>by omega,fun e=>(hn _ e).elim O.nl fun e=>by omega,O.wcm⟩
 have aa:∀k,k∉L→k < w.heap.size→k∉L':=fun k h ad e=>(s4 k e).elim h fun e=>by omega
 exact hA.Cm z a4 hm hd (m':={m with sy:=some s'}) (l':=x.b :: f :: Ls') (U.more' fun k e=>e.imp id fun e=>by rw[aT];simp[e]) s2 (fun k hk=>(s4 k hk).imp id fun e=>Zp a8 e) ⟨f,some S,wa,bi,wc,bf,Ls',az,rfl⟩
   (fun k hk=>by
     simp only[List.mem_cons] at hk;rcases hk with e | e | e
     ·exact .inl (by rw[aT,e];simp)
     ·exact .inl (by rw[aT,e];simp)
     ·exact (hn k e).imp (fun e=>by rw[aT];simp[e]) id)
   (fun k hk=>by
     simp only[List.mem_cons] at hk;rcases hk with e | e | e
     ·rw[e];exact aa _ aj aC
     ·rw[e];exact aa _ bt aA
     ·exact s6 k e)
def tZ (z:Wf o w) (hI:aI o w W wm L) (hE:a6 o w) (U:a7 o w T c t Ls) (hd:∀k∈Ls,k∉L) (next) (h:jN t wm=some (t',wm',es)) :
  Calls prog 103 #[π T,π W,ι next] w (b8 W T c t' wm' es L Ls o w):=by
 unfold jN at h;obtain⟨m,hF,h⟩:=Zt.1 h;obtain⟨s,hs,h⟩:=Zt.1 h
 split at h
 case h_2=>cases h
 case h_1 s' mv wm1 aF=>
 obtain⟨bd,ag,h⟩:=Zs.1 h;injection h with H h;injection h with h2 h3;subst H h2 h3;obtain⟨ys,x,pa,va,pc,vc,f,ps,wa,bi,wc,bf,l,hA,rfl,hm,aT,O,a4,aZ,bo,-⟩:=U.meet z hF;have hsy:=O.sy;rw[hs] at hsy;obtain⟨S,rfl⟩:∃S,ps=some S:=by
  cases ps with
  | none=>exact hsy.elim
  | some S=>exact⟨S,rfl⟩
 have an:=gU hA hm;have a':∀w1,Below (ν w) w w1→aM (fun _=>True) o w o w1:=fun w1 hb=>(tB z hb).kp;have bb:∀k∈l,k∉L:=fun k hk=>hd k (aZ k (by rw[aT];simp[hk]));have aB:=O.blk.c 1 rfl;have aO:=O.blk.lt;have bc:=χ (fun w1 (hb:Below (ν w) w w1)=>vW (z.below hb) (hI.below z hb) (hE.kept (a' w1 hb)) (YA hsy (a' w1 hb) hb.size fun _ _=>Zk) bb aF);have a9:=χ (fun w1 G o2 (L' Ls':List Nat) (hb:Below (ν w) w w1) (hS:aX W S s' wm1 L l o w1 o2 G L' Ls')=>hA.synced z a4 hm aT O hd hb hS);have aU:=χ (pY ag);have HW:=χ z;clear bo hsy hs aF ag hA O a4 bb hd hm hF hI hE aT aZ a' U h z;generalize x.b=b at *;go_enter func103,ntmps103;go_upto_region 3 with first
  | (go_at_call 111;refine δ an ?_;intro w1 af;have c1:=(af.cell (p:=κ b 1) aO).trans aB;have ap:=bc.out w1 af)
  | (go_at_call 143;refine ap.mono ?_;rintro e G ⟨o2,L2,Ls2,aG,rfl⟩)
  | (go_at_call 142;refine δ (ry mv G) ?_;intro E ac;unfold aj)
 obtain⟨Ls3,aV⟩:=a9.out w1 G o2 L2 Ls2 af aG;have ax:=HW.out.BD (ao.below HW.out aV ac).1;have I:o2 E.heap.size=none:=ax.ge (Zc _);have ah:=ac.trans ((am E (.cells #[ι mv.kind,ι mv.sync,ι mv.partner,ι mv.cond] 273)).mono ac.size);have k4:=Zh E 273 [ι mv.kind,ι mv.sync,ι mv.partner,ι mv.cond];generalize E.alloc (.cells #[ι mv.kind,ι mv.sync,ι mv.partner,ι mv.cond] 273)=M at *;have aR:=ao.below HW.out aV ah;have aK:=HW.out.BD aR.1;obtain⟨c0,c1,c2,-⟩:=kc2 k4;have H4:=χ aR;have bq:=χ (Zf k4 I);rcases aU.out with ⟨h3,hp,ea,eb,ha,hb,rfl⟩ | ⟨h3,h4,rfl⟩
 ·have bl:(mv.kind == 3)=true:=by simp[h3]
  have bw:decide (0≤mv.partner)=true:=Zy hp;have ad:=kX aK aR.2.1 ha;have bX:=χ (fun o6 w6 (U:J Θ o2 M o6 w6)=>kX (aK.BD U) (aR.2.1.kept (U.kp) U.size fun _ _=>Zk) hb);have bU:=χ aK;clear h3 hp ha hb aV aG aR ac ah k4 aK ap ax I;go_upto_region 6 with (go_at_call 144;refine ad.mono ?_;rintro e V ⟨o5,a5,c5,az,rfl,ak⟩;unfold dI;dsimp only);clear c0 c1 c2;have aL:=bU.out.BD az;have a3:=ZJ aL (.cells #[ι ea.kind,ι ea.step,ι ea.th,ι ea.sy,ι ea.br,ι ea.pa,ι ea.n,ι ea.v.kd,ι ea.v.n,.slice a5 ea.v.l.length c5] 88);have k6:=Zh V 88 [ι ea.kind,ι ea.step,ι ea.th,ι ea.sy,ι ea.br,ι ea.pa,ι ea.n,ι ea.v.kd,ι ea.v.n,.slice a5 ea.v.l.length c5];have a1:(o5.set (ν V) (some V.heap.size)) V.heap.size=some V.heap.size:=Zw _ _ _;generalize o5.set (ν V) (some V.heap.size)=o6 at *;generalize V.alloc (.cells #[ι ea.kind,ι ea.step,ι ea.th,ι ea.sy,ι ea.br,ι ea.pa,ι ea.n,ι ea.v.kd,ι ea.v.n,.slice a5 ea.v.l.length c5] 88)=w6 at *;have aJ:=az.same bU.out a3;obtain⟨km,-⟩:=(aJ.kp).BF bq.out.1 bq.out.2;have c2:=km.c 2 rfl;have ay:=bX.out o6 w6 aJ;have aP:=aL.BD a3;have HA:=χ (Zf az (Zf a3 (Zf ak (Zf aL aP))));have ae:=χ (Zf k6 a1);clear az a3 ak aL aJ km k6 a1;go_wp2_with first
   | (go_at_call 144
      refine ay.mono ?_;rintro e w7 ⟨o7,aa,c7,aA,rfl,ai⟩;unfold dI;dsimp only;have bh:=aP.BD aA;have Z:=(aA.kp).blk ae.out.1 ae.out.2 trivial;have k8:=Z.1.alloc (.cells #[ι eb.kind,ι eb.step,ι eb.th,ι eb.sy,ι eb.br,ι eb.pa,ι eb.n,ι eb.v.kd,ι eb.v.n,.slice aa eb.v.l.length c7] 88);have aY:=am w7 (.cells #[ι eb.kind,ι eb.step,ι eb.th,ι eb.sy,ι eb.br,ι eb.pa,ι eb.n,ι eb.v.kd,ι eb.v.n,.slice aa eb.v.l.length c7] 88);have aW:(w7.alloc (.cells #[ι eb.kind,ι eb.step,ι eb.th,ι eb.sy,ι eb.br,ι eb.pa,ι eb.n,ι eb.v.kd,ι eb.v.n,.slice aa eb.v.l.length c7] 88)).heap[w7.heap.size]? =some (.cells ([.int .i64 eb.kind,.int .i64 eb.step,.int .i64 eb.th,.int .i64 eb.sy,.int .i64 eb.br,.int .i64 eb.pa,.int .i64 eb.n,.int .i64 eb.v.kd,.int .i64 eb.v.n,.slice aa eb.v.l.length c7]:List Value).toArray 88 (0,0)):=Zh w7 88 [ι eb.kind,ι eb.step,ι eb.th,ι eb.sy,ι eb.br,ι eb.pa,ι eb.n,ι eb.v.kd,ι eb.v.n,.slice aa eb.v.l.length c7];have aE:aQ (w7.alloc (.cells #[ι eb.kind,ι eb.step,ι eb.th,ι eb.sy,ι eb.br,ι eb.pa,ι eb.n,ι eb.v.kd,ι eb.v.n,.slice aa eb.v.l.length c7] 88)) 88 10 (.slice (Γ (ν V)) 1 1) 1 [ι ea.kind,ι ea.step,ι ea.th,ι ea.sy,ι ea.br,ι ea.pa,ι ea.n,ι ea.v.kd,ι ea.v.n,.slice a5 ea.v.l.length c5]:=aQ.BP k8 1 rfl φ;have HB:=χ (Zf aA (Zf ai (Zf bh (Zf Z.2 aY))))
      clear aA ai bh Z k8 aY)
   | (at_builtin
      refine dU _ rfl _ _ 29 88 _ 10 96 underlying29 hJ rfl φ φ rfl _ 1 [ι ea.kind,ι ea.step,ι ea.th,ι ea.sy,ι ea.br,ι ea.pa,ι ea.n,ι ea.v.kd,ι ea.v.n,.slice a5 ea.v.l.length c5] rfl aE (ν w7) [ι eb.kind,ι eb.step,ι eb.th,ι eb.sy,ι eb.br,ι eb.pa,ι eb.n,ι eb.v.kd,ι eb.v.n,.slice aa eb.v.l.length c7] rfl aW rfl (by intro u hu;simp only[List.mem_cons,List.not_mem_nil,or_false] at hu;rcases hu with rfl | rfl | rfl | rfl | rfl | rfl | rfl | rfl | rfl | rfl <;> rfl) φ ?_;intro g9 bv w9 q1 q2 q3 q4;have HQ:=χ (Zf q1 (Zf q2 q3))
      clear q1 q2 q3 q4 aW aE)
  go_ret;obtain⟨az,a3,ak,aL,aP⟩:=HA.out;obtain⟨aA,ai,bh,bu,aY⟩:=HB.out;obtain⟨q1,q2,q3⟩:=HQ.out;have Y:J Θ o7 w7 o7 _:=Zb bh aY;have bt:=bh.BD Y;have bj:V.heap.size < w7.heap.size:=Za ae.out.1.lt aA.size
  have aE:aw o7 (w7.alloc (.cells #[ι eb.kind,ι eb.step,ι eb.th,ι eb.sy,ι eb.br,ι eb.pa,ι eb.n,ι eb.v.kd,ι eb.v.n,.slice aa eb.v.l.length c7] 88)) (ν V) 88 10 (.slice (Γ (ν V)) 1 1) 1 [ι ea.kind,ι ea.step,ι ea.th,ι ea.sy,ι ea.br,ι ea.pa,ι ea.n,ι ea.v.kd,ι ea.v.n,.slice a5 ea.v.l.length c5]:=⟨aQ.BP (((aA.kp).blk ae.out.1 ae.out.2 trivial).1.alloc _) 1 rfl φ,fun g hg=>by
   obtain rfl:V.heap.size=g:=by simpa [Value.ownBlock] using hg
   exact bu⟩
  obtain⟨t9,bg⟩:=aE.BM bt (Za bj aY.size) q1 q2 q3;have aq:=((a3.same aL aA).same aL Y).trans aL t9 fun k hk e=>by omega
  have aN:=(Y.more' (D':=(·=V.heap.size)) fun _ e=>e.elim).same bh t9;have be:=az.same bU.out aq;have bn:=ak.kept (aq.kp) aq.size;have bp:=ai.kept (aN.et (K:=(·≠V.heap.size)) fun _ h=>h) aN.size;exact⟨_,L2,Ls3,_,_,H4.out.still HW.out be,rfl,aQ.sl φ bg.row ((Y9 (P:=bA (Fz _ w9) w9) (x:=ea) (cs:=[ι ea.kind,ι ea.step,ι ea.th,ι ea.sy,ι ea.br,ι ea.pa,ι ea.n,ι ea.v.kd,ι ea.v.n,.slice a5 ea.v.l.length c5]) ⟨a5,c5,rfl,bn⟩ rfl).push (x:=eb) (cs:=[ι eb.kind,ι eb.step,ι eb.th,ι eb.sy,ι eb.br,ι eb.pa,ι eb.n,ι eb.v.kd,ι eb.v.n,.slice aa eb.v.l.length c7]) ⟨aa,c7,rfl,bp⟩ rfl)⟩
 ·have bl:(mv.kind == 3)=false:=by simp[h3]
  have aC:(mv.kind == 4)=false:=by simp[h4]
  clear h3 h4 aV aG aR ac ah k4 aK ap ax I;go_wp2_with fail;go_ret;exact⟨o2,L2,Ls3,none,0,H4.out,rfl,cB.nil _ _ _⟩
end
end
section
section
variable {o o' o1 o2:ab} {w w' w1 G:World} {T c g bx:Nat} {t t':aS} {Ls Ls' l':List Nat} {F:ba} {p:List Fn} {l:List a0}
def ip (h:a1 o w g c F):Calls prog 126 #[π g] w (μ (ι F.st) w):=by obtain⟨_,_,_,_,_,h⟩:=h;exact he h
def gQ {r} (z:Wf o w) (h:a1 o w g c F) (hc:bz o w c p) (hM:eM p F=some r):Calls prog 95 #[π g] w (d5 r w):=by
 unfold eM at hM
 split at hM
 case isTrue h2=>
  split at hM
  case isTrue hb=>
   cases hM
   exact xy z h hc h2 hb
  case isFalse=>cases hM
 case isFalse h2=>
  cases hM
  have:=u2 (p:=p) z h h2;rw[na h2] at this;exact this
def gW (b:Bool) (w:World) (e:Ending) (w':World):Prop:=e= .returned (.bool b)∧Below w.heap.size w w'
def zj {p q:Prop} (k:q) (h:Zq q→p:=by
 intro mq;have aF:=ip hf;have aq:=ko z hf h3;have H:=χ (fun w1 (hb:Below (ν w) w w1)=>gQ (z.below hb) (hf.below z hb) (hc.below z hb) hM);have aC:(F.st != 4)=true:=by simp[h4]
 revert aF aq H aC
 exact mq.u):p:=h ⟨k⟩
def Bl {p:Prop} (h:p:=by
 go_ret;refine⟨rfl,?_⟩;have e1:=aa.trans ((am G (.cells #[ι 0,ι 0,ζ] 86)).mono aa.size);have e2:=e1.trans (ac.mono e1.size)
 exact e2.trans ((am E _).mono e2.size)):p:=h
def pp (z:Wf o w) (hf:a1 o w g c F) (hc:bz o w c p) (tv) (h3:F.st≠3) (h4:F.st≠4) (hM:eM p F=some none) :
  Calls prog 109 #[π T,π g,tv] w (gW false w):=by
 refine zj ?_;intro aF aq H aC;have HX:=χ h3;clear z hf hc h3 h4 hM;go_enter func109,ntmps109;go_wp2_with first
  | (go_at_call 126;refine γ aF ?_)
  | (go_at_call 129;refine γ (c8 w) ?_)
  | (go_at_call 146;refine aq.mono ?_;rintro e G ⟨aa,hv⟩;rw[if_neg HX.out] at hv;subst hv)
  | (go_at_call 95;refine (H.out _ (aa.trans ((am G _).mono aa.size))).mono ?_;rintro e E ⟨ac,rfl⟩)
 exact Bl
def q3 {x} (z:Wf o w) (hf:a1 o w g c F) (hc:bz o w c p) (tv) (h3:F.st≠3) (h4:F.st≠4) (hM:eM p F=some (some x)) (hx:x.kind≠3) :
  Calls prog 109 #[π T,π g,tv] w (gW false w):=by
 refine zj ?_;intro aF aq H aC;have af:(x.kind != 3)=true:=by simp[hx]
 have HX:=χ h3;clear z hf hc h3 h4 hM hx;go_enter func109,ntmps109;go_wp2_with first
  | (go_at_call 126;refine γ aF ?_)
  | (go_at_call 129;refine γ (c8 w) ?_)
  | (go_at_call 146;refine aq.mono ?_;rintro e G ⟨aa,hv⟩;rw[if_neg HX.out] at hv;subst hv)
  | (go_at_call 95;refine (H.out _ (aa.trans ((am G _).mono aa.size))).mono ?_;rintro e E ⟨ac,xa,xc,rfl,-⟩)
 exact Bl
def cx (T c bx:Nat) (t':aS) (l':List a0) (b:Bool) (Ls:List Nat) (o:ab) (w:World) (e:Ending) (w':World):Prop:=e= .returned (.bool b)∧∃o' Ls',J (fun k=>k∈Ls∨k=bx) o w o' w'∧a7 o' w' T c t' Ls'∧bG o' w' bx l'∧∀k∈Ls',k∈Ls∨w.heap.size≤k
def cx.Cf {b e} (h:gW b w e w') (z:Wf o w) (U:a7 o w T c t Ls) (hl:bG o w bx l):cx T c bx t l b Ls o w e w':=by obtain⟨H,h2⟩:=h;have ak:J Θ o w o w':=Zb z h2;exact⟨H,o,Ls,ak.more' fun _ e=>e.elim,U.below z h2,hl.kept (ak.kp) h2.size trivial,fun k hk=>.inl hk⟩
def a7.Cx {v f} (U:a7 o w T c t Ls) (z:Wf o w) (hl:t.parts.length < 64) (hF:eh o w f v) (hf:∀k∈Ls,k≠f):Calls prog 150 #[π T,.iface 213 (ϖ w)] (w.alloc (.cells #[π f,.pointer none,ζ,ι 0,ι 0,ζ,Δ] 217)) fun e w'=>
  e= .returned (.tuple #[])∧∃o' Ls',J (fun k=>k=T) o w o' w'∧a7 o' w' T c {t with parts:=t.parts ++ [.meet ⟨.new v,none,vZ,false⟩]} Ls'∧∀k∈Ls',k∈Ls∨k=f∨w.heap.size≤k:=by
 have ak:=ZJ z (.cells #[π f,.pointer none,ζ,ι 0,ι 0,ζ,Δ] 217);have Z:=Zh w 217 [π f,.pointer none,ζ,ι 0,ι 0,ζ,Δ];refine yo ?_;intro af;generalize o.set (ν w) (some w.heap.size)=o1 at *;generalize w.alloc (.cells #[π f,.pointer none,ζ,ι 0,ι 0,ζ,Δ] 217)=w1 at *;have I:=ak.kp;have aA:f < w.heap.size:=by obtain⟨g,a,cc,H,-⟩:=hF;exact H.lt
 have ad:=U.lt;obtain⟨xs,pa,va,pc,vc,hA,rfl⟩:=U.kept I ak.size fun _ _=>Zk;have ae:=z.BD ak;have aI:xs.length < 64:=by rw[hA.pts] at hl;simpa using hl
 have hx:c6 o1 w1 c ⟨.meet ⟨.new v,none,vZ,false⟩,w.heap.size,[w.heap.size,f]⟩:=
  ⟨f,none,none,none,0,0,[],⟨Z,af,hF.kept I ak.size trivial,e6 _ _,rfl,Nat.ne_of_gt aA,by simp,by simp,Z2 _⟩,rfl⟩
 have hd:∀O∈xs,io O ⟨.meet ⟨.new v,none,vZ,false⟩,w.heap.size,[w.heap.size,f]⟩:=fun O hz k hk E=>by
  have aZ:k∈aB T xs:=bC.2 (.inr ⟨O,hz,hk⟩);simp only[List.mem_cons,List.not_mem_nil,or_false] at E;rcases E with e | e
  ·have:=ad k aZ;omega
  ·exact hf k aZ e
 have bo:T∉[w.heap.size,f]:=fun e=>by
  have aZ:T∈aB T xs:=by simp[aB]
  simp only[List.mem_cons,List.not_mem_nil,or_false] at e;rcases e with e | e
  ·have:=ad T aZ;omega
  ·exact hf T aZ e
 refine (um ae hA hx hd bo aI).mono ?_;rintro e G ⟨rfl,o2,M,h,t2,a2⟩;refine⟨rfl,o2,aB T (xs ++ [⟨.meet ⟨.new v,none,vZ,false⟩,w.heap.size,[w.heap.size,f]⟩]),(ak.more' fun _ e=>e.elim).same z t2,⟨_,_,_,_,_,a2,rfl⟩,fun k hk=>?_⟩;rcases bC.1 hk with e | ⟨y,hy,e⟩
 ·exact .inl (bC.2 (.inl e))
 ·rcases Zv.1 hy with hy | hy
  ·exact .inl (bC.2 (.inr ⟨y,hy,e⟩))
  ·rw[List.mem_singleton.1 hy] at e
   simp only[List.mem_cons,List.not_mem_nil,or_false] at e;exact .inr (e.elim (fun e=>.inr ω) .inl)
def tU {x v} (z:Wf o w) (U:a7 o w T c t Ls) (hl:bG o w bx l) (aj:bx∉Ls) (hf:a1 o w g c F) (hc:bz o w c p) (tv) (h3:F.st≠3) (h4:F.st≠4) (hM:eM p F=some (some x)) (hx:x.kind=3) (hv:x.args[0]? =some v) (ag:eX v=true) (hsm:small v=true) (aI:t.parts.length < 64) :
  Calls prog 109 #[π T,π g,tv] w (cx T c bx {t with parts:=t.parts ++ [.meet ⟨.new v,none,vZ,false⟩]} l true Ls o w):=by
 refine zj ?_;intro aF aq H aC;have HX:=χ h3;have h0:0 < x.args.length:=(Ze.1 hv).1;have ae:=χ (fun M (hb:Below (ν w) w M) (a:Option Addr) (cc:Nat) (hV:aG (Fz o M) M v (.agg (υ v a cc)))=>rU (z.below hb) hV ag hsm)
 have ak:=χ (show ∀(M V:World) (o5:ab) (f:Nat),Below (ν w) w M→J Θ o M o5 V→M.heap.size≤f→eh o5 V f v→Calls prog 150 #[π T,.iface 213 (ϖ V)] (V.alloc (.cells #[π f,.pointer none,ζ,ι 0,ι 0,ζ,Δ] 217)) fun e w'=>e= .returned (.tuple #[])∧cx T c bx {t with parts:=t.parts ++ [.meet ⟨.new v,none,vZ,false⟩]} l true Ls o w (.returned (.bool true)) w' from fun M V o5 f hb az ax hF=>by
   have aK:=z.below hb;have bb:=az.kp;have ao:=U.below z hb;have aO:=U.lt;have aL:=hl.kept (kB z hb) hb.size trivial;have aM:=hb.size;refine ((ao.kept bb az.size fun _ _=>Zk).Cx (aK.BD az) aI hF fun k hk e=>by have:=aO k hk;omega).mono ?_;rintro e w6 ⟨rfl,o6,Ls6,t6,ad,bo⟩;have bl:T∈Ls:=by obtain⟨xs,pa,va,pc,vc,-,rfl⟩:=U;simp[aB]
   have I:J (fun k=>k=T) o M o6 w6:=(az.more' fun _ e=>e.elim).same aK t6;have O:J (fun k=>k∈Ls∨k=bx) o w o6 w6:=(Zb z hb).same z (I.more' fun k e=>.inl (e ▸ bl));refine⟨rfl,rfl,o6,Ls6,O,ad,aL.kept (I.et (K:=(·≠T)) fun _ h=>h) I.size (fun e=>aj (e ▸ bl)),fun k hk=>?_⟩;rcases bo k hk with e | e | e
   ·exact .inl e
   ·exact .inr ω
   ·have:=az.size
    exact .inr ω)
 have af:(x.kind != 3)=false:=by simp[hx]
 have HW:=χ z;clear U hl aj hf hc h3 h4 hM hx ag hsm aI;go_enter func109,ntmps109;go_upto_region 18 with first
  | (go_at_call 126;refine γ aF ?_)
  | (go_at_call 129;refine γ (c8 w) ?_)
  | (go_at_call 146;refine aq.mono ?_;rintro e G ⟨aa,hv⟩;rw[if_neg HX.out] at hv;subst hv)
  | (go_at_call 95;refine (H.out _ (aa.trans ((am G _).mono aa.size))).mono ?_;rintro e E ⟨ac,xa,xc,rfl,hR,aw,ay⟩)
 obtain⟨Y,Z,cs,rfl,an,-,be,v0,v1,v2,rfl,hV⟩:=cE.1 hR 0 v hv;obtain⟨va,vc,e,-⟩:=id hV.three;simp only[Value.agg.injEq,Array.mk.injEq,List.cons.injEq,and_true] at e;obtain⟨rfl,rfl,rfl⟩:=e;have ap:=aa.trans ((am G (.cells #[ι 0,ι 0,ζ] 86)).mono aa.size);have aA:=ap.trans (ac.mono ap.size);have bc:=am E (.cells #[ι x.kind,ι x.fn,.slice (some ⟨Y,Z,none⟩) x.args.length xc] 149);have ah:=aA.trans (bc.mono aA.size);have k4:=Zh E 149 [ι x.kind,ι x.fn,.slice (some ⟨Y,Z,none⟩) x.args.length xc];generalize E.alloc (.cells #[ι x.kind,ι x.fn,.slice (some ⟨Y,Z,none⟩) x.args.length xc] 149)=M at *;have c2:=k4.c 2 rfl;have e0:=(bc.cell (p:=κ Y Z) an.2).trans (by simpa using be 0 ω);have e1:=(bc.cell (p:=κ Y (Z+1)) an.2).trans (by simpa using be 1 ω);have e2:=(bc.cell (p:=κ Y (Z+2)) an.2).trans (by simpa using be 2 ω);have aT:aG (Fz o M) M v (.agg (υ v va vc)):=(hV.et fun g hg q=>bc.cell (p:=κ g q) hg.2).more fun g hg=>⟨HW.out.ge (Zp ap.size hg.1),Za hg.2 bc.size⟩;have aD:=ae.out M ah va vc aT;clear hR be hV aT k4 bc aA ap ac aa an;go_wp2_with first
  | (go_at_call 149;refine aD.mono ?_;rintro e V ⟨o5,f,az,ax,bf,rfl⟩;have aE:=ak.out M V o5 f ah az ax bf;clear bf)
  | (go_at_call 129;refine γ (c8 V) ?_)
  | (go_at_call 150;refine δ aE ?_;intro w6 ai)
 go_ret;exact ai
end
end
section
section
variable {o:ab} {w w' w1 G:World} {T c g bx:Nat} {t t1:aS} {Ls:List Nat} {F:ba} {p:List Fn} {m:bW} {l:List a0} {pa va:Option Addr} {pc vc:Nat} {xs ys:List PX}
def lD (h:ay o w T c t xs pa va pc vc) (hn:∀m,t.parts.getLast? ≠some (.meet m)):Calls prog 111 #[π T] w (ϑ (.pointer none) w):=by
 rcases List.eq_nil_or_concat xs with rfl | ⟨ys,x,e⟩
 ·exact rN h
 ·rw[List.concat_eq_append] at e
  subst e;obtain⟨m,hm⟩:∃m,x.m=m:=⟨_,rfl⟩;cases m with
  | act F=>exact uk h hm
  | meet m=>exact absurd (by rw[h.pts];simp[hm]) (hn m)
def ay.CG {v a cc} (h:ay o w T c t xs pa va pc vc) (z:Wf o w) (hv:aG (Fz o w) w v (.agg (υ v a cc))) :
  J (·=T) o w o (σ (σ (σ (σ w T 3 (.bool true)) T 5 (ι v.kd)) T 6 (ι v.n)) T 7 (.slice a v.l.length cc):World)∧ay o (σ (σ (σ (σ w T 3 (.bool true)) T 5 (ι v.kd)) T 6 (ι v.n)) T 7 (.slice a v.l.length cc)) T c {t with over:=true,val:=v} xs pa a pc cc:=by refine h.cells z (aE (S:=(·=T)) rfl 0 [(3,Υ),(5,ι v.kd),(6,ι v.n),(7,.slice a v.l.length cc)] w) rfl ?_ hv;exact (((h.blk.set 3 (.bool true)).set 5 _).set 6 _).set 7 _
def tf (z:Wf o w) (U:a7 o w T c t Ls) (hl:bG o w bx l) (aj:bx∉Ls) (hF:b7 t=some F) (hf:a1 o w g c F) (h3:F.st=3) (hsm:small F.val=true) (hnm:∀m,t.parts.dropLast.getLast? ≠some (.meet m)) (ak:l.length≤1000000) :
  Calls prog 109 #[π T,π g,.func (.func 106) #[] #[π bx]] w (cx T c bx {t with parts:=t.parts.dropLast,over:=true,val:=F.val} (l ++ [{cO t 8 with v:=F.val}]) true Ls o w):=by
 have aF:=ip hf;have aq:=sP z hf h3 hsm;obtain⟨ys,x,pa,va,pc,vc,g',hA,rfl,hm,-,-,-,-,a4,-⟩:=U.act z hF;rw[a4] at hnm;rw[a4];have aC:(F.st != 4)=true:=by simp[h3]
 have bl:T∈aB T (ys ++ [x]):=by simp[aB]
 have bE:T < w.heap.size:=hA.blk.lt;have be:T≠bx:=fun e=>aj (e ▸ bl);have HA:=χ (fun w1 (hb:Below (ν w) w w1)=>k' (z.below hb) (hA.kept (kB z hb) hb.size fun _ _=>Zk));have HM:=χ (fun o4 M (aw:Option Addr) (aW:Nat) (Y:ay o4 M T c {t with parts:=ys.map PX.m} ys aw va aW vc)=>lD Y hnm);have bB:=χ hsm;have HL:=χ hl;have HW:=χ z;have HX:=χ h3;have aV:=χ aj;clear U hl aj hF hf h3 hsm hnm hA hm a4 z;go_enter func109,ntmps109;go_upto_region 4 with first
  | (go_at_call 126;refine γ aF ?_)
  | (go_at_call 129;refine γ (c8 w) ?_)
  | (go_at_call 146;refine aq.mono ?_;rintro e G ⟨aa,hv⟩;rw[if_pos HX.out] at hv;obtain⟨a2,c2,rfl,a5⟩:=hv)
 have bI:w.heap.size≤G.heap.size:=aa.size;have ac:=aa.trans ((am G (.cells #[ι F.val.kd,ι F.val.n,.slice a2 F.val.l.length c2] 86)).mono aa.size);have aR:=am G (.cells #[ι F.val.kd,ι F.val.n,.slice a2 F.val.l.length c2] 86);have k3:=Zh G 86 [ι F.val.kd,ι F.val.n,.slice a2 F.val.l.length c2];generalize G.alloc (υ F.val a2 c2)=E at *;have ax:=HW.out.below ac;have aN:aG (Fz o E) E F.val (.agg (υ F.val a2 c2)):=(a5.et fun q hq i=>aR.cell (p:=κ q i) hq.2).more fun q hq=>⟨HW.out.ge hq.1,Za hq.2 aR.size⟩;have I:o G.heap.size=none:=HW.out.ge aa.size;have bX:=HA.out E ac;have bz:=χ aN;have ag:=χ (Zf k3 (Zf I (Zf ax ac)));clear a5 aN k3 aa aR I ax ac;go_upto_region 8 with first
  | (go_at_call 147;refine bX.mono ?_;rintro e M ⟨rfl,ao,aw,aW,Y⟩;have an:=HM.out o M aw aW Y;have bw:=χ Y;clear Y)
  | (go_at_call 111;refine δ an ?_;intro V ai)
 obtain⟨k3,I,ax,ac⟩:=ag.out;have aK:=ax.BD ao;have az:J (·=T) o E o V:=ao.same ax (Zb aK ai);have aL:=ax.BD az;have aX:=bw.out.kept (kB aK ai) ai.size fun _ _=>Zk;obtain⟨k5,-⟩:=(az.et (K:=(·≠T)) fun _ h=>h).BF k3 I;have H:=bz.out.kept (az.et (K:=(·≠T)) fun _ h=>h) az.size;obtain⟨-,-,-,-,-,-,c3,f3,-,-,c5,f5,c6,f6,c7,f7,-⟩:=kb7 aX.blk;obtain⟨d0,d1,d2,-⟩:=kc2 k5;have HO:=χ (aX.CG aL H);have bg:=χ (Zf k5 (Zf aL (Zf az H)));clear aX k5 H az aL ai ao aK k3 I ax ac;go_region;clear c3 c5 c6 c7 f3 f5 f6 f7 d0 d1 d2;obtain⟨k5,aL,az,H⟩:=bg.out;obtain⟨t6,bf⟩:=HO.out;have aP:=aL.BD t6;have a3:=(az.same ag.out.2.2.1 t6).BR ag.out.2.2.1;have a8:=bf.kept (f4 aP) (Zc _) fun _ _=>Zk;have aA:Fr (·=T) V (σ (σ (σ (σ V T 3 (.bool true)) T 5 (ι F.val.kd)) T 6 (ι F.val.n)) T 7 (.slice a2 F.val.l.length c2)):=aE (S:=(·=T)) rfl 0 [(3,Υ),(5,ι F.val.kd),(6,ι F.val.n),(7,.slice a2 F.val.l.length c2)] V;have bD:G.heap.size≠T:=ω;have bj:=ZE (w:=V) k5;have k6:A (σ (σ (σ (σ V T 3 (.bool true)) T 5 (ι F.val.kd)) T 6 (ι F.val.n)) T 7 (.slice a2 F.val.l.length c2):World).drew (ν G) 86 [ι F.val.kd,ι F.val.n,.slice a2 F.val.l.length c2]:=(aA.block (ν G) bj bD).trans k5;have bO:=((H.kept (t6.et (K:=(·≠T)) fun _ h=>h) t6.size)).kept (f4 aP) (Zc _)
 have ad:Calls prog 108 #[π T,ι 8] (σ (σ (σ (σ V T 3 (.bool true)) T 5 (ι F.val.kd)) T 6 (ι F.val.n)) T 7 (.slice a2 F.val.l.length c2):World).drew fun e w'=>e= .returned (.agg #[ι 8,ι 0,ι t.num,ι 0,ι 0,ι 0,ι 0,ι 0,ι 0,ζ])∧Below (σ (σ (σ (σ V T 3 (.bool true)) T 5 (ι F.val.kd)) T 6 (ι F.val.n)) T 7 (.slice a2 F.val.l.length c2):World).drew.heap.size (σ (σ (σ (σ V T 3 (.bool true)) T 5 (ι F.val.kd)) T 6 (ι F.val.n)) T 7 (.slice a2 F.val.l.length c2):World).drew w':=jg a8 8;have bn:=aP.BD (tB aP (Zj _ _).drew);have H6:=χ (Zf a3 (Zf a8 (Zf bO bn)));clear bf a8 t6 a3 bO H k5 az aL aP aA bn;generalize (σ (σ (σ (σ V T 3 (.bool true)) T 5 (ι F.val.kd)) T 6 (ι F.val.n)) T 7 (.slice a2 F.val.l.length c2):World).drew=w6 at *;have bv:=ZE (w:=w6) k6;go_upto_region 10 with (go_at_call 108;refine δ ad ?_;intro w7 ae);have aY:=ae.trans ((am w7 (.cells #[ι 8,ι 0,ι t.num,ι 0,ι 0,ι 0,ι 0,ι 0,ι 0,ζ] 88)).mono ae.size);have k8:=Zh w7 88 [ι 8,ι 0,ι t.num,ι 0,ι 0,ι 0,ι 0,ι 0,ι 0,ζ];have bq:=(aY.block (ν G) bv).trans k6;have ah:w6.heap.size≤w7.heap.size:=ae.size;generalize w7.alloc (.cells #[ι 8,ι 0,ι t.num,ι 0,ι 0,ι 0,ι 0,ι 0,ι 0,ζ] 88)=w8 at *;obtain⟨d0,d1,d2,-⟩:=kc2 bq;have bu:=(H6.out.2.2.1.kept ((tB H6.out.2.2.2 aY).kp) aY.size).lt;have ap:=ce F.val _ w8 bB.out bu;have bd:=k8.lt;have bi:=χ (Zf k8 aY);clear bu bq k6 k8 aY ae ad
 go_upto_region 11 with (go_at_call 40;refine ap.mono ?_;rintro e w9 ⟨v',rfl,aT,Z⟩;obtain⟨a9,c9,rfl,-,-⟩:=id Z.three;have k9:=(aT.block (ν w7) bd).trans bi.out.1;have z7:=Zz (w:=w9) k9 7 rfl;have z8:=Zz (w:=w9) k9 8 rfl;have z9:=Zz (w:=w9) k9 9 rfl;have y7:=ZD (w:=w9) k9 7;have y8:=ZD (w:=w9) k9 8;have y9:=ZD (w:=w9) k9 9);obtain⟨k8,aY⟩:=bi.out;have bb:=aY.trans (aT.mono aY.size);have aD:A (σ (σ (σ w9 (ν w7) 7 (ι F.val.kd)) (ν w7) 8 (ι F.val.n)) (ν w7) 9 (.slice a9 F.val.l.length c9)) (ν w7) 88 [ι 8,ι 0,ι t.num,ι 0,ι 0,ι 0,ι 0,ι F.val.kd,ι F.val.n,.slice a9 F.val.l.length c9]:=((Yi (w:=w9) k9 7 _).set 8 _).set 9 _;have a6:Below (ν w6) w6 (σ (σ (σ w9 (ν w7) 7 (ι F.val.kd)) (ν w7) 8 (ι F.val.n)) (ν w7) 9 (.slice a9 F.val.l.length c9)):=((bb.setCell (p:=κ (ν w7) 7) ah _).setCell (p:=κ (ν w7) 8) ah _).setCell (p:=κ (ν w7) 9) ah _;have aJ:∀q,q≠w7.heap.size→∀i,(σ (σ (σ w9 (ν w7) 7 (ι F.val.kd)) (ν w7) 8 (ι F.val.n)) (ν w7) 9 (.slice a9 F.val.l.length c9):World).cell? (κ q i)=w9.cell? (κ q i):=fun q hq i=>Zd (by rw[Below.heap_setCell _ _ _ _ hq,Below.heap_setCell _ _ _ _ hq,Below.heap_setCell _ _ _ _ hq]);have bo:w9.heap.size≤(σ (σ (σ w9 (ν w7) 7 (ι F.val.kd)) (ν w7) 8 (ι F.val.n)) (ν w7) 9 (.slice a9 F.val.l.length c9):World).heap.size:=by simp
 have bQ:aG (Nw (ν w8) (σ (σ (σ w9 (ν w7) 7 (ι F.val.kd)) (ν w7) 8 (ι F.val.n)) (ν w7) 9 (.slice a9 F.val.l.length c9))) (σ (σ (σ w9 (ν w7) 7 (ι F.val.kd)) (ν w7) 8 (ι F.val.n)) (ν w7) 9 (.slice a9 F.val.l.length c9)) F.val (.agg (υ F.val a9 c9)):=(Z.et fun q hq i=>aJ q (by have:=hq.1;omega) i).more fun q hq=>⟨hq.1,Za hq.2 bo⟩;clear z7 z8 z9 y7 y8 y9 k9 Z aJ bo bb aY k8 aT d0 d1 d2 ap;generalize (σ (σ (σ w9 (ν w7) 7 (ι F.val.kd)) (ν w7) 8 (ι F.val.n)) (ν w7) 9 (.slice a9 F.val.l.length c9):World)=aZ at *;obtain⟨z0,z1,z2,z3,z4,z5,z6,z7,z8,z9,-⟩:=kc9 aD;obtain⟨aO,bN⟩:∃u,aZ.alloc (.cells #[ι 8,ι 0,ι t.num,ι 0,ι 0,ι 0,ι 0,ι F.val.kd,ι F.val.n,.slice a9 F.val.l.length c9] 88)=u:=⟨_,rfl⟩;have aI:Below (ν aZ) aZ aO:=by rw[←bN];exact am aZ _
 have bc:=a6.trans (aI.mono a6.size);have aQ:A aO (ν aZ) 88 [ι 8,ι 0,ι t.num,ι 0,ι 0,ι 0,ι 0,ι F.val.kd,ι F.val.n,.slice a9 F.val.l.length c9]:=by rw[←bN];exact Zh aZ 88 [ι 8,ι 0,ι t.num,ι 0,ι 0,ι 0,ι 0,ι F.val.kd,ι F.val.n,.slice a9 F.val.l.length c9]
 have aP:=H6.out.2.2.2;have bh:aM (fun _=>True) o w6 o aO:=(tB aP bc).et fun _ _=>id;have bS:aG (Fz o aO) aO F.val (.agg (υ F.val a9 c9)):=(bQ.et fun q hq i=>aI.cell (p:=κ q i) hq.2).more fun q hq=>⟨aP.ge (by have:=hq.1;omega),Za hq.2 aI.size⟩;have O:J (·=T) o w o w6:=(Zb HW.out ag.out.2.2.2).same HW.out H6.out.1;have aU:bG o w6 bx l:=HL.out.kept (O.et (K:=(·≠T)) fun _ h=>h) O.size fun e=>be e.symm;have bA:=aP.below bc;have bF:=aU.kept bh bc.size trivial;have bM:Calls prog 106 #[.slice (Γ (ν aZ)) 1 1,π bx] aO (hP bx (l ++ [{cO t 8 with v:=F.val}]) o aO):=iN bA bF (cB.one aQ bS) ak ξ;have HF:=χ (Zf O (Zf bc (Zf aP bA)));clear aI bc aQ aP bh bS O aU bA bF bQ aD a6;go_wp2_with (refine bM.mono ?_;rintro e a' ⟨rfl,bp,bt,bL⟩);go_ret;obtain⟨O,bc,aP,bA⟩:=HF.out;have tb:J Θ o w6 o aO:=Zb aP bc;have t1:J (fun k=>k∈aB T (ys ++ [x])∨k=bx) o w o w6:=O.more' fun k e=>.inl (by rw[show k=T from e];exact bl);have af:∀k∈aB T ys,k∈aB T (ys ++ [x]):=fun k hk=>by
  rcases bC.1 hk with e | ⟨y,hy,e⟩
  ·exact bC.2 (.inl e)
  ·exact bC.2 (.inr ⟨y,Zm _ hy,e⟩)
 exact⟨rfl,bp,aB T ys,(t1.same HW.out (tb.more' fun _ e=>e.elim)).same HW.out (bt.more' fun _ e=>.inr e),
  ⟨ys,_,_,_,_,(H6.out.2.1.kept (tb.kp) tb.size fun _ _=>Zk).kept (bt.et (K:=(·≠bx)) fun _ h=>h) bt.size fun k hk e=>aV.out (e ▸ af k hk),rfl⟩,bL,fun k hk=>.inl (af k hk)⟩
end
end
end Go.Proofs.YtmchabopafimeaaGreatDoor
