import Derived.Test.YtmchabopafimeaaGreatDoorQar
namespace Go.Proofs.YtmchabopafimeaaGreatDoor
set_option maxRecDepth 100000
set_option maxHeartbeats 16000000
set_option linter.all false
open Go.RowKit Go.Sort Tryz
section
section
variable {o o':ab} {w w':World} {p W:Nat} {m:bR} {wm wm':aH} {L:List Nat}
def rl (z:Wf o w) (hI:aI o w W wm L) (a5:∀x∈wm.sys,bK x) (hP:bD o w p m) {y} (h:ic m.own m.br wm=(.ok y,wm')) (bw bp) (ao:A w bw 27 [aA W]) (a1:A w bp 297 [aA p]) (n1:o bw=none) (n2:o bp=none) :
  Calls prog 372 #[π bw,π bp] w fun e w'=>∃o',J Θ o w o' w'∧∃l,e= .returned (.tuple #[.agg l.toArray,ι 0])∧a4 (Fz o' w') w' y l:=by
 refine yb ?_;intro an;have aU:(o.set (ν w) (some w.heap.size)) w.heap.size=some w.heap.size:=Zw _ _ _;refine xV ?_;intro O;have ae:=z.BD an;have ap:=an.kp;have aJ:=hI.kept ap an.size fun _ _=>Zk;refine AH ?_;intro aj m1 m2 q1 q2;obtain⟨n,hn⟩:∃n,w.heap.size=n:=⟨_,rfl⟩;obtain⟨w1,aP⟩:∃u,w.alloc θ=u:=⟨_,rfl⟩;rw[hn] at an aU O ae ap aJ aj q1 q2;rw[aP] at an O ae ap aJ aj m1 m2;generalize o.set n (some n)=o1 at *;have hd:Below (ν w1) w1 w1.drew:=(Zj _ _).drew;have hC:=(lW (ae.below hd) (aJ.below ae hd) a5 h).2;have hX:=tB ae hd;obtain⟨aD,cx,av,cv,aF⟩:=aj;have c0:=m1.c 0 rfl;have c1:=m2.c 0 rfl;have c8:=aF.blk.c 8 rfl;have c9:=aF.blk.c 9 rfl;unfold aA at c0 c1;have aO:w1.drew.cell? (κ bw 0)=π W∧w1.drew.cell? (κ bp 0)=π p∧w1.drew.cell? (κ p 8)=ι m.own∧w1.drew.cell? (κ p 9)=ι m.br:=⟨c0,c1,c8,c9⟩
 have E:=χ (fun G o2 (U:J Θ o1 w1.drew o2 G)=>(show G.cell? (κ bw 0)=π W∧G.cell? (κ bp 0)=π p∧G.cell? (κ p 8)=ι m.own∧G.cell? (κ p 9)=ι m.br from by
   have e0:=(U.frozen bw m1.lt (fun q hq=>by rw[q1] at hq;cases hq)).1;have e1:=(U.frozen bp m2.lt (fun q hq=>by rw[q2] at hq;cases hq)).1;have e2:=(ZO (K:=(·=p)) U (fun _ _ h=>h) p aF.blk.lt (fun q hq=>by rw[aF.own] at hq;cases hq;rfl)).1
   exact⟨(aY e0 0).trans c0,(aY e1 0).trans c1,(aY e2 8).trans c8,(aY e2 9).trans c9⟩))
 have HN:=χ (fun G o2 (U:J Θ o1 w1.drew o2 G)=>(show A G n 307 [ι 0,ι 0,ι 0,ι 0,ι 0,ι 0,ζ] from (ZO (K:=(·=n)) U (fun _ _ h=>h) n O.lt (fun q hq=>by rw[aU] at hq;cases hq;rfl)).1.trans O));have aL:=χ (fun w7 w8 o' (U:J Θ o1 w1.drew o' w7) (hR:Fr (·=n) w7 w8)=>fq z an (hX.same ae U) O.lt aU ω hR)
 have M:=χ (fun (G w8:World) (hs:w1.drew.heap.size≤G.heap.size) (hf:Fr (·=n) G w8) (h:G.cell? (κ bw 0)=π W∧G.cell? (κ bp 0)=π p∧G.cell? (κ p 8)=ι m.own∧G.cell? (κ p 9)=ι m.br)=>(show w8.cell? (κ bw 0)=π W∧w8.cell? (κ bp 0)=π p∧w8.cell? (κ p 8)=ι m.own∧w8.cell? (κ p 9)=ι m.br from by
   have hb:=ao.lt;have aa:=a1.lt;have ac:=hP.lt;have e0:=hf.block bw (Za m1.lt hs) ω;have e1:=hf.block bp (Za m2.lt hs) ω;have e2:=hf.block p (Za aF.blk.lt hs) ω
   exact⟨(aY e0 0).trans h.1,(aY e1 0).trans h.2.1,(aY e2 8).trans h.2.2.1,(aY e2 9).trans h.2.2.2⟩))
 clear an ap aJ aF m1 m2 q1 q2 c0 c1 c8 c9 hP h hI ao a1 n1 n2 hX hd aU O;go_enter func372,ntmps372;go_upto_region 1 with fail;clear aP;refine bj [(0,true),(1,true),(2,true),(3,true),(4,true),(5,true),(6,true),(7,true),(8,true),(9,false),(10,true),(11,true),(12,false),(13,true)] (fun w'=>w'.cell? (κ bw 0)=π W∧w'.cell? (κ bp 0)=π p∧w'.cell? (κ p 8)=ι m.own∧w'.cell? (κ p 9)=ι m.br) ψ ψ aO ?_;iterate 9 (refine wpC_t ?_;try go_frame)
 refine xP ?_;intro K I;go_at_call 373;refine hC.mono ?_;rintro e G ⟨o2,aq,cs,rfl,ay⟩;obtain⟨a,cap,rfl,-⟩:=id ay;unfold bu at *;have aS:=E.out G o2 aq;have kn:=HN.out G o2 aq;clear hC aO;refine I _ _ _ Φ (fun _=>aS) ?_;clear I K;try go_frame
 iterate 2 (refine wpC_t ?_;try go_frame)
 obtain⟨r0,f0,r1,f1,r2,f2,r3,f3,r4,f4,r5,f5,r6,f6,-⟩:=kb6 kn;refine aN rfl (fun K I=>?_);simp only[List.getElem_toArray,List.getElem_cons_succ,List.getElem_cons_zero,List.setIfInBounds_toArray,List.set_cons_succ,List.set_cons_zero];go_simp;have aR:Fr (·=n) G (σ7 G n (ι y.sy) (ι y.th) (ι y.br) (ι y.fl) (ι y.v.kd) (ι y.v.n) (.slice a y.v.l.length cap)):=aE (S:=(·=n)) rfl 0 [(0,ι y.sy),(1,ι y.th),(2,ι y.br),(3,ι y.fl),(4,ι y.v.kd),(5,ι y.v.n),(6,.slice a y.v.l.length cap)] G;have aZ:A (σ7 G n (ι y.sy) (ι y.th) (ι y.br) (ι y.fl) (ι y.v.kd) (ι y.v.n) (.slice a y.v.l.length cap)) n 307 [ι y.sy,ι y.th,ι y.br,ι y.fl,ι y.v.kd,ι y.v.n,.slice a y.v.l.length cap]:=aW (b:=0) [(0,ι y.sy),(1,ι y.th),(2,ι y.br),(3,ι y.fl),(4,ι y.v.kd),(5,ι y.v.n),(6,.slice a y.v.l.length cap)] _ _ kn;have a':=M.out G _ aq.size aR aS;refine I _ _ _ Φ (fun _=>a') ?_;clear I K r0 r1 r2 r3 r4 r5 r6 f0 f1 f2 f3 f4 f5 f6;try go_frame
 refine wpC_t ?_;try go_frame
 refine bn ?_;simp only[List.getElem_toArray,List.getElem_cons_succ,List.getElem_cons_zero,List.set_cons_succ,List.set_cons_zero];obtain⟨u1,u2,u3⟩:=aL.out G _ o2 aq aR;have H:=ay.kept u2 u3;generalize (σ7 G n (ι y.sy) (ι y.th) (ι y.br) (ι y.fl) (ι y.v.kd) (ι y.v.n) (.slice a y.v.l.length cap):World)=w8 at *;obtain⟨e0,e1,e2,e3,e4,e5,e6,-⟩:=kc6 aZ;go_wp2_with fail;exact Zl (v:= .tuple #[.agg (ε y.sy y.th y.br y.fl y.v a cap),ι 0]) (by simp[results,results372,go_sem,e0,e1,e2,e3,e4,e5,e6]) rfl ⟨_,u1,_,rfl,H⟩
end
end
section
section
variable {o o':ab} {w w':World} {p W:Nat} {m:bR} {wm wm':aH} {L:List Nat}
def bM (bs:List Nat) (w w':World):Prop:=∀b∈bs,w'.heap[b]? =w.heap[b]?
def bM.trans {bs w1 G E} (h:bM bs w1 G) (V:bM bs G E):bM bs w1 E:=fun b hb=>(V b hb).trans (h b hb)
def bM.BD {bs o1 o2 w1 G} (U:J (·∈L) o1 w1 o2 G) (af:p∉L) (op:o1 p=some p) (hp:p < w1.heap.size) (h:∀b∈bs,b < w1.heap.size∧o1 b=none):bM (p :: bs) w1 G:=by
 intro b hb;rcases ZG.1 hb with rfl | hb
 ·exact (ZO (K:=(·=b)) U (fun q e=>by rw[e];exact af) b hp (fun q hq=>by rw[op] at hq;cases hq;rfl)).1
 ·exact (U.frozen b (h b hb).1 (fun q hq=>by rw[(h b hb).2] at hq;cases hq)).1
def bM.below {bs w1 G} (hb:Below (ν w1) w1 G) (h:∀b∈bs,b < w1.heap.size):bM bs w1 G:=fun b hx=>hb.block b (h b hx)
def w2 (z:Wf o w) (hI:aI o w W wm L) (hE:a6 o w) (a5:∀x∈wm.sys,bK x) (hP:bD o w p m) (af:p∉L) (hk:m.kd≠13) (ha:m.at_=13) {y wm1} (H:ic m.own m.br wm=(.ok y,wm1)) (h2:cS m.n (m.kd == 5) y wm1=(.ok (),wm')) :
  Calls prog 322 #[π p,π W] w (cg W p {m with at_:=14} wm' L false o w):=by
 obtain⟨w1,bl,bf,a1,O⟩:=al1 w 297 [π p];obtain⟨G,bo,-,ak,Z,au⟩:=al2 a1 bf 27 [π W];replace O:=au _ _ _ O;clear au;refine yx ?_;intro n0 n1;have aM:=z.below ak;have I:=(tB z ak).kp;have ac:=hI.below z ak;have aF:=hP.kept I ak.size trivial;have aB:=hE.kept I;have aQ:=hP.lt;obtain rfl:wm1=wm:=(lW z hI a5 H).1
 have aG:=lz 372 #[π (η w),ϖ w] (fun _=>False) (fun l o w=>a4 (Fz o w) w y l) o G aM (fun _ h=>h.elim) (fun l o1 w1 G h I hs=>h.kept I hs) (fun l o w h=>by
     obtain⟨a,c,rfl,-⟩:=h;exact⟨_,_,_,_,_,_,_,_,_,rfl⟩) Ψ (fun o5 V aL az _=>by
     have bb:=az.kp
     exact rl aL (ac.kept bb az.size fun _ _=>Zk) a5 (aF.kept bb az.size trivial) H _ _ (az.frozen.BF Z n1).1 (az.frozen.BF O n0).1 (az.frozen.BF Z n1).2 (az.frozen.BF O n0).2)
 have aS:=χ ac;have bi:=χ aF;have aV:=χ aB;have K0:=χ O;have K1:=χ Z;clear hP hI ac aF hE aB H O Z I;go_enter func322,ntmps322;go_upto_region 2 with (go_at_call 356;refine aG.mono ?_;rintro e E ⟨o3,ag,l,rfl,ay⟩;obtain⟨a,cap,rfl,-⟩:=id ay;unfold bu at *);have ax:=aM.BD ag;have ah:=am E (.cells #[ι y.sy,ι y.th,ι y.br,ι y.fl,ι y.v.kd,ι y.v.n,.slice a y.v.l.length cap] 307);have k5:=Zh E 307 [ι y.sy,ι y.th,ι y.br,ι y.fl,ι y.v.kd,ι y.v.n,.slice a y.v.l.length cap];have aA:o3 E.heap.size=none:=ax.ge (Zc _);generalize E.alloc (ε y.sy y.th y.br y.fl y.v a cap)=M at *;have ao:=ag.same aM (Zb ax ah);have aK:=aM.BD ao;have aa:=ao.kp;have bw:=aS.out.kept aa ao.size fun _ _=>Zk;have aJ:=aV.out.kept aa;obtain⟨aD,cx,av,cv,aq⟩:=bi.out.kept aa ao.size trivial;have aU:=ay.kept (kB ax ah) ah.size;have Y:Calls prog 352 #[π p] M (μ (.bool false) M):=by have h2:=kg aq;rwa [show (m.kd == 13)=false by simp[hk]] at h2
 obtain⟨j0,q0⟩:=ao.frozen.BF K0.out n0;obtain⟨j1,q1⟩:=ao.frozen.BF K1.out n1;have d0:=j0.c 0 rfl;have d1:=j1.c 0 rfl;clear aG ag ay;go_upto_region 4 with (go_at_call 352;refine γ Y ?_);generalize E.heap.size=be at *;have hd:Below (ν M) M M.drew:=(Zj _ _).drew;have bh:=(tB aK hd).kp;have aR:=me (aq.kept bh hd.size trivial);have aE:=sI (aK.below hd) (bw.below aK hd) (aJ.kept bh) (aU.kept bh hd.size) h2;unfold bu at aE;have ad:∀b∈[w.heap.size,w.heap.size+1,be],b < M.heap.size∧o3 b=none:=by
  intro b hb;simp only[List.mem_cons,List.not_mem_nil,or_false] at hb;rcases hb with rfl | rfl | rfl
  ·exact⟨j0.lt,q0⟩
  ·exact⟨j1.lt,q1⟩
  ·exact⟨k5.lt,aA⟩
 have HC:=χ (fun w' (h:bM [p,w.heap.size,w.heap.size+1,be] M w')=>(show w'.cell? (κ (ν w) 0)=π p∧w'.cell? (κ (η w) 0)=π W∧w'.cell? (κ p 11)=ι m.n∧w'.cell? (κ p 7)=ι 13∧w'.cell? (κ be 0)=ι y.sy∧w'.cell? (κ be 1)=ι y.th∧w'.cell? (κ be 2)=ι y.br∧w'.cell? (κ be 3)=ι y.fl∧w'.cell? (κ be 4)=ι y.v.kd∧w'.cell? (κ be 5)=ι y.v.n∧w'.cell? (κ be 6)=some (.slice a y.v.l.length cap) from
   ⟨(aY (h (ν w) ξ) 0).trans d0,(aY (h (η w) ξ) 0).trans d1,(aY (h p ξ) 11).trans (aq.blk.c 11 rfl),(aY (h p ξ) 7).trans ((aq.blk.c 7 rfl).trans (by rw[ha])),(aY (h be ξ) 0).trans (k5.c 0 rfl),(aY (h be ξ) 1).trans (k5.c 1 rfl),(aY (h be ξ) 2).trans (k5.c 2 rfl),(aY (h be ξ) 3).trans (k5.c 3 rfl),(aY (h be ξ) 4).trans (k5.c 4 rfl),(aY (h be ξ) 5).trans (k5.c 5 rfl),(aY (h be ξ) 6).trans (k5.c 6 rfl)⟩))
 have bc:=χ (fun w' o' (U:J (·∈L) o3 M.drew o' w')=>(bM.BD (p:=p) (bs:=[w.heap.size,w.heap.size+1,be]) U af aq.own aq.blk.lt ad:bM [p,w.heap.size,w.heap.size+1,be] M.drew w'));have a0:∀b∈[p,w.heap.size,w.heap.size+1,be],b < M.heap.size:=by
  intro b hb;rcases ZG.1 hb with rfl | hb
  ·exact aq.blk.lt
  ·exact (ad b hb).1
 replace a0:=χ a0;have aO:bM [p,w.heap.size,w.heap.size+1,be] M M.drew:=fun _ _=>rfl;have bT:=χ aq;have bY:=χ ao;clear aq bw aJ aU ad aa j0 j1 k5 d0 d1 q0 q1 aA h2 Y bh;generalize sd (m.kd == 5)=sv at *;refine bj [(0,true),(1,true),(2,true),(3,true),(4,true),(5,true),(6,true),(8,true),(7,false),(9,false),(10,false),(11,false)] (fun w'=>bM [p,w.heap.size,w.heap.size+1,be] M w') ψ ψ aO ?_;iterate 8 (refine wpC_u HC.out ?_;refine pe ?_)
 refine xP ?_;intro K I;go_at_call 359;refine γ aR ?_;refine I _ _ _ Φ (fun _=>aO) ?_;clear I K aR;refine pe ?_;refine xP ?_;intro K I;go_at_call 375;refine aE.mono ?_;rintro e V ⟨o5,az,aC,rfl⟩;have aX:=aO.trans (bc.out V o5 az);refine I _ _ _ Φ (fun _=>aX) ?_;clear I K aE;refine pe ?_;refine xP ?_;intro K I;have aw:=am V (.cells #[ι 0] 33);have bg:=aX.trans (bM.below aw (fun b hb=>Za (a0.out b hb) az.size));have ai:=ia (ν V) 1 (V.alloc θ2) ((Zh V 33 [ι 0]).c 0 rfl);refine I _ _ _ Φ (fun _=>bg) ?_;clear I K;refine pe ?_;generalize V.alloc θ2=w6 at *;refine xP ?_;intro K I;go_at_call 364;refine γ ai ?_;refine I _ _ _ Φ (fun _=>bg) ?_;clear I K ai;refine pe ?_;refine bn ?_;go_upto_region 5 with fail;have aL:=(aK.below hd).BD az;have aP:=aL.below aw;have a3:J (·∈L) o3 M.drew o5 w6:=az.same (aK.below hd) (Zb aL aw);have aj:J (·∈L) o3 M.drew o5 w6.drew:=a3.same (aK.below hd) (Zb aP (Zj _ _).drew);have a7:=(tB aL (aw.trans ((Zj _ w6).drew.mono aw.size))).kp;have bv:=(bT.out.kept ((tB aK hd).et (K:=(·=p)) fun _ _=>id) hd.size rfl).kept (aj.et (K:=(·=p)) fun q e=>by rw[e];exact af) aj.size rfl;have ap:aT M.drew.heap.size W wm' L o5 w6.drew:=by obtain⟨L',H,h2⟩:=aC;exact⟨L',H.kept a7 aw.size fun _ _=>Zk,h2⟩
 obtain⟨t1,t2⟩:=bv.state (aP.below (Zj _ _).drew) 14;have an:J Θ o w o3 M.drew:=((Zb z ak).same z bY.out).same z (Zb aK hd);have HF:=χ (cg.Cd (b:=false) z (an.more z fun _ _ h=>h.elim) af aQ aj ap t1 ⟨aD,cx,av,cv,t2⟩);have f7:w6.drew.frozen? (κ p 7)=false:=bv.blk.fz 7;clear t1 t2 a3 aj a7 bv ap an aC az aX aL aP aw;have ae:bM [p,w.heap.size,w.heap.size+1,be] M w6.drew:=bg;refine bj [(0,true),(1,true),(2,true),(3,true),(4,true),(5,false),(6,false),(7,true),(8,false)] (fun w'=>bM [p,w.heap.size,w.heap.size+1,be] M w') ψ ψ ae ?_;generalize w6.drew=w7 at *;iterate 5 (refine wpC_u HC.out ?_;refine pe ?_)
 refine xP ?_;intro K I;go_at_call 366;refine γ (pb _) ?_;refine I _ _ _ Φ (fun _=>ae) ?_;clear I K;refine pe ?_;refine xP ?_;intro K I;refine I _ _ _ Φ (fun _=>ae) ?_;clear I K;refine pe ?_;refine wpC_u HC.out ?_;refine pe ?_;refine aN rfl (fun K I=>?_);have c7:=(HC.out _ ae).2.2.2.1;go_simp;refine I _ _ _ Φ (fun h=>(ZR (h.symm.trans ψ)).elim) ?_;clear I K;refine pe ?_;refine bn ?_;go_wp2_with fail;go_ret;exact HF.out
end
end
section
section
variable {o o':ab} {w w':World} {p W:Nat} {m:bR} {wm wm':aH} {L:List Nat}
def tA (z:Wf o w) (hI:aI o w W wm L) (hE:a6 o w) (hP:bD o w p m) (af:p∉L) {r} (h:eG m.n (!(m.kd == 5)) m.place wm=(.ok r,wm')) (bw bp bo B) (hB:B≤w.heap.size) (ao:A w bw 27 [aA W]) (a1:A w bp 297 [aA p]) (aC:A w bo 4 [Δ]) (n1:o bw=none) (n2:o bp=none) (n3:o bo=some bo) (V:bo∉L) (aL:bo≠p) :
  Calls prog 357 #[π bw,π bp,π bo] w fun e w'=>∃o',J (fun k=>k∈L∨k=bo) o w o' w'∧∃l,e= .returned (.tuple #[.agg l.toArray,ι 0])∧b9 B W wm' L r bo l o' w':=by
 obtain⟨aD,cx,av,cv,hP⟩:=hP;refine Ax ?_;intro an aU O hL ae ap aJ aP aj m1 m2 m3 q1 q2 q3 aa ay l1 l2 l3;have d1:bw≠bo:=by rintro rfl;rw[n1] at n3;cases n3
 have d2:bp≠bo:=by rintro rfl;rw[n2] at n3;cases n3
 have d3:p≠bo:=fun e=>aL e.symm;have aS:=an;have a8:(w.alloc θ).heap.size=w.heap.size+1:=by simp
 clear ao a1 aC hI hE hP n1 n2 n3;generalize o.set (ν w) (some w.heap.size)=o4 at *;obtain⟨n4,bc⟩:∃n,w.heap.size=n:=⟨_,rfl⟩
 have ak:=χ (fun E M o' (l:List Value) (b:Bool) (H:J (·∈L) o4 (w.alloc θ) o' E) (h2:aT (w.alloc θ).heap.size W wm' L o' E) (h3:FR (Fz o' E) E r l b) (h4:Fr (fun k=>k=n4∨k=bo) E M) (h5:A M bo 4 [.bool b])=>
   (show ∃o',J (fun k=>k∈L∨k=bo) o w o' M∧b9 B W wm' L r bo l o' M from by
     have ax:=ae.BD H;have ob:o' bo=some bo:=H.owned m3.lt q3 V;have on:o' n4=some n4:=by rw[←bc];exact H.owned ω aU aa
     have h6:J (fun k=>k=n4∨k=bo) o' E o' M:=Z9 ax h4 fun x _ hx=>by
       rcases hx with rfl | rfl
       ·exact⟨x,on,.inl rfl⟩
       ·exact⟨x,ob,.inr rfl⟩
     have I:aM (fun k=>¬(k=n4∨k=bo)) o' E o' M:=h6.et fun _ h=>h;obtain⟨L',g1,g2⟩:=h2;refine⟨o',(((aS.more z fun _ _ h=>h.elim).same z (H.more ae fun _ _ h=>.inl h))).trans z h6 fun k hk e=>?_,⟨L',g1.kept I h6.size fun k hk=>?_,fun k hk=>(g2 k hk).imp id fun h=>by omega⟩,b,h3.kept I h6.size,h5,ob⟩
     ·rcases e with rfl | rfl
      ·omega
      ·exact .inr rfl
     ·rintro (rfl | rfl)
      ·rcases g2 _ hk with h | h
       ·exact aa (bc ▸ h)
       ·omega
      ·rcases g2 _ hk with h | h
       ·exact V h
       ·have:=m3.lt
        omega))
 have Z:∀(o':ab) (E:World),J (·∈L) o4 (w.alloc θ) o' E→(∀b∈[bw,bp,p],E.heap[b]? =(w.alloc θ).heap[b]?)∧A E bo 4 [Δ]∧A E n4 307 [ι 0,ι 0,ι 0,ι 0,ι 0,ι 0,ζ]:=AA;rw[bc] at ay l1 l2 l3;have c0:=m1.c 0 rfl;have c1:=m2.c 0 rfl;have c2:=aj.blk.c 11 rfl;have bS:(w.alloc θ).cell? (κ p 17)=ι (m.place:Nat):=aj.blk.c 17 rfl;unfold aA at c0 c1;have ad:∀b∈[bw,bp,p],b < (w.alloc θ).heap.size:=za;have az:∀b∈[bw,bp,p],b≠n4∧b≠bo:=by
  intro b hb;simp only[List.mem_cons,List.not_mem_nil,or_false] at hb;rcases hb with rfl | rfl | rfl
  ·exact⟨l1,d1⟩
  ·exact⟨l2,d2⟩
  ·exact⟨l3,d3⟩
 clear aS an ap l1 l2 l3 d1 d2 d3 O aa V aL;go_enter func357,ntmps357;go_upto_region 1 with fail;generalize w.alloc θ=w1 at *;have hd:Below (ν w1) w1 w1.drew:=(Zj _ _).drew;have bh:=(tB ae hd).kp;have aR:=me (aj.kept bh hd.size trivial);have am:=ii o4 (m.kd == 5) w1.drew (aP.kept bh);have hA:∀G:World,Below (ν w1) w1 G→Calls prog 340 #[π W,ι m.n,ι (sd (!(m.kd == 5))),ι (m.place:Nat)] G fun e E=>∃(x0 x1 x2 x3 x4 x5:Int) (xa:Option Addr) (xn xc:Nat) (xb:Bool),e= .returned (.tuple #[.agg #[ι x0,ι x1,ι x2,ι x3,ι x4,ι x5,.slice xa xn xc],.bool xb,ι 0]) ∧
   Hid ((∃o',J (·∈L) o4 w1 o' E∧aT (ν w1) W wm' L o' E∧FR (Fz o' E) E r [ι x0,ι x1,ι x2,ι x3,ι x4,ι x5,.slice xa xn xc] xb)∧((∀b∈[bw,bp,p],E.heap[b]? =w1.heap[b]?)∧A E bo 4 [Δ]∧A E n4 307 [ι 0,ι 0,ι 0,ι 0,ι 0,ι 0,ζ])∧w1.heap.size≤E.heap.size):=by
  intro G hb;have aq:J (·∈L) o4 w1 o4 G:=Zb ae hb;have I:=(tB ae hb).kp;refine (nA (ae.BD aq) (aJ.kept I hb.size fun _ _=>Zk) (aP.kept I) (i:=m.place) h).mono ?_;exact Az
 have ai:=hA _ hd;have HC:=χ (fun w' (h:bM [bw,bp,p] w1 w')=>(show w'.cell? (κ bw 0)=π W∧w'.cell? (κ bp 0)=π p∧w'.cell? (κ p 11)=ι m.n∧w'.cell? (κ p 17)=ι (m.place:Nat) from⟨(aY (h bw ξ) 0).trans c0,(aY (h bp ξ) 0).trans c1,(aY (h p ξ) 11).trans c2,(aY (h p ξ) 17).trans bS⟩));have a0:=χ ad;have ac:=χ az;have aO:bM [bw,bp,p] w1 w1.drew:=fun _ _=>rfl;clear hA ad az Z aj aP aJ ae h m1 m2 m3 q1 q2 q3 aU bh c0 c1 c2 bS;generalize sd (m.kd == 5)=sv at *;generalize sd (!(m.kd == 5))=sw at *;refine bj [(0,true),(1,true),(2,true),(3,true),(4,true),(5,true),(6,true),(9,true),(10,true),(11,true),(12,true),(7,false),(8,false),(13,false),(14,true),(15,true),(16,true),(17,true),(18,false),(19,false),(20,true)] (fun w'=>bM [bw,bp,p] w1 w') ψ ψ aO ?_;iterate 11 (refine wpC_u HC.out ?_;refine pe ?_)
 refine xP ?_;intro K I;go_at_call 359;refine γ aR ?_;refine I _ _ _ Φ (fun _=>aO) ?_;clear I K aR;refine pe ?_;refine xP ?_;intro K I;go_at_call 358;refine γ am ?_;refine I _ _ _ Φ (fun _=>aO) ?_;clear I K am;refine pe ?_;refine xP ?_;intro K I;go_at_call 340;refine ai.mono ?_;rintro e E ⟨x0,x1,x2,x3,x4,x5,xa,xn,xc,xb,rfl,aQ⟩;have HX:=aQ.out;have ah:=HX.2.1.2.2;have a5:bM [bw,bp,p] w1 E:=HX.2.1.1;have aG:∀b∈[bw,bp,p],b < E.heap.size:=fun b aw=>Za (a0.out b aw) HX.2.2;have aZ:bM [bw,bp,p] w1 (σ7 E n4 (ι x0) (ι x1) (ι x2) (ι x3) (ι x4) (ι x5) (.slice xa xn xc)):=fun b aw=>((aE (S:=(·=n4)) rfl 0 [(0,ι x0),(1,ι x1),(2,ι x2),(3,ι x3),(4,ι x4),(5,ι x5),(6,.slice xa xn xc)] E).block b (aG b aw) (ac.out b aw).1).trans (a5 b aw);have aX:bM [bw,bp,p] w1 (σ (σ7 E n4 (ι x0) (ι x1) (ι x2) (ι x3) (ι x4) (ι x5) (.slice xa xn xc)) bo 0 (.bool xb)):=fun b aw=>((Z4 (S:=(·=bo)) (q:=κ bo 0) (.inl rfl)).block b (Za (aG b aw) (aE (S:=(·=n4)) rfl 0 [(0,ι x0),(1,ι x1),(2,ι x2),(3,ι x3),(4,ι x4),(5,ι x5),(6,.slice xa xn xc)] E).size) (ac.out b aw).2).trans (aZ b aw);refine I _ _ _ Φ (fun _=>a5) ?_;clear I K ai;refine pe ?_;iterate 4 (refine wpC_u HC.out ?_;refine pe ?_)
 obtain⟨r0,f0,r1,f1,r2,f2,r3,f3,r4,f4,r5,f5,r6,f6,-⟩:=kb6 ah;refine xP ?_;intro K I;refine I _ _ _ Φ (fun _=>aZ) ?_;clear I K r0 r1 r2 r3 r4 r5 r6 f0 f1 f2 f3 f4 f5 f6;refine pe ?_;have B0:A (σ7 E n4 (ι x0) (ι x1) (ι x2) (ι x3) (ι x4) (ι x5) (.slice xa xn xc)) bo 4 [Δ]:=((aE (S:=(·=n4)) (g:=n4) rfl 0 [(0,ι x0),(1,ι x1),(2,ι x2),(3,ι x3),(4,ι x4),(5,ι x5),(6,.slice xa xn xc)] E).block bo HX.2.1.2.1.lt ay).trans HX.2.1.2.1;obtain⟨v0,v1,-⟩:=kb0 B0;refine xP ?_;intro K I;refine I _ _ _ Φ (fun _=>aX) ?_;clear I K v0 v1;refine pe ?_;refine wpC_u HC.out ?_;refine pe ?_;refine bn ?_;refine pe ?_;have A0:A (σ (σ7 E n4 (ι x0) (ι x1) (ι x2) (ι x3) (ι x4) (ι x5) (.slice xa xn xc)) bo 0 (.bool xb)) n4 307 [ι x0,ι x1,ι x2,ι x3,ι x4,ι x5,.slice xa xn xc]:=((Z4 (S:=(·=bo)) (q:=κ bo 0) (.inl rfl)).block n4 (aW (b:=0) [(0,ι x0),(1,ι x1),(2,ι x2),(3,ι x3),(4,ι x4),(5,ι x5),(6,.slice xa xn xc)] _ _ HX.2.1.2.2).lt ay.symm).trans (aW (b:=0) [(0,ι x0),(1,ι x1),(2,ι x2),(3,ι x3),(4,ι x4),(5,ι x5),(6,.slice xa xn xc)] _ _ HX.2.1.2.2);obtain⟨r0,f0,r1,f1,r2,f2,r3,f3,r4,f4,r5,f5,r6,f6,-⟩:=kb6 A0;go_wp2_with fail;refine Aw ?_;intro F1 F2 h4 B1 B2 B3 A1 A2 Y o' g1 g2 g3 o2 t1 t2;exact Zl (v:= .tuple #[.agg #[ι x0,ι x1,ι x2,ι x3,ι x4,ι x5,.slice xa xn xc],ι 0]) (by simp[results,results357,go_sem,A.c Y 0 rfl,A.c Y 1 rfl,A.c Y 2 rfl,A.c Y 3 rfl,A.c Y 4 rfl,A.c Y 5 rfl,A.c Y 6 rfl]) rfl ⟨o2,t1,_,rfl,t2⟩
end
end
section
section
variable {o:ab} {w:World} {p W:Nat} {m:bR} {wm wm':aH} {L:List Nat}
def cg.BY {w1 G o1 m1 b B} (z:Wf o w) (an:J (fun k=>k∈L∨k=p) o w o1 w1) (hB:w.heap.size≤B) (af:p∉L) (aQ:p < w.heap.size) (hS:aT B W wm' L o1 w1) (aq:J (·=p) o1 w1 o1 G) (hP:bD o1 G p m1):cg W p m1 wm' L b o w (.returned (.bool b)) G:=by exact AB
def vP (z:Wf o w) (hI:aI o w W wm L) (hE:a6 o w) (hP:bD o w p m) (af:p∉L) (h:eG m.n (!(m.kd == 5)) m.place wm=(.ok none,wm')):Calls prog 314 #[π p,π W] w (cg W p {m with at_:=13} wm' L false o w):=by
 obtain⟨w1,ae,z1,b1,O⟩:=al1 w 297 [aA p];obtain⟨G,ap,z2,b2,Z,au⟩:=al2 b1 z1 27 [aA W];replace O:=au _ _ _ O;clear au;have aM:=z.below b2;obtain⟨wx,ac⟩:∃u,G.alloc (.cells #[Δ] 4)=u:=⟨_,rfl⟩;obtain⟨E,ax⟩:∃u,wx.setCell ⟨w.heap.size+1+1,0,none⟩ (.bool false)=u:=⟨_,rfl⟩;have zx:wx.heap.size=w.heap.size+1+1+1:=by rw[←ac];simp[z2]
 have O:A wx (ν w) 297 [aA p]:=by rw[←ac];exact O.alloc _
 have Z:A wx (η w) 27 [aA W]:=by rw[←ac];exact Z.alloc _
 have k2:A wx (w.heap.size+1+1) 4 [Δ]:=by rw[←ac,←z2];exact Zh G _ _
 have bo:J Θ o G (o.set (w.heap.size+1+1) (some (w.heap.size+1+1))) wx:=by rw[←ac,←z2];exact ZJ aM _
 obtain⟨cX,gX,-⟩:=kb0 k2;have U:Fr (·=w.heap.size+1+1) wx E:=by rw[←ax];exact Z4 (q:=κ (w.heap.size+1+1) 0) (.inl rfl)
 have z3:E.heap.size=w.heap.size+1+1+1:=by rw[←ax];simpa using zx
 have O:A E (ν w) 297 [aA p]:=(U.block _ O.lt ω).trans O;have Z:A E (η w) 27 [aA W]:=(U.block _ Z.lt ω).trans Z;have k2:A E (w.heap.size+1+1) 4 [Δ]:=by rw[←ax];exact k2.set 0 _
 have ak:J Θ o G (o.set (w.heap.size+1+1) (some (w.heap.size+1+1))) E:=bo.trans aM (Z9 (D:=(·=w.heap.size+1+1)) (aM.BD bo) U fun x _ hx=>⟨w.heap.size+1+1,by rw[hx];exact Zw _ _ _,rfl⟩) fun k hk e=>by omega
 clear bo U zx;have n0:(o.set (w.heap.size+1+1) (some (w.heap.size+1+1))) w.heap.size=none:=by rw[ab.BG _ _ ω];exact z.ge (Zc _)
 have n1:(o.set (w.heap.size+1+1) (some (w.heap.size+1+1))) (w.heap.size+1)=none:=by rw[ab.BG _ _ ω];exact z.ge ω
 have n2:(o.set (w.heap.size+1+1) (some (w.heap.size+1+1))) (w.heap.size+1+1)=some (w.heap.size+1+1):=Zw _ _ _;generalize o.set (w.heap.size+1+1) (some (w.heap.size+1+1))=o3 at *;refine zb ?_;intro ag aw aU ba aY ad hL aQ;have aG:=lz 357 #[π (η w),ϖ w,π (ς w)] (fun k=>k∈L∨k=w.heap.size+1+1) (b9 (η E) W wm' L none (w.heap.size+1+1)) o3 E aw
   (fun k hk=>by rcases hk with h | h;· have:=hL k h;omega
                 ·omega)
   (b9.stays (fun k hk=>by have:=hL k hk;omega) ω ω) b9.agg Ψ
   (fun o2 M aK ao aZ=>by
     have aa:=ao.kp
     exact tA aK (ba.kept aa ao.size fun _ _=>Zk) (aY.kept aa) (ad.kept aa ao.size trivial) af h _ _ _ _ ω (aa.BF Z n1).1 (aa.BF O n0).1 (aa.blk k2 n2 trivial).1 (aa.BF Z n1).2 (aa.BF O n0).2 (aa.blk k2 n2 trivial).2 (fun h=>by have:=hL _ h;omega) ω)
 have bF:=χ ag;have aW:=χ ad;have a0:=χ O;clear hE aY hI ba hP ad h Z k2 n1 n2 ag aU ak O;unfold aA at *;go_enter func314,ntmps314;go_wp2_with fail;refine aG.mono ?_;rintro e1 M ⟨o4,ao,l,rfl,aR,b,Y,aj,I⟩;obtain⟨rfl,rfl⟩:=Y;refine AF ?_;intro aK aq ai bb aF aD cx av cv bp aC az aL;have k5:A (M.alloc θ) (ν w) 297 [π p]:=(az.frozen (ν w) a0.out.lt (fun q hq=>by rw[n0] at hq;cases hq)).1.trans a0.out;clear aq aR bb ai aj ao;go_upto_region 4 with fail;generalize M.alloc θ=V at *;have c0:=k5.c 0 rfl;have cb:=Zz aF 0 rfl;have c7:=bp.blk.c 7 rfl;have f7:=bp.blk.fz 7;obtain⟨s1,s2⟩:=bp.state aL 13;have HF:=χ (cg.BY (b:=false) z ((bF.out.more (D':=fun k=>k∈L∨k=p) z fun _ _ h=>h.elim).trans z az fun k hk h=>h.imp id fun h=>by omega) (show w.heap.size≤E.heap.size+1 by omega) af aQ aC s1 ⟨_,_,_,_,s2⟩);clear s1 s2 aC az bp aG aW a0;go_wp2_with fail;go_ret;exact HF.out
end
end
def gG (I a1 a2 a3 w):CallsD prog 292 #[I,a1,a2,a3] .returning w fun e u' w'=>e= .returned (.tuple #[])∧u'= .returning∧w'=w:=by
 refine ZB func292 rfl fun c₀ cs hu=>?_;apply ZW;apply ZH;simp[wpOpsS,go_sem,recoverD,hu,ntmps292,Exit.thenS];refine xS ?_;go_wp2_with fail;cases c₀
 simp_all [bodyPostS,results,results292]
def fN:List (Int×Nat):=[(1,313),(2,314),(3,315),(4,316),(5,317),(6,318),(7,317),(8,319),(9,320),(10,319),(11,321),(12,321),(13,322),(14,321),(15,323),(16,321),(17,324)]
def r6 (w):Calls prog 291 #[] w fun e w'=>e= .returned (.map (some w.heap.size))∧H w' (ν w) fN∧Below (ν w) w w':=by
 refine ym ?_;intro am az A;obtain⟨w1,ay,O,af⟩:=h (P:=prog) underlying428 underlying401 1 (.func (.func 313) #[] #[]) az (Zc _) A rfl;obtain⟨G,aK,z,aa⟩:=h (P:=prog) underlying428 underlying401 2 (.func (.func 314) #[] #[]) af (Zc _) O rfl;obtain⟨E,a9,J,ac⟩:=h (P:=prog) underlying428 underlying401 3 (.func (.func 315) #[] #[]) aa (Zc _) z rfl;obtain⟨M,aq,I,ah⟩:=h (P:=prog) underlying428 underlying401 4 (.func (.func 316) #[] #[]) ac (Zc _) J rfl;obtain⟨V,ak,aj,ai⟩:=h (P:=prog) underlying428 underlying401 5 (.func (.func 317) #[] #[]) ah (Zc _) I rfl;obtain⟨w6,ao,U,aw⟩:=h (P:=prog) underlying428 underlying401 6 (.func (.func 318) #[] #[]) ai (Zc _) aj rfl;obtain⟨w7,aH,L,ae⟩:=h (P:=prog) underlying428 underlying401 7 (.func (.func 317) #[] #[]) aw (Zc _) U rfl;obtain⟨w8,Z,Y,aY⟩:=h (P:=prog) underlying428 underlying401 8 (.func (.func 319) #[] #[]) ae (Zc _) L rfl;obtain⟨w9,aJ,ab,aT⟩:=h (P:=prog) underlying428 underlying401 9 (.func (.func 320) #[] #[]) aY (Zc _) Y rfl;obtain⟨aZ,aS,aG,a6⟩:=h (P:=prog) underlying428 underlying401 10 (.func (.func 319) #[] #[]) aT (Zc _) ab rfl;obtain⟨aO,aN,aF,bc⟩:=h (P:=prog) underlying428 underlying401 11 (.func (.func 321) #[] #[]) a6 (Zc _) aG rfl;obtain⟨a',aR,aI,aM⟩:=h (P:=prog) underlying428 underlying401 12 (.func (.func 321) #[] #[]) bc (Zc _) aF rfl
 obtain⟨bw,aQ,aD,ag⟩:=h (P:=prog) underlying428 underlying401 13 (.func (.func 322) #[] #[]) aM (Zc _) aI rfl;obtain⟨aW,aX,ax,ad⟩:=h (P:=prog) underlying428 underlying401 14 (.func (.func 321) #[] #[]) ag (Zc _) aD rfl;obtain⟨an,aP,ap,aB⟩:=h (P:=prog) underlying428 underlying401 15 (.func (.func 323) #[] #[]) ad (Zc _) ax rfl;obtain⟨bi,aV,aC,aE⟩:=h (P:=prog) underlying428 underlying401 16 (.func (.func 321) #[] #[]) aB (Zc _) ap rfl;obtain⟨aL,aU,aA,a4⟩:=h (P:=prog) underlying428 underlying401 17 (.func (.func 324) #[] #[]) aE (Zc _) aC rfl;have hF:H aL (ν w) fN:=⟨_,aA⟩;clear A O z J I aj U L Y ab aG aF aI aD ax ap aC aA az af aa ac ah ai aw ae aY aT a6 bc aM ag ad aB aE;go_enter func291,ntmps291;go_wp2_with fail;go_ret;exact⟨rfl,hF,a4⟩
def sM {w mm} (h:H w mm fN):(Instr.lookup 428 (.map (some mm)) (ι 1) true).run prog w= .ok (.tuple #[.func (.func 313) #[] #[],Υ]) w:=
 ZT (j:=0) underlying428 underlying401 h ψ
def qa {w mm} (h:H w mm fN):(Instr.lookup 428 (.map (some mm)) (ι 2) true).run prog w= .ok (.tuple #[.func (.func 314) #[] #[],Υ]) w:=
 ZT (j:=1) underlying428 underlying401 h ψ
def uF {w mm} (h:H w mm fN):(Instr.lookup 428 (.map (some mm)) (ι 13) true).run prog w= .ok (.tuple #[.func (.func 322) #[] #[],Υ]) w:=
 ZT (j:=12) underlying428 underlying401 h ψ
def pR {w mm} (h:H w mm fN):(Instr.lookup 428 (.map (some mm)) (ι 14) true).run prog w= .ok (.tuple #[.func (.func 321) #[] #[],Υ]) w:=
 ZT (j:=13) underlying428 underlying401 h ψ
def vt:(prog.info? 417).map (·.size)=some 20:=by kernel_rfl
def yf {p q:Prop} (k:q) (h:Zq q→p:=by
 intro mq;refine pe ?_;iterate 5 (refine wpC_t ?_;refine pe ?_)
 refine bn ?_
 exact mq.u):p:=h ⟨k⟩
def zc {p q:Prop} (k:q) (h:Zq q→p:=by
 intro mq;refine leaves_cons (f:=292) (args:=#[ϖ M,ϖ w,π (η w),π (ς w)]) ξ (by simp[go_sem]) ?_;refine (gG _ _ _ _ _).mono ?_
 exact mq.u):p:=h ⟨k⟩
def A8 {p:Prop} (h:p:=by
 go_upto_region 14 with fail;go_quiet (fail);go_upto_region 16 with fail;have U:A (σ (w7.drewN nq) (η w) 0 (ι 2)) (η w) 273 _:=((aL.out.1.drewN nq).set 0 (ι 2));have ac:A (σ (w7.drewN nq) (η w) 0 (ι 2)) (w.heap.size+1+1) 33 [ι 0]:=((aL.out.2.drewN nq).BJ (q:=κ (η w) 0) ξ (ι 2));have ap:Fr (fun b=>b=w.heap.size+1∨b=w.heap.size+1+1) w7 (σ (w7.drewN nq) (η w) 0 (ι 2)):=(Fr.drewN nq).same (Z4 (q:=κ (η w) 0) (.inl (.inl rfl)));clear m0 m1 m2 m3 g0 g1 g2 g3 e0 h0;generalize (σ (w7.drewN nq) (η w) 0 (ι 2):World)=wM at *;have U:A wM (η w) 273 [ι 2,ι 0,ι 0,ι 0]:=U;obtain⟨m0,g0,m1,g1,m2,g2,m3,g3,-⟩:=kb3 U;obtain⟨e0,h0,-⟩:=kb0 ac;have V:=((((U.set 0 (ι 2)).set 1 (ι 0)).set 2 (ι 0)).set 3 (ι 0)).BJ (q:=κ (w.heap.size+1+1) 0) ξ (ι 0);have a4:=((((ac.BJ (q:=κ (η w) 0) ξ (ι 2)).BJ (q:=κ (η w) 1) ξ (ι 0)).BJ (q:=κ (η w) 2) ξ (ι 0)).BJ (q:=κ (η w) 3) ξ (ι 0)).set 0 (ι 0);have an:Fr (fun b=>b=w.heap.size+1∨b=w.heap.size+1+1) w7 (σ (σ4 wM (η w) (ι 2) (ι 0) (ι 0) (ι 0)) (w.heap.size+1+1) 0 (ι 0)):=ap.same (((((Z4 (q:=κ (η w) 0) (.inl (.inl rfl))).same (Z4 (q:=κ (η w) 1) (.inl (.inl rfl)))).same (Z4 (q:=κ (η w) 2) (.inl (.inl rfl)))).same (Z4 (q:=κ (η w) 3) (.inl (.inl rfl)))).same (Z4 (q:=κ (w.heap.size+1+1) 0) (.inl (.inr rfl))));have HE:=χ (cM.fin (mv:=⟨2,0,0,0⟩) HW.out a' HL.out bA.out bE.out.1 ω (by have:=aH.out.size;omega) a2 bd HC.out.1 HC.out.2.1 HC.out.2.2 an);clear an ap U ac;go_wp2_with fail
 show bodyPostD _ _ _ _ _ _
 refine leaves_cons (f:=292) (args:=#[ϖ M,ϖ w,π (η w),π (ς w)]) ξ (by simp[go_sem]) ?_;refine (gG _ _ _ _ _).mono ?_;rintro e u' w9 ⟨rfl,rfl,rfl⟩
 exact⟨.tuple #[aj ⟨2,0,0,0⟩,ι 0],by simp[results,results269,go_sem,aj,V.c 0 rfl,V.c 1 rfl,V.c 2 rfl,V.c 3 rfl,a4.c 0 rfl],HE.out⟩):p:=h
def h1 {o w p W m m' wm wm' L b} (a) (F:Nat) (z:Wf o w) (hI:aI o w W wm L) (hP:bD o w p m) (af:p∉L) (ha:m.at_=a) (bR:a≠0) (a9:∀{w:World} {mm:Nat},H w mm fN→(Instr.lookup 428 (.map (some mm)) (ι a) true).run prog w= .ok (.tuple #[.func (.func F) #[] #[],Υ]) w) (hF:Λ F) (hE:a6 o w) (aG:∀o w,Wf o w→aI o w W wm L→a6 o w→bD o w p m→Calls prog F #[π p,π W] w (cg W p m' wm' L b o w)) :
  Calls prog 269 #[π p,π W] w (cM W p wm' L (fun o w=>bD o w p m') (if b && m'.met then ⟨3,m'.own,m'.pa,0⟩ else if b then ⟨3,m'.own,-1,0⟩ else if m'.at_=m.at_∧m'.place=m.place then ⟨1,0,0,0⟩ else ⟨2,0,0,0⟩) o w):=by
 obtain⟨w1,bl,bf,a1,O⟩:=al1 w 297 [π p];obtain⟨G,bo,bh,ak,Z,au⟩:=al2 a1 bf 273 [ι 0,ι 0,ι 0,ι 0];replace O:=au _ _ _ O;clear au;obtain⟨E,bt,bq,bg,k2,au⟩:=al2 ak bh 33 [ι 0];replace O:=au _ _ _ O;replace Z:=au _ _ _ Z;clear au;refine AW ?_;intro hL aQ a2 bd ag az ax aU ba ad;generalize two o (w.heap.size+1)=o2 at *;have bc:Calls prog 290 #[π W] E (μ (.bool false) E):=by obtain⟨Y,aB,aF,aC,cs,ds,hW,-⟩:=ba;exact l3 hW
 have aJ:Calls prog 285 #[π p] E (μ (.bool false) E):=by obtain⟨aD,cx,av,cv,h⟩:=ad;exact mz h (by rw[ha];exact bR)
 have c0:=O.c 0 rfl;have a0:=χ O;have aX:=χ Z;have bU:=χ k2;have bz:p < E.heap.size:=ad.lt;have a5:w.heap.size+1+1 < E.heap.size:=ω;have bF:=χ ag;have bT:=χ ba;have aW:=χ ad;have HW:=χ z;have bH:=χ ax;have bV:=χ hE;have aE:=r6 E.drew;clear hE hI hP ba ad ag O Z k2 aU z ax a1 ak bq;obtain⟨mv,bI⟩:∃mv:db,(if b && m'.met then ⟨3,m'.own,m'.pa,0⟩ else if b then ⟨3,m'.own,-1,0⟩ else if m'.at_=m.at_∧m'.place=m.place then ⟨1,0,0,0⟩ else ⟨2,0,0,0⟩)=mv:=⟨_,rfl⟩;rw[bI];have aZ:=χ bI;clear bI;go_enter_defers func269,ntmps269;go_upto_region 3 with first
  | (go_at_call 290;refine γ bc ?_)
  | (go_at_call 285;refine γ aJ ?_)
 clear bl bo bt bc aJ;have c7:E.cell? (κ p 7)=ι a:=by obtain⟨aD,cx,av,cv,h⟩:=aW.out;rw[←ha];exact h.blk.c 7 rfl
 have aO:E.drew.cell? (κ (ν w) 0)=π p∧E.drew.cell? (κ p 7)=ι a:=⟨c0,c7⟩;refine bj [(1,true),(2,true),(3,true),(4,true),(0,false),(5,false),(6,true),(7,true),(8,true),(9,true),(10,true)] (fun w'=>w'.cell? (κ (ν w) 0)=π p∧w'.cell? (κ p 7)=ι a) ψ ψ aO ?_;have bX:p < E.drew.heap.size:=bz;have aM:w.heap.size < E.drew.heap.size:=by have:E.drew.heap.size=E.heap.size:=rfl;omega
 have bM:Below (ν E) E E.drew:=(Zj _ _).drew;generalize E.drew=wd at *;iterate 4 (refine wpC_t ?_;refine pe ?_)
 refine xP ?_;intro K I;go_at_call 291;refine aE.mono ?_;rintro e M ⟨rfl,ap,ah⟩;have aR:M.cell? (κ (ν w) 0)=π p∧M.cell? (κ p 7)=ι a:=⟨(ah.cell (p:=κ (ν w) 0) aM).trans aO.1,(ah.cell (p:=κ p 7) bX).trans aO.2⟩;refine I _ _ _ Φ (fun _=>aR) ?_;clear I K;refine pe ?_;refine xP ?_;intro K I;refine I _ _ _ Φ (fun _=>aR) ?_;clear I K;refine yf ?_;refine pe ?_;have aT:=bM.trans (ah.mono bM.size);have aK:=bH.out.below aT;have aa:=(tB bH.out aT).kp;obtain⟨aD,cx,av,cv,aq⟩:=aW.out.kept aa aT.size trivial;have bw:=bT.out.kept aa aT.size fun _ _=>Zk;have ao:=bF.out.same HW.out (Zb bH.out aT);obtain⟨ae,bi⟩:∃ae,jh m aD cx av cv=ae:=⟨_,rfl⟩;have aY:ae.toArray.size=20:=by rw[←bi];rfl
 have b2:ae[17]? =ι (m.place:Nat):=by rw[←bi];rfl
 have bS:ae[7]? =ι a:=by rw[←bi,←ha];rfl
 have ai:ae.toArray.all (·.oneCell')=true:=by rw[←bi];simp[jh,Value.oneCell']
 have bW:M.heap[p]? =some (.cells ae.toArray 417 (0,0)):=by rw[←bi];exact aq.blk
 have bJ:=aR.1;have bK:=Zh M 417 [ι 0,ι 0,ι 0,ι 0,ι 0,ι 0,ζ,ι 0,ι 0,ι 0,ι 0,ι 0,ι 0,ι 0,ζ,ζ,ζ,ι 0,Δ,ι 0];have bp:(M.alloc θ6).there (ν M) 0 ae.toArray.size:=by intro j hj;rw[aY] at hj;refine⟨?_,bK.fz _⟩;obtain⟨v,hv⟩:∃v,([.int .i64 0,.int .i64 0,.int .i64 0,.int .i64 0,.int .i64 0,.int .i64 0,.slice none 0 0,.int .i64 0,.int .i64 0,.int .i64 0,.int .i64 0,.int .i64 0,.int .i64 0,.int .i64 0,.slice none 0 0,.slice none 0 0,.slice none 0 0,.int .i64 0,.bool false,.int .i64 0]:List Value)[j]? =some v:=⟨_,Zg hj⟩;rw[Nat.zero_add,bK.c j hv];rfl
 have a8:(prog.info? 417).map (·.size)=some ae.toArray.size:=by rw[aY];exact vt
 obtain⟨w6,bu⟩:∃u,(M.alloc θ6).setCells (ν M) 0 ae.toArray.toList=u:=⟨_,rfl⟩;have aw:Below (ν M) M w6:=by rw[←bu];exact Yu (Zc _) _ _ (am M _)
 have kc7:w6.cell? (κ (ν M) 7)=ι a:=by rw[←bu];have:=World.rangeAt_setCells_same (M.alloc θ6) (ν M) 0 ae.toArray.toList (by simpa using bp) 7 (ι a) (by simpa using bS);simpa using this
 have kc17:w6.cell? (κ (ν M) 17)=ι (m.place:Nat):=by rw[←bu];have:=World.rangeAt_setCells_same (M.alloc θ6) (ν M) 0 ae.toArray.toList (by simpa using bp) 17 (ι (m.place:Nat)) (by simpa using b2);simpa using this
 have aS:M.heap.size < w6.heap.size:=by rw[←bu];exact Za (show M.heap.size < (M.alloc θ6).heap.size by simp) (Yu (Z2 _) _ _ (Zj 0 _)).size
 refine AX ?_;intro aP a7 bx bv a3 ay bN bL aH bE bO;clear bw aq ao aa a7 bx bv a3 aK aP aT bM ah aR aO aE bK bi;go_upto_region 6 with fail;go_upto_region 8 with first
  | (refine wpList_load_row rfl _ _ rfl p rfl 417 ae.toArray (0,0) _ bW underlying417 rfl a8 ?_)
  | (refine wpList_store_mid rfl _ _ _ rfl (ν M) 0 ae.toArray rfl rfl bp a8 ai ?_;rw[bu])
 go_upto_region 10 with (refine ay.mono ?_;rintro e w7 ⟨o7,aA,bb,bC,rfl⟩);refine AR ?_;intro cb bP bB kM kE kc;have b6:w7.cell? (κ (ν M) 17)=ι (m.place:Nat):=(Zd (w:=w6) (aA.frozen (ν M) aS (fun q hq=>by rw[bL.out] at hq;cases hq)).1).trans kc17;obtain⟨bZ,b0,b4,b5,bQ⟩:=id bC;obtain⟨-,-,-,-,-,-,-,p7,p8,-,-,-,-,-,-,-,-,bY,b1,b3,-⟩:=kc19 bQ.blk;obtain⟨m0,g0,m1,g1,m2,g2,m3,g3,-⟩:=kb3 kM;obtain⟨e0,h0,-⟩:=kb0 kE;have HC:=χ (⟨aA,bb,bC⟩:_∧_∧_);have HL:=χ hL;have aL:=χ (⟨kM,kE⟩:_∧_);have a':jv p (fun o w=>bD o w p m'):=fun K o w o' w' h I hs hp=>h.kept I hs hp;have bA:=χ aQ;clear aA bb bC bQ bB bP ay kc7 kc17 bO aw bN kM kE hL;generalize bG:m'.met=met at *;cases b with
 | true=>
   cases met with
   | true=>
     obtain rfl:mv=⟨3,m'.own,m'.pa,0⟩:=aZ.out.symm.trans ξ;clear bG aZ;go_upto_region 11 with fail;refine AU ?_;intro U ac ap;clear m0 m1 m2 m3 g0 g1 g2 g3 e0 h0;generalize (σ4 w7 (η w) (ι 3) (ι m'.own) (ι m'.pa) (ι 0):World).drew=wM at *;refine AQ ?_;intro U m0 g0 m1 g1 m2 g2 m3 g3 e0 h0 V a4 an HE;clear an ap U ac;go_wp2_with fail
     show bodyPostD _ _ _ _ _ _
     refine zc ?_;rintro e u' w9 ⟨rfl,rfl,rfl⟩;exact⟨.tuple #[aj ⟨3,m'.own,m'.pa,0⟩,ι 0],by simp[results,results269,go_sem,aj,V.c 0 rfl,V.c 1 rfl,V.c 2 rfl,V.c 3 rfl,a4.c 0 rfl],HE.out⟩
   | false=>
     obtain rfl:mv=⟨3,m'.own,-1,0⟩:=aZ.out.symm.trans ξ;clear bG aZ;go_upto_region 16 with fail;refine AV ?_;intro U ac ap;clear m0 m1 m2 m3 g0 g1 g2 g3 e0 h0;generalize (σ4 w7 (η w) (ι 3) (ι m'.own) (ι (-1)) (ι 0):World)=wM at *;refine AS ?_;intro U m0 g0 m1 g1 m2 g2 m3 g3 e0 h0 V a4 an HE;clear an ap U ac;go_wp2_with fail
     show bodyPostD _ _ _ _ _ _
     refine zc ?_;rintro e u' w9 ⟨rfl,rfl,rfl⟩;exact⟨.tuple #[aj ⟨3,m'.own,(-1),0⟩,ι 0],by simp[results,results269,go_sem,aj,V.c 0 rfl,V.c 1 rfl,V.c 2 rfl,V.c 3 rfl,a4.c 0 rfl],HE.out⟩
 | false=>
   by_cases aV:m'.at_=a
   ·by_cases be:m'.place=m.place
    ·obtain rfl:mv=⟨1,0,0,0⟩:=aZ.out.symm.trans (by simp[aV,ha,be])
     clear aZ;rw[aV] at p7;rw[be] at bY;go_upto_region 14 with fail;go_quiet (fail);go_upto_region 16 with fail;refine AY ?_;intro U ac ap;clear m0 m1 m2 m3 g0 g1 g2 g3 e0 h0;generalize (σ (w7.drewN nq) (η w) 0 (ι 1):World)=wM at *;have U:A wM (η w) 273 [ι 1,ι 0,ι 0,ι 0]:=U;obtain⟨m0,g0,m1,g1,m2,g2,m3,g3,-⟩:=kb3 U;obtain⟨e0,h0,-⟩:=kb0 ac;refine AT ?_;intro V a4 an HE;clear an ap U ac;go_wp2_with fail
     show bodyPostD _ _ _ _ _ _
     refine zc ?_;rintro e u' w9 ⟨rfl,rfl,rfl⟩;exact⟨.tuple #[aj ⟨1,0,0,0⟩,ι 0],by simp[results,results269,go_sem,aj,V.c 0 rfl,V.c 1 rfl,V.c 2 rfl,V.c 3 rfl,a4.c 0 rfl],HE.out⟩
    ·obtain rfl:mv=⟨2,0,0,0⟩:=aZ.out.symm.trans (by simp[aV,ha,be])
     clear aZ;have hq:((m'.place:Int) == (m.place:Int))=false:=beq_eq_false_iff_ne.2 (fun h=>be ω);rw[aV] at p7;clear aV be;exact A8
   ·obtain rfl:mv=⟨2,0,0,0⟩:=aZ.out.symm.trans (by simp[aV,ha])
    clear aZ;have hq:(m'.at_ == a)=false:=by simp[aV]
    clear aV;exact A8
def yq {p:Prop} (h:p:=by exact Zl (v:= .tuple #[ϖ M,ι 0]) (by simp[results,results283,go_sem]) rfl ⟨_,_,q1,q2,⟨none,0,h,vc,q3,q4,dE _ _,HV.out.kept q5 q6⟩,rfl⟩):p:=h
def xk {o w W wm L s x b bm} (z:Wf o w) (hI:aI o w W wm L) (hsy:∀o1 w1,Wf o1 w1→aI o1 w1 W wm L→Calls prog 113 #[π W,ι s] w1 (iH x o1 w1)) (aP:x.bases[b]? =some bm) :
  Calls prog 283 #[π W,ι s,ι (b:Nat)] w (gV (fun o w p=>bD o w p ⟨bL,if bm.kd=5∨bm.kd=6∨bm.kd=13 then 1 else if bm.kd=7 then 17 else 18,s,b,bm.kd,bm.n,bm.v,0,false,0⟩) o w):=by
 have bc:Calls prog 290 #[π W] w (μ (.bool false) w):=by obtain⟨Y,aB,aF,aC,cs,ds,hW,-⟩:=hI;exact l3 hW
 have H:=χ (fun o1 w1 (U:J Θ o w o1 w1)=>hsy o1 w1 (z.BD U) (hI.kept (U.kp) U.size fun _ _=>Zk));clear hsy hI;go_enter func283,ntmps283;go_upto_region 3 with (go_at_call 290;refine γ bc ?_);clear bc;go_upto_region 4 with (go_at_call 113;refine (H.out _ _ (ZM _ z)).mono ?_;rintro e G ⟨o2,aq,xs,rfl,aK⟩;obtain⟨aQ,ay,av,cb,cc,cv,rfl,hBs,-⟩:=id aK);have ad:b < x.bases.length:=(Ze.1 aP).1;obtain⟨gb,ob,ys,rfl,aR,-,ap,bg⟩:=hBs b bm aP;have ab:aG (Fz o2 G) G bm.v _:=(id bg).choose_spec.choose_spec.choose_spec.choose_spec.choose_spec.choose_spec.2.1;obtain⟨h,aD,an,vc,cw,cn,rfl,ab,-⟩:=bg;have ac:=am G (.cells #[ι x.th,.slice (some ⟨gb,ob,none⟩) x.bases.length cb,.slice ay x.conds.length cc,ι x.fl,.bool x.parked,.bool x.done,ι x.br,ι x.v.kd,ι x.v.n,.slice av x.v.l.length cv,ι x.pa] 126);have kx:=Zh G 126 [ι x.th,.slice (some ⟨gb,ob,none⟩) x.bases.length cb,.slice ay x.conds.length cc,ι x.fl,.bool x.parked,.bool x.done,ι x.br,ι x.v.kd,ι x.v.n,.slice av x.v.l.length cv,ι x.pa];generalize G.alloc (.cells #[ι x.th,.slice (some ⟨gb,ob,none⟩) x.bases.length cb,.slice ay x.conds.length cc,ι x.fl,.bool x.parked,.bool x.done,ι x.br,ι x.v.kd,ι x.v.n,.slice av x.v.l.length cv,ι x.pa] 126)=E at *;have x1:=kx.c 1 rfl;refine AZ ?_;intro y0 y1 y2 y3 y4 y5 y6 aJ;clear aK hBs ap kx;go_upto_region 9 with fail;refine A3 ?_;intro ah kb;generalize E.alloc (ρ bm h vc aD cw an cn)=M at *;obtain⟨b0,b1,b2,b3,b4,-⟩:=kc4 kb;clear x1 y0 y1 y2 y3 y4 y5 y6 aJ ac;go_upto_region 10 with fail
 clear b1 b2 b3 b4;obtain⟨kd,bn,I,ae,aa⟩:=bm;dsimp only at *;have HF:=χ (fun (i:Nat) (u:Value)=>kF (T:=417) (cs:=[ι 0,ι 0,ι 0,ι 0,ι 0,ι 0,ζ,ι 0,ι s,ι (b:Nat),ι kd,ι bn,ι I.kd,ι I.n,.slice h I.l.length vc,ζ,ζ,ι 0,Δ,ι 0]) z aq ah i u);have kp:=Zh M 417 [ι 0,ι 0,ι 0,ι 0,ι 0,ι 0,ζ,ι 0,ι s,ι (b:Nat),ι kd,ι bn,ι I.kd,ι I.n,.slice h I.l.length vc,ζ,ζ,ι 0,Δ,ι 0];replace b0:=((am M (.cells #[ι 0,ι 0,ι 0,ι 0,ι 0,ι 0,ζ,ι 0,ι s,ι (b:Nat),ι kd,ι bn,ι I.kd,ι I.n,.slice h I.l.length vc,ζ,ζ,ι 0,Δ,ι 0] 417)).cell (p:=κ (ν E) 0) kb.lt).trans b0;generalize M.alloc (.cells #[ι 0,ι 0,ι 0,ι 0,ι 0,ι 0,ζ,ι 0,ι s,ι (b:Nat),ι kd,ι bn,ι I.kd,ι I.n,.slice h I.l.length vc,ζ,ζ,ι 0,Δ,ι 0] 417)=V at *;have p7:=kp.c 7 rfl;have f7:=kp.fz 7;clear kp ah kb;have HV:=χ ab;clear ab
 by_cases h5:kd=5
 ·subst h5
  go_wp2_with fail;obtain⟨q1,q2,q3,q4,q5,q6⟩:=HF.out 7 (ι 1);exact yq
 ·have e5:(kd == 5)=false:=by simp[h5]
  have d5:decide (kd=5)=false:=Zn h5
  by_cases h6:kd=6
  ·subst h6
   go_wp2_with fail;obtain⟨q1,q2,q3,q4,q5,q6⟩:=HF.out 7 (ι 1);exact yq
  ·have e6:(kd == 6)=false:=by simp[h6]
   have d6:decide (kd=6)=false:=Zn h6
   by_cases O:kd=13
   ·subst O
    go_wp2_with fail;obtain⟨q1,q2,q3,q4,q5,q6⟩:=HF.out 7 (ι 1);exact yq
   ·have Z:(kd == 13)=false:=by simp[O]
    have af:decide (kd=13)=false:=Zn O
    by_cases h7:kd=7
    ·subst h7
     go_wp2_with fail;obtain⟨q1,q2,q3,q4,q5,q6⟩:=HF.out 7 (ι 17);exact yq
    ·have e7:(kd == 7)=false:=by simp[h7]
     go_wp2_with fail;obtain⟨q1,q2,q3,q4,q5,q6⟩:=HF.out 7 (ι 18);exact yq
section
def p0 {o w W Y m aB aF aC cs ds} (hW:ai o w W m Y aB aF aC cs ds):Calls prog 189 #[π W] w (μ (.bool false) w):=by have I:=h7 hW;clear hW;go_enter func189,ntmps189;go_wp2_with (go_at_call 96;refine γ I ?_);go_ret;exact⟨rfl,rfl⟩
def g7 (g c:Nat) (w:World) (h0:w.cell? (κ g 0)=ι 0):Calls prog 255 #[.slice (Γ g) 1 c] w (μ (.tuple #[]) w):=by go_enter func255,ntmps255;exact yW
def kZ (b w):Calls prog 270 #[.bool b,ι 0] w (ϑ (.bool b) w):=by have hb:=am w (.cells #[ι 0] 33);have hC:=g7 (ν w) 1 (w.alloc θ2) ((Zh w 33 [ι 0]).c 0 rfl);go_enter func270,ntmps270;go_wp2_with (go_at_call 255;refine γ hC ?_);go_ret;exact⟨rfl,hb⟩
def vM (p w):Calls prog 232 #[.pointer p,ι 0] w (ϑ (.pointer p) w):=by have hb:=am w (.cells #[ι 0] 33);have hC:=g7 (ν w) 1 (w.alloc θ2) ((Zh w 33 [ι 0]).c 0 rfl);go_enter func232,ntmps232;go_wp2_with (go_at_call 255;refine γ hC ?_);go_ret;exact⟨rfl,hb⟩
def qt (p w):Calls prog 282 #[.pointer p,ι 0] w (ϑ (.pointer p) w):=by have hb:=am w (.cells #[ι 0] 33);have hC:=g7 (ν w) 1 (w.alloc θ2) ((Zh w 33 [ι 0]).c 0 rfl);go_enter func282,ntmps282;go_wp2_with (go_at_call 255;refine γ hC ?_);go_ret;exact⟨rfl,hb⟩
def A' {p q:Prop} (k:q) (h:Zq q→p:=by
 intro mq;unfold aj;obtain⟨w1,aP⟩:∃u,w.alloc (.cells #[ι mv.kind,ι mv.sync,ι mv.partner,ι mv.cond] 273)=u:=⟨_,rfl⟩;obtain⟨G,aB⟩:∃u,w1.alloc θ5=u:=⟨_,rfl⟩;have z1:w1.heap.size=w.heap.size+1:=by rw[←aP];simp
 have b1:Below (ν w) w w1:=by rw[←aP];exact am w _
 revert w1 aP G aB z1 b1
 exact mq.u):p:=h ⟨k⟩
def kD (mv w):Calls prog 267 #[aj mv,ι 0] w (ϑ (aj mv) w):=by
 refine A' ?_;intro w1 aP G aB z1 b1;have b2:Below (ν w) w G:=by rw[←aB];exact b1.alloc b1.size _
 have O:A w1 (ν w) 273 [ι mv.kind,ι mv.sync,ι mv.partner,ι mv.cond]:=by rw[←aP];exact Zh w _ _
 replace O:A G (ν w) 273 [ι mv.kind,ι mv.sync,ι mv.partner,ι mv.cond]:=by rw[←aB];exact O.alloc _
 have Z:A G (η w) 273 [ι 0,ι 0,ι 0,ι 0]:=by rw[←aB,←z1];exact Zh w1 _ _
 have hb:=am G (.cells #[ι 0] 33);have hC:=g7 (ν G) 1 (G.alloc θ2) ((Zh G 33 [ι 0]).c 0 rfl);replace O:=A.alloc O (.cells #[ι 0] 33);replace Z:=A.alloc Z (.cells #[ι 0] 33);have b3:=b2.trans (hb.mono b2.size);obtain⟨c0,c1,c2,c3,-⟩:=kc3 O;obtain⟨d0,f0,d1,f1,d2,f2,d3,f3,-⟩:=kb3 Z;go_enter func267,ntmps267;go_upto_region 2 with (go_at_call 255;refine γ hC ?_);generalize G.alloc θ2=E at *;go_wp2_with fail;have aZ:A (σ4 E (η w) (ι mv.kind) (ι mv.sync) (ι mv.partner) (ι mv.cond)) (η w) 273 [ι mv.kind,ι mv.sync,ι mv.partner,ι mv.cond]:=(((Z.set 0 _).set 1 _).set 2 _).set 3 _;have aT:Below (ν w) w (σ4 E (η w) (ι mv.kind) (ι mv.sync) (ι mv.partner) (ι mv.cond)):=(((b3.setCell (p:=κ (η w) 0) (Yf _) _).setCell (p:=κ (η w) 1) (Yf _) _).setCell (p:=κ (η w) 2) (Yf _) _).setCell (p:=κ (η w) 3) (Yf _) _;exact Zl (v:= .agg #[ι mv.kind,ι mv.sync,ι mv.partner,ι mv.cond]) (by simp[results,results267,go_sem,aZ.c 0 rfl,aZ.c 1 rfl,aZ.c 2 rfl,aZ.c 3 rfl]) rfl ⟨rfl,aT⟩
def kK {w p q aD av cx cv} (h:A w p 398 (g6 q aD cx av cv)) (h0:q.at_≠0):Calls prog 281 #[π p] w (μ (ι q.at_) w):=by
 have c7:=h.c 7 rfl;have hn:Calls prog 284 #[π p] w (μ (.bool false) w):=by
  have hq:(q.at_ == 0)=false:=by simp[h0]
  clear h h0;go_enter func284,ntmps284;go_wp2_with fail;go_ret;exact⟨rfl,rfl⟩
 clear h h0;go_enter func281,ntmps281;go_wp2_with (go_at_call 284;refine γ hn ?_);go_ret;exact⟨rfl,rfl⟩
structure bd where
 po:Option bP
 at_:Int
 own:Int
 br:Int
 nk:Nat
 bk:Option bR
 pa:Int
def qE (_:Unit) (cs:List Value):Prop:=∃(a:Option Addr) (c:Nat),cs=[.slice a 0 c]
def eo {α:Type} (R:ab→World→Nat→α→Prop) (o:ab) (w:World) (x:Option α) (p:Option Nat):Prop:=match x with
 | none=>p=none
 | some y=>∃b,p=some b∧R o w b y
def eo.kept {α:Type} {R} {K:Nat→Prop} {o o' w w'} {x:Option α} {p} (h:eo R o w x p) (hR:∀b y,R o w b y→K b→R o' w' b y) (hp:∀b∈p,K b):eo R o' w' x p:=by
 cases x with
 | none=>exact h
 | some y=>obtain⟨b,rfl,h⟩:=h;exact⟨b,rfl,hR b y h (hp b rfl)⟩
def eo.lt {α:Type} {R o w} {x:Option α} {p} (h:eo R o w x p) (hR:∀b y,R o w b y→b < w.heap.size):∀k∈p,k < w.heap.size:=by
 intro k hk;cases x with
 | none=>obtain rfl:p=none:=h;cases hk
 | some y=>
   obtain⟨b,rfl,h⟩:=h;cases hk
   exact hR _ y h
def j2 (p:Option Nat):Option Addr:=p.map fun b=>⟨b,0,none⟩
def gl (m:bd) (pp pb:Option Nat) (an ay al:Option Addr) (cn cc cl:Nat):List Value:=[.pointer (j2 pp),.int .i64 m.at_,.int .i64 m.own,.int .i64 m.br,.slice an m.nk cn,.slice ay 0 cc,.pointer (j2 pb),.pointer none,.slice al 0 cl,.int .i64 m.pa]
structure cu (o:ab) (w:World) (S:Nat) (m:bd) (pp pb:Option Nat) (an ay al:Option Addr) (cn cc cl:Nat):Prop where
 blk:A w S 300 (gl m pp pb an ay al cn cc cl)
 own:o S=some S
 po:eo a9 o w m.po pp
 bk:eo bD o w m.bk pb
 nk:aU qE (Fz o w) w 1 (List.replicate m.nk ()) an
def a8 (o:ab) (w:World) (S:Nat) (m:bd) (Ls:List Nat):Prop:=∃pp pb an ay al cn cc cl,cu o w S m pp pb an ay al cn cc cl∧Ls=S :: (pp.toList ++ pb.toList)
section
variable {o o':ab} {w w':World} {S:Nat} {m:bd} {pp pb:Option Nat} {an ay al:Option Addr} {cn cc cl:Nat} {K:Nat→Prop} {Ls:List Nat}
def cu.kept (h:cu o w S m pp pb an ay al cn cc cl) (I:aM K o w o' w') (hs:w.heap.size≤w'.heap.size) (hS:K S) (hp:∀p∈pp,K p) (hb:∀p∈pb,K p):cu o' w' S m pp pb an ay al cn cc cl:=by
 obtain⟨H,h2⟩:=I.blk h.blk h.own hS;refine⟨H,h2,?_,?_,h.nk.et (fun _ hg q=>I.cell hg q) (fun _ hg=>(I.fz hs hg).1) fun _ _ h=>h⟩
 ·exact h.po.kept (fun b y h hk=>h.kept I hs hk) hp
 ·exact h.bk.kept (fun b y h hk=>h.kept I hs hk) hb
def a8.kept (h:a8 o w S m Ls) (I:aM K o w o' w') (hs:w.heap.size≤w'.heap.size) (hL:∀k∈Ls,K k):a8 o' w' S m Ls:=by obtain⟨pp,pb,an,ay,al,cn,cc,cl,h,rfl⟩:=h;exact⟨pp,pb,an,ay,al,cn,cc,cl,h.kept I hs (hL S ξ) (fun p hp=>hL p (by simp[Option.mem_def.1 hp])) (fun p hp=>hL p (by simp[Option.mem_def.1 hp])),rfl⟩
def a8.lt (h:a8 o w S m Ls):∀k∈Ls,k < w.heap.size:=by
 obtain⟨pp,pb,an,ay,al,cn,cc,cl,h,rfl⟩:=h;intro k hk;rcases ZG.1 hk with rfl | hk
 ·exact h.blk.lt
 ·rcases Zv.1 hk with hk | hk
  ·exact h.po.lt (fun _ _ h=>h.lt) k (by simpa using hk)
  ·exact h.bk.lt (fun _ _ h=>h.lt) k (by simpa using hk)
def kn (h:cu o w S m pp pb an ay al cn cc cl) (h0:m.at_≠0):Calls prog 155 #[π S] w (μ (.bool false) w):=by
 have c1:=h.blk.c 1 rfl;have hq:(m.at_ == 0)=false:=by simp[h0]
 clear h h0;go_enter func155,ntmps155;go_wp2_with fail;go_ret;exact⟨rfl,rfl⟩
def oW (w):Calls prog 155 #[.pointer none] w (μ (.bool true) w):=by go_enter func155,ntmps155;go_wp2_with fail;go_ret;exact⟨rfl,rfl⟩
def zd {p:Prop} (h:p:=by
 go_enter func112,ntmps112;go_wp2_with (go_at_call 155;refine γ hn ?_);go_ret
 exact⟨rfl,rfl⟩):p:=h
def hw (h:cu o w S m pp pb an ay al cn cc cl) (h0:m.at_≠0):Calls prog 112 #[π S] w (μ (ι m.at_) w):=by have c1:=h.blk.c 1 rfl;have hn:=kn h h0;clear h h0;exact zd
def rM (w):Calls prog 112 #[.pointer none] w (μ (ι 0) w):=by have hn:=oW w;exact zd
def j7 (h:cu o w S m pp pb an ay al cn cc cl) (h0:m.at_≠0):Calls prog 114 #[π S] w (μ (ι m.own) w):=by have c1:=h.blk.c 2 rfl;have hn:=kn h h0;clear h h0;go_enter func114,ntmps114;go_wp2_with (go_at_call 155;refine γ hn ?_);go_ret;exact⟨rfl,rfl⟩
def jI {p q} (h:a9 o w p q) (h0:q.at_≠0):Calls prog 257 #[.agg #[π p]] w (ϑ (.bool (q.at_ == 10)) w):=by have hb:=am w (.cells #[π p] 295);have O:=Zh w 295 [π p];obtain⟨aD,cx,av,cv,h⟩:=h;have hn:Calls prog 281 #[π p] (w.alloc (.cells #[π p] 295)) fun e w'=>e= .returned (ι q.at_)∧w.alloc (.cells #[π p] 295)=w':=kK (h.blk.alloc _) h0;have c0:=O.c 0 rfl;clear h h0 O;go_enter func257,ntmps257;go_wp2_with (go_at_call 281;refine γ hn ?_);go_ret;exact⟨rfl,hb⟩
def mB {p q} (h:a9 o w p q) (h0:q.at_≠0):Calls prog 259 #[.agg #[π p]] w (ϑ (.bool (q.at_ == 11)) w):=by have hb:=am w (.cells #[π p] 295);have O:=Zh w 295 [π p];obtain⟨aD,cx,av,cv,h⟩:=h;have hn:Calls prog 281 #[π p] (w.alloc (.cells #[π p] 295)) fun e w'=>e= .returned (ι q.at_)∧w.alloc (.cells #[π p] 295)=w':=kK (h.blk.alloc _) h0;have c0:=O.c 0 rfl;clear h h0 O;go_enter func259,ntmps259;go_wp2_with (go_at_call 281;refine γ hn ?_);go_ret;exact⟨rfl,hb⟩
end
def YA:=@a8.kept
end
section
section
variable {o o' o2:ab} {w w' E:World} {S W:Nat} {m m':bd} {pp pb aB aC:Option Nat} {an ay al aR:Option Addr} {cn cc cl aF:Nat} {L L3 Ls:List Nat} {wm wm':aH}
def cu.C6 (h:cu o w S m pp pb an ay al cn cc cl) {b q} (hb:a9 o w b q):b≠S:=by rintro rfl;obtain⟨aD,cx,av,cv,hb⟩:=hb;have H:=hb.blk.symm.trans h.blk;injection H with H;injection H with h2 h3;exact absurd h3 φ
def cu.C7 (h:cu o w S m pp pb an ay al cn cc cl) {b q} (hb:bD o w b q):b≠S:=by rintro rfl;obtain⟨aD,cx,av,cv,hb⟩:=hb;have H:=hb.blk.symm.trans h.blk;injection H with H;injection H with h2 h3;exact absurd h3 φ
def aX (W S:Nat) (m':bd) (wm':aH) (L Ls:List Nat) (o:ab) (w:World) (o':ab) (w':World) (L' Ls':List Nat):Prop:=J (fun k=>k∈L∨k∈Ls) o w o' w'∧aI o' w' W wm' L'∧a8 o' w' S m' Ls'∧(∀k∈L',k∈L∨w.heap.size≤k)∧(∀k∈Ls',k∈Ls∨w.heap.size≤k)∧(∀k∈Ls',k∉L')
def bE (W S:Nat) (m':bd) (wm':aH) (L Ls:List Nat) (v:Value) (o:ab) (w:World) (e:Ending) (w':World):Prop:=∃o' L' Ls',aX W S m' wm' L Ls o w o' w' L' Ls'∧e= .returned v
def aX.then {m1 m2 wm1 wm2 o1 o2 w1 G L1 L2 Ls1 Ls2} (z:Wf o w) (H:aX W S m1 wm1 L Ls o w o1 w1 L1 Ls1) (h2:aX W S m2 wm2 L1 Ls1 o1 w1 o2 G L2 Ls2):aX W S m2 wm2 L Ls o w o2 G L2 Ls2:=by
 obtain⟨a1,a2,a3,a4,a5,a6⟩:=H;obtain⟨b1,b2,b3,b4,I,b6⟩:=h2;have hs:=a1.size;refine⟨a1.trans z b1 fun k hk h=>?_,b2,b3,fun k hk=>?_,fun k hk=>?_,b6⟩
 ·rcases h with h | h
  ·exact (a4 k h).imp id fun h=>by omega
  ·rcases a5 k h with h | h
   ·exact .inr h
   ·omega
 ·rcases b4 k hk with h | h
  ·exact a4 k h
  ·exact .inr ω
 ·rcases I k hk with h | h
  ·exact a5 k h
  ·exact .inr ω
def aX.below {o1 w1 G L1 Ls1} (z:Wf o w) (H:aX W S m' wm' L Ls o w o1 w1 L1 Ls1) (hb:Below (ν w1) w1 G):aX W S m' wm' L Ls o w o1 G L1 Ls1:=by obtain⟨a1,a2,a3,a4,a5,a6⟩:=H;have U:=Zb (D:=fun k=>k∈L∨k∈Ls) (z.BD a1) hb;have I:=(tB (z.BD a1) hb).kp;exact⟨a1.same z U,a2.kept I hb.size fun _ _=>Zk,a3.kept I hb.size fun _ _=>Zk,a4,a5,a6⟩
def ft (z:Wf o w) (U:J (fun k=>k∈L∨k∈Ls) o w o2 E) (hI:aI o2 E W wm' L3) (bH:∀k∈L3,k∈L∨w.heap.size≤k) (hN:cu o2 E S m pp pb an ay al cn cc cl) (us) (a1:A (a3 E S 0 us) S 300 (gl m' aB aC an ay aR cn cc aF)) (ai:eo a9 o2 E m'.po aB) (am:eo bD o2 E m'.bk aC) (aj:m'.nk=m.nk) (af:∀k∈S :: (aB.toList ++ aC.toList),k∈Ls∨w.heap.size≤k) (hS:S∈Ls) (G:∀k∈S :: (aB.toList ++ aC.toList),k∉L3):aX W S m' wm' L Ls o w o2 (a3 E S 0 us) L3 (S :: (aB.toList ++ aC.toList)):=by
  have ax:=z.BD U;have aq:J (·=S) o2 E o2 (a3 E S 0 us):=Z9 ax (aE (S:=(·=S)) rfl 0 us E) fun x _ hx=>⟨S,by rw[hx];exact hN.own,rfl⟩;have I:=aq.et (K:=(·≠S)) fun _ h=>h;refine⟨U.same z (aq.more ax fun k _ e=>.inr (by rw[e];exact hS)),hI.kept I aq.size fun k hk e=>G S ξ (e ▸ hk),⟨aB,aC,an,ay,aR,cn,cc,aF,⟨a1,hN.own,?_,?_,?_⟩,rfl⟩,bH,af,G⟩
  ·cases hx:m'.po with
   | none=>rw[hx] at ai;exact ai
   | some q=>rw[hx] at ai;obtain⟨b,rfl,h⟩:=ai;exact⟨b,rfl,h.kept I aq.size (hN.C6 h)⟩
  ·cases hx:m'.bk with
   | none=>rw[hx] at am;exact am
   | some q=>rw[hx] at am;obtain⟨b,rfl,h⟩:=am;exact⟨b,rfl,h.kept I aq.size (hN.C7 h)⟩
  ·rw[aj]
   exact hN.nk.et (fun _ hg q=>I.cell hg q) (fun _ hg=>(I.fz aq.size hg).1) fun _ _ h=>h
def p8 (z:Wf o w) (hI:aI o w W wm L) (a5:∀x∈wm.sys,bK x) {s br q} (h:j6 s br wm=(.ok q,wm')):wm'=wm∧Calls prog 233 #[π W,ι s,ι br] w (gV (fun o w p=>a9 o w p q) o w):=by
  obtain⟨x,m1,H,h2⟩:=Zu h;obtain rfl:=(e7 z hI a5 H).1;obtain⟨u1,m2,h3,h4⟩:=Zu h2;obtain⟨u2,m3,h5,h6⟩:=Zu h4;obtain⟨g3,rfl⟩:=eW h3;obtain⟨g5,rfl⟩:=eW h5;replace g3:=of_decide_eq_true g3;obtain⟨b,rfl⟩:=ZL g3.1;have ad:b < x.bases.length:=by have:=g3.2;omega
  rw[Int.toNat_natCast] at h6;have aP:x.bases[b]? =some (x.bases[b]):=Zg ad;rw[List.getD_eq_getElem?_getD,aP,Option.getD_some] at h6;injection h6 with h6 h7;injection h6 with h6;subst h6 h7;exact⟨rfl,uC z hI (fun o1 w1 ae aJ=>(e7 ae aJ a5 H).2) aP (by simpa using g5)⟩
def wu (z:Wf o w) (hI:aI o w W wm L) (a5:∀x∈wm.sys,bK x) {s br q} (h:hy s br wm=(.ok q,wm')):wm'=wm∧Calls prog 283 #[π W,ι s,ι br] w (gV (fun o w p=>bD o w p q) o w):=by
  obtain⟨x,m1,H,h2⟩:=Zu h;obtain rfl:=(e7 z hI a5 H).1;obtain⟨u1,m2,h3,h6⟩:=Zu h2;obtain⟨g3,rfl⟩:=eW h3;replace g3:=of_decide_eq_true g3;obtain⟨b,rfl⟩:=ZL g3.1;have ad:b < x.bases.length:=by have:=g3.2;omega
  rw[Int.toNat_natCast] at h6;have aP:x.bases[b]? =some (x.bases[b]):=Zg ad;rw[List.getD_eq_getElem?_getD,aP,Option.getD_some] at h6;injection h6 with h6 h7;injection h6 with h6;subst h6 h7;exact⟨rfl,xk z hI (fun o1 w1 ae aJ=>(e7 ae aJ a5 H).2) aP⟩
def yC {p:Prop} (h:p:=by
 refine bodyPost_end (Yw rfl _ _ _) rfl ?_
 exact⟨_,_,_,HF,rfl⟩):p:=h
def we (z:Wf o w) (hI:aI o w W wm L) (a5:∀x∈wm.sys,bK x) (hN:a8 o w S m Ls) (hd:∀k∈Ls,k∉L) {br q} (h:j6 m.own br wm=(.ok q,wm')) :
  Calls prog 185 #[π S,π W,ι br] w (bE W S {m with po:=some q,at_:=1,br:=br} wm' L Ls (.tuple #[]) o w):=by
 obtain⟨rfl,hC⟩:=p8 z hI a5 h;have ad:=hN.lt;have ao:=hI.lt;obtain⟨pp,pb,an,ay,al,cn,cc,cl,hN,rfl⟩:=hN;have c2:=hN.blk.c 2 rfl;have HI:=χ hI;have HN:=χ hN;clear hI hN h a5;go_enter func185,ntmps185;go_upto_region 1 with first
  | (go_at_call 233;refine hC.mono ?_;rintro e G ⟨o2,p,aq,aQ,Z,rfl⟩;have V:=HN.out.blk;have M:=(aq.et (K:=fun _=>True) (fun _ _=>id) S HN.out.blk.lt (fun _ _=>Zk)).1.trans V)
  | (go_at_call 232;refine δ (vM (some ⟨p,0,none⟩) G) ?_;intro E ac;have H:A E S 300 (gl m pp pb an ay al cn cc cl):=(ac.block S (ZE M)).trans M;have x0:=H.c 0 rfl;have y0:=H.fz 0)
 have ap:=z.BD aq;have I:J Θ o2 G o2 E:=Zb ap ac;have ag:=aq.same z I;have aU:=ag.kp;have ba:=HI.out.kept aU ag.size fun _ _=>Zk;have U:=HN.out.kept aU ag.size trivial (fun _ _=>Zk) fun _ _=>Zk;have Y:=Z.kept (I.kp) ac.size trivial;have O:=H.set 0 (π p);obtain⟨-,-,x1,y1,-,-,x3,y3,-⟩:=kb3 O
 have HF:aX W S {m with po:=some q,at_:=1,br:=br} wm' L (S :: (pp.toList ++ pb.toList)) o w o2 (σ (σ2 E S (π p) (ι 1)) S 3 (ι br)) L (S :: ((some p).toList ++ (pb).toList)):=ft z (ag.more z fun _ _ h=>h.elim) ba (fun _ h=>.inl h) U [(0,π p),(1,ι 1),(3,ι br)] ((((H.set 0 _).set 1 _).set 3 _)) ⟨p,rfl,Y⟩ U.bk rfl (by
   intro k hk;simp at hk ⊢;rcases hk with rfl | rfl | hk
   ·exact .inl (.inl rfl)
   ·exact .inr aQ
   ·exact .inl (.inr (.inr hk))) ξ (by
   intro k hk;simp at hk;rcases hk with rfl | rfl | hk
   ·exact hd k ξ
   ·intro h
    have:=ao k h;omega
   ·exact hd k (by simp[hk]))
 clear ba U Y aU ag I M H O V hC;go_wp2_with fail;exact yC
def qZ (z:Wf o w) (hI:aI o w W wm L) (a5:∀x∈wm.sys,bK x) (hN:a8 o w S m Ls) (hd:∀k∈Ls,k∉L) {br q} (h:hy m.own br wm=(.ok q,wm')) :
  Calls prog 258 #[π S,π W,ι br] w (bE W S {m with bk:=some q,at_:=2,br:=br,po:=none} wm' L Ls (.tuple #[]) o w):=by
 obtain⟨rfl,hC⟩:=wu z hI a5 h;have ad:=hN.lt;have ao:=hI.lt;obtain⟨pp,pb,an,ay,al,cn,cc,cl,hN,rfl⟩:=hN;have c2:=hN.blk.c 2 rfl;have HI:=χ hI;have HN:=χ hN;clear hI hN h a5;go_enter func258,ntmps258;go_upto_region 1 with first
  | (go_at_call 283;refine hC.mono ?_;rintro e G ⟨o2,p,aq,aQ,Z,rfl⟩;have V:=HN.out.blk;have M:=(aq.et (K:=fun _=>True) (fun _ _=>id) S HN.out.blk.lt (fun _ _=>Zk)).1.trans V)
  | (go_at_call 282;refine δ (qt (some ⟨p,0,none⟩) G) ?_;intro E ac;have H:A E S 300 (gl m pp pb an ay al cn cc cl):=(ac.block S (ZE M)).trans M;have x0:=H.c 6 rfl;have y0:=H.fz 6)
 have ap:=z.BD aq;have I:J Θ o2 G o2 E:=Zb ap ac;have ag:=aq.same z I;have aU:=ag.kp;have ba:=HI.out.kept aU ag.size fun _ _=>Zk;have U:=HN.out.kept aU ag.size trivial (fun _ _=>Zk) fun _ _=>Zk;have Y:=Z.kept (I.kp) ac.size trivial;have O:=H.set 6 (π p);obtain⟨x6,y6,x1,y1,-,-,x3,y3,-⟩:=kb3 O
 have HF:aX W S {m with bk:=some q,at_:=2,br:=br,po:=none} wm' L (S :: (pp.toList ++ pb.toList)) o w o2 (σ (σ (σ (σ E S 6 (π p)) S 1 (ι 2)) S 3 (ι br)) S 0 (.pointer none)) L (S :: ((none).toList ++ (some p).toList)):=ft z (ag.more z fun _ _ h=>h.elim) ba (fun _ h=>.inl h) U [(6,π p),(1,ι 2),(3,ι br),(0,.pointer none)] ((((H.set 6 _).set 1 _).set 3 _).set 0 _) rfl ⟨p,rfl,Y⟩ rfl (by
   intro k hk;simp at hk ⊢;rcases hk with rfl | rfl
   ·exact .inl (.inl rfl)
   ·exact .inr aQ) ξ (by
   intro k hk;simp at hk;rcases hk with rfl | rfl
   ·exact hd k ξ
   ·intro h
    have:=ao k h
    omega)
 clear ba U Y aU ag I M H O V hC;go_wp2_with fail;exact yC
end
end
end Go.Proofs.YtmchabopafimeaaGreatDoor
