import Derived.Test.YtmchabopafimeaaGreatDoorQao
namespace Go.Proofs.YtmchabopafimeaaGreatDoor
set_option maxRecDepth 100000
set_option maxHeartbeats 16000000
set_option linter.all false
open Go.RowKit Go.Sort Tryz
section
section
variable {o o':ab} {w w':World} {p W:Nat} {m:bP} {aD av:Option Addr} {cx cv:Nat} {K:Nat→Prop} {wm wm':aH} {L:List Nat}
def b'.meet (h:b' o w p m aD cx av cv) (z:Wf o w) (q):J (·=p) o w o (σ (σ w p 17 (.bool true)) p 18 (ι q):World)∧b' o (σ (σ w p 17 (.bool true)) p 18 (ι q)) p {m with met:=true,pa:=q} aD cx av cv:=by have U:=(Z3 (D:=(·=p)) z h.own rfl 17 (.bool true));have U:=U.same z (Z3 (D:=(·=p)) (z.BD U) h.own rfl 18 (ι q));have I:=U.et (K:=(·≠p)) fun _ h=>h;exact⟨U,(h.blk.set 17 _).set 18 _,h.own,h.ent.kept I U.size,h.v.kept I U.size⟩
def AN {p:Prop} (h:p:=by
 refine cG rfl rfl (fun K I=>?_) (fun hd=>(ZR (hd.symm.trans ψ)).elim);go_simp;have a7:=a8.same (Yp θ1);have aw:=Zh u2 86 [ι 0,ι 0,ζ];have aS:M.heap.size≤u2.heap.size:=a8.size;have ay:a5≠u2.heap.size:=Yy ai.lt;have ai:=ai.alloc θ1;refine I _ _ _ Φ (aB.out _ a7) ?_;clear I K;try go_frame
 generalize u2.alloc θ1=u3 at *;generalize u2.heap.size=a6 at *;have aU:a5≠a6:=ay
 exact yz):p:=h
def AO {p:Prop} (h:p:=by
 refine cG rfl rfl (fun K I=>?_) (fun hd=>(ZR (hd.symm.trans ψ)).elim);go_simp;have a7:=a8.same (Yp θ1);have ai:=Zh u2 86 [ι 0,ι 0,ζ];have ba:M.heap.size≤u2.heap.size:=a8.size;have ay:a6≠u2.heap.size:=Yy aw.lt;have aw:=aw.alloc θ1;refine I _ _ _ Φ (aB.out _ a7) ?_;clear I K;try go_frame
 generalize u2.alloc θ1=u3 at *;generalize u2.heap.size=a5 at *;have aU:a5≠a6:=ay.symm
 exact yz):p:=h
def yz {p:Prop} (h:p:=by
 obtain⟨e0,f0,e1,f1,e2,f2,-⟩:=kb2 ai;refine bv rfl (fun K I=>?_);go_simp;have Y:Fr Θ M (σ3 u3 a5 (ι 1) (ι 0) (.slice none 0 0)):=Fr.trans a7 (aE (S:=(·=a5)) rfl 0 [(0,ι 1),(1,ι 0),(2,ζ)] u3) (fun k hk e=>by omega);have aw:A (σ3 u3 a5 (ι 1) (ι 0) (.slice none 0 0)) a6 86 [ι 0,ι 0,ζ]:=((aE (S:=(·=a5)) rfl 0 [(0,ι 1),(1,ι 0),(2,ζ)] u3).block a6 aw.lt aU.symm).trans aw;have ai:A (σ3 u3 a5 (ι 1) (ι 0) (.slice none 0 0)) a5 86 [ι 1,ι 0,ζ]:=aW (b:=0) [(0,ι 1),(1,ι 0),(2,ζ)] _ _ ai;refine I _ _ _ Φ (fun _=>aB.out _ Y) ?_;clear I K e0 e1 e2 f0 f1 f2;try go_frame
 generalize (σ3 u3 a5 (ι 1) (ι 0) (.slice none 0 0):World)=u4 at *;obtain⟨e0,f0,e1,f1,e2,f2,-⟩:=kb2 aw;refine bv rfl (fun K I=>?_);go_simp;have bf:Fr Θ M (σ3 u4 a6 (ι m.v.kd) (ι m.v.n) (.slice av m.v.l.length cv)):=Fr.trans Y (aE (S:=(·=a6)) rfl 0 [(0,ι m.v.kd),(1,ι m.v.n),(2,.slice av m.v.l.length cv)] u4) (fun k hk e=>by omega);have ai:A (σ3 u4 a6 (ι m.v.kd) (ι m.v.n) (.slice av m.v.l.length cv)) a5 86 [ι 1,ι 0,ζ]:=((aE (S:=(·=a6)) rfl 0 [(0,ι m.v.kd),(1,ι m.v.n),(2,.slice av m.v.l.length cv)] u4).block a5 ai.lt aU).trans ai;have aw:A (σ3 u4 a6 (ι m.v.kd) (ι m.v.n) (.slice av m.v.l.length cv)) a6 86 [ι m.v.kd,ι m.v.n,.slice av m.v.l.length cv]:=aW (b:=0) [(0,ι m.v.kd),(1,ι m.v.n),(2,.slice av m.v.l.length cv)] _ _ aw;refine I _ _ _ Φ (fun _=>aB.out _ bf) ?_;clear I K e0 e1 e2 f0 f1 f2;try go_frame
 generalize (σ3 u4 a6 (ι m.v.kd) (ι m.v.n) (.slice av m.v.l.length cv):World)=u5 at *;refine cy ?_
 exact⟨a5,a6,rfl,rfl,ba,aS,aU,ai,aw,bf⟩):p:=h
def uR (z:Wf o w) (hI:aI o w W wm L) (hP:a9 o w p m) (af:p∉L) {f} (aJ:f≠1) (bo:f≠2) (hk:m.kd≠6) {wm1 wm2} (H:dQ m.own m.br dm m.ent.sy wm1=(.ok (),wm2)) (h2:dQ m.ent.sy m.ent.br m.v m.own wm2=(.ok (),wm')) (h:cR m.ent.sy wm=(.ok f,wm1)):Calls prog 306 #[π p,π W] w (be W p {m with met:=true,pa:=m.ent.sy,at_:=5} wm' L true o w):=by
 obtain⟨w1,ae,z1,b1,O⟩:=al1 w 293 [aA p];obtain⟨G,ap,z2,b2,Z,au⟩:=al2 b1 z1 27 [aA W];replace O:=au _ _ _ O;clear au;refine yh ?_;intro n0 n1 aM I ac aF;have aG:=jG 343 #[π (η w),ϖ w] G _ Ψ (jq aM ac aF af h _ _ Z O n1 n0);have aQ:=hP.lt;have bi:=χ aF;have K0:=χ O;have K1:=χ Z;have N1:=χ n1;have bl:=χ b2;clear hP hI ac aF h Z n1 I;unfold aA at *;go_enter func306,ntmps306;go_wp2_with fail;refine aG.mono ?_;rintro e M ⟨v,E,rfl,⟨rfl,o3,ag,aV⟩,ah⟩;have ax:=aM.BD ag;have ad:=bi.out.kept (ag.et (K:=(·=p)) fun q e=>by rw[e];exact af) ag.size rfl;have aa:=(tB ax ah).kp;obtain⟨aD,cx,av,cv,aq⟩:=ad.kept aa ah.size trivial;have ao:J (·∈L) o G o3 M:=ag.same aM (Zb ax ah);have aR:aT (ν G) W wm1 L o3 M:=yw;have aK:=ax.below ah;have bd:=aq.blk.lt;have kp:=aq.blk;have k4:A M (ν w) 293 [π p]:=(ao.frozen (ν w) K0.out.lt (fun q hq=>by rw[n0] at hq;cases hq)).1.trans K0.out;have aB:=χ (fun w' (h:Fr Θ M w')=>(show w'.cell? (κ (ν w) 0)=π p∧w'.cell? (κ p 12)=ι m.v.kd∧w'.cell? (κ p 13)=ι m.v.n∧w'.cell? (κ p 14)=some (.slice av m.v.l.length cv) from⟨(Zd (w:=M) (h.block _ k4.lt fun h=>h)).trans (k4.c 0 rfl),(Zd (w:=M) (h.block _ bd fun h=>h)).trans (kp.c 12 rfl),(Zd (w:=M) (h.block _ bd fun h=>h)).trans (kp.c 13 rfl),(Zd (w:=M) (h.block _ bd fun h=>h)).trans (kp.c 14 rfl)⟩));have bT:=χ aq;have bY:=χ ao;have b5:=χ aR;have bq:=χ k4
 have ca:A M (η w) 27 [π W]:=(ao.frozen _ K1.out.lt (fun q hq=>by rw[N1.out] at hq;cases hq)).1.trans K1.out;have b6:=χ ca;have ce:J (·∈L) o w o3 M:=((Zb (D:=(·∈L)) z bl.out).same z ao);have cm:=χ ce;have cg:w.heap.size≤G.heap.size:=ω;have cf:o3 w.heap.size=none:=(ao.frozen (ν w) K0.out.lt (fun q hq=>by rw[n0] at hq;cases hq)).2.trans n0;have ci:o3 (w.heap.size+1)=none:=(ao.frozen _ K1.out.lt (fun q hq=>by rw[N1.out] at hq;cases hq)).2.trans N1.out;have bL:=χ (⟨cf,ci⟩:o3 w.heap.size=none∧o3 (w.heap.size+1)=none);clear ca ce;clear aq ao aR kp k4 ag aV ad aG bi aa ah;go_upto_region 7 with fail;rw[show (f == 1)=false by simpa using aJ,show (f == 2)=false by simpa using bo];refine vR (fun a x y=>(((((((a.put (some 16) (.agg #[ι 1,ι 0,ζ])).put (some 17) (π p)).put (some 18) (π p)).put (some 19) (.pointer (some ⟨p,10,none⟩))).put (some 20) (.pointer (some ⟨p,12,none⟩))).put (some 21) (.agg (υ m.v av cv))).put (some 5) (π x)).put (some 6) (π y)) (fun x y w9=>M.heap.size≤x∧M.heap.size≤y∧x≠y∧A w9 x 86 [ι 1,ι 0,ζ]∧A w9 y 86 [ι m.v.kd,ι m.v.n,.slice av m.v.l.length cv]∧Fr Θ M w9) ?reg ?rest
 case reg=>
  have bN:Fr Θ M M.drew:=Yn;refine ik 20 [6,7] [(1,true),(2,true),(3,true),(4,true),(5,true),(0,false),(8,false),(9,false)] (fun w'=>w'.cell? (κ (ν w) 0)=π p∧w'.cell? (κ p 12)=ι m.v.kd∧w'.cell? (κ p 13)=ι m.v.n∧w'.cell? (κ p 14)=some (.slice av m.v.l.length cv)) ψ ψ (aB.out _ bN) ?_;generalize M.drew=u0 at *;iterate 5 (refine wpG_t ?_;try go_frame)
  refine mD rfl rfl rfl rfl (fun K I=>?q1a) (fun K I=>?q1b) (fun _ _ K I=>?q1c)
  case q1a=>
   go_simp;have a1:=bN.same (Yp θ1);have ai:=Zh u0 86 [ι 0,ι 0,ζ];have ba:M.heap.size≤u0.heap.size:=bN.size;refine I _ _ _ Φ (aB.out _ a1) ?_;clear I K;try go_frame
   generalize u0.alloc θ1=u1 at *;generalize u0.heap.size=a5 at *;refine cG rfl rfl (fun K I=>?q2a) (fun _ K I=>?q2c)
   case q2a=>
    go_simp;have a8:=a1.same (Yp θ1);have aw:=Zh u1 86 [ι 0,ι 0,ζ];have aS:M.heap.size≤u1.heap.size:=a1.size;have ay:a5≠u1.heap.size:=Yy ai.lt;have ai:=ai.alloc θ1;refine I _ _ _ Φ (aB.out _ a8) ?_;clear I K;try go_frame
    generalize u1.alloc θ1=u2 at *;generalize u1.heap.size=a6 at *;have aU:a5≠a6:=ay;refine bv rfl (fun K I=>?_);go_simp;go_at_call 192;refine δ (fK _) ?_;intro u3 bc;have a7:=a8.same (ZA bc);have ai:=Z6 ai bc;have aw:=Z6 aw bc;refine I _ _ _ Φ (fun _=>aB.out _ a7) ?_;clear I K bc;try go_frame
    exact yz
   case q2c=>
    go_simp;go_at_call 192;refine δ (fK _) ?_;intro u2 bc;have a8:=a1.same (ZA bc);have ai:=Z6 ai bc;refine I _ _ _ Φ (fun _=>aB.out _ a8) ?_;clear I K bc;try go_frame
    exact AN
  case q1b=>
   go_simp;have a1:=bN.same (Yp θ1);have aw:=Zh u0 86 [ι 0,ι 0,ζ];have aS:M.heap.size≤u0.heap.size:=bN.size;refine I _ _ _ Φ (aB.out _ a1) ?_;clear I K;try go_frame
   generalize u0.alloc θ1=u1 at *;generalize u0.heap.size=a6 at *;refine cG rfl rfl (fun K I=>?q7a) (fun _ K I=>?q7c)
   case q7a=>
    go_simp;have a8:=a1.same (Yp θ1);have ai:=Zh u1 86 [ι 0,ι 0,ζ];have ba:M.heap.size≤u1.heap.size:=a1.size;have ay:a6≠u1.heap.size:=Yy aw.lt;have aw:=aw.alloc θ1;refine I _ _ _ Φ (aB.out _ a8) ?_;clear I K;try go_frame
    generalize u1.alloc θ1=u2 at *;generalize u1.heap.size=a5 at *;have aU:a5≠a6:=ay.symm;refine bv rfl (fun K I=>?_);go_simp;go_at_call 192;refine δ (fK _) ?_;intro u3 bc;have a7:=a8.same (ZA bc);have aw:=Z6 aw bc;have ai:=Z6 ai bc;refine I _ _ _ Φ (fun _=>aB.out _ a7) ?_;clear I K bc;try go_frame
    exact yz
   case q7c=>
    go_simp;go_at_call 192;refine δ (fK _) ?_;intro u2 bc;have a8:=a1.same (ZA bc);have aw:=Z6 aw bc;refine I _ _ _ Φ (fun _=>aB.out _ a8) ?_;clear I K bc;try go_frame
    exact AO
  case q1c=>
   go_simp;go_at_call 192;refine δ (fK _) ?_;intro u1 bc;have a1:=bN.same (ZA bc);refine I _ _ _ Φ (fun _=>aB.out _ a1) ?_;clear I K bc;try go_frame
   refine mD rfl rfl rfl rfl (fun K I=>?q12a) (fun K I=>?q12b) (fun hd _=>(ZR (hd.symm.trans ψ)).elim)
   case q12a=>
    go_simp;have a8:=a1.same (Yp θ1);have ai:=Zh u1 86 [ι 0,ι 0,ζ];have ba:M.heap.size≤u1.heap.size:=a1.size;refine I _ _ _ Φ (aB.out _ a8) ?_;clear I K;try go_frame
    generalize u1.alloc θ1=u2 at *;generalize u1.heap.size=a5 at *;exact AN
   case q12b=>
    go_simp;have a8:=a1.same (Yp θ1);have aw:=Zh u1 86 [ι 0,ι 0,ζ];have aS:M.heap.size≤u1.heap.size:=a1.size;refine I _ _ _ Φ (aB.out _ a8) ?_;clear I K;try go_frame
    generalize u1.alloc θ1=u2 at *;generalize u1.heap.size=a6 at *;exact AO
 case rest=>
  rintro x y w9 ⟨hx,hy,cr,aj,bb,hF⟩;try go_frame
  have b3:J Θ o3 M o3 w9:=Z9 aK hF fun _ _ h=>h.elim;have bC:=bT.out.kept (b3.kp) b3.size trivial;have a4:=bC.blk.c 10 rfl;have k7:=(hF.block _ bq.out.lt fun h=>h).trans bq.out;have c0:=Zz (w:=w9) k7 0 rfl;have bQ:=aj;have bO:=bb;have an:=hF;have bZ:J Θ o3 M o3 w9:=Z9 aK an fun _ _ h=>h.elim;have b8:J Θ o3 w9 o3 w9.drew:=Zb (aK.BD bZ) (Zj _ _).drew;have bG:=bZ.same aK b8;have bR:=aK.BD bG;have bV:=bT.out.kept (bG.kp) bG.size trivial;obtain⟨L1,bw,a'⟩:=b5.out;have bd:p < w9.heap.size:=Za bT.out.blk.lt an.size;have bU:p∉L1:=fun h=>(a' p h).elim af fun h=>by have:=cg;omega
  have bK:o3 x=none:=aK.ge hx;have cj:o3 y=none:=aK.ge hy;have kp:A w9 (ν w) 293 [π p]:=(an.block _ bq.out.lt fun h=>h).trans bq.out;have kW:A w9 (η w) 27 [π W]:=(an.block _ b6.out.lt fun h=>h).trans b6.out;have kq:A w9 p 398 (g6 m aD cx av cv):=bV.blk
  have bE:=χ (fun o' w' (D:Nat→Prop) (U:J D o3 w9.drew o' w') (hD:¬D p) b (hb:b∈[w.heap.size,w.heap.size+1,p,x,y])=>(show w'.heap[b]? =w9.heap[b]? from by
    simp only[List.mem_cons,List.not_mem_nil,or_false] at hb;rcases hb with rfl | rfl | rfl | rfl | rfl
    ·exact (U.frozen _ kp.lt (fun q hq=>by rw[bL.out.1] at hq;cases hq)).1
    ·exact (U.frozen _ kW.lt (fun q hq=>by rw[bL.out.2] at hq;cases hq)).1
    ·exact (ZO (K:=(·=b)) U (fun q e=>by rw[e];exact hD) b bd (fun q hq=>by rw[bV.own] at hq;cases hq;rfl)).1
    ·exact (U.frozen _ bQ.lt (fun q hq=>by rw[bK] at hq;cases hq)).1
    ·exact (U.frozen _ bO.lt (fun q hq=>by rw[cj] at hq;cases hq)).1))
  have aB:=χ (fun (w':World) (h:∀b∈[w.heap.size,w.heap.size+1,p,x,y],w'.heap[b]? =w9.heap[b]?)=>(show w'.cell? (κ (ν w) 0)=π p∧w'.cell? (κ (η w) 0)=π W∧w'.cell? (κ p 0)=ι m.ent.sy∧w'.cell? (κ p 2)=ι m.ent.br∧w'.cell? (κ p 8)=ι m.own∧w'.cell? (κ p 9)=ι m.br∧w'.cell? (κ x 0)=ι 1∧w'.cell? (κ x 1)=ι 0∧w'.cell? (κ x 2)=ζ∧w'.cell? (κ y 0)=ι m.v.kd∧w'.cell? (κ y 1)=ι m.v.n∧w'.cell? (κ y 2)=some (.slice av m.v.l.length cv) from
    ⟨(Zd (w:=w9) (h _ ξ)).trans (kp.c 0 rfl),(Zd (w:=w9) (h _ ξ)).trans (kW.c 0 rfl),(Zd (w:=w9) (h p ξ)).trans (kq.c 0 rfl),(Zd (w:=w9) (h p ξ)).trans (kq.c 2 rfl),(Zd (w:=w9) (h p ξ)).trans (kq.c 8 rfl),(Zd (w:=w9) (h p ξ)).trans (kq.c 9 rfl),
      (Zd (w:=w9) (h x ξ)).trans (bQ.c 0 rfl),(Zd (w:=w9) (h x ξ)).trans (bQ.c 1 rfl),(Zd (w:=w9) (h x ξ)).trans (bQ.c 2 rfl),(Zd (w:=w9) (h y ξ)).trans (bO.c 0 rfl),(Zd (w:=w9) (h y ξ)).trans (bO.c 1 rfl),(Zd (w:=w9) (h y ξ)).trans (bO.c 2 rfl)⟩))
  have cb:=h8 bR (bw.kept (bG.kp) bG.size fun _ _=>Zk) (v:=dm) (av:=none) (cv:=0) (mQ _ _) H
  have bX:=χ (fun o5 V (az:J (·∈L1) o3 w9.drew o5 V) (aC:aT w9.drew.heap.size W wm2 L1 o5 V)=>(show Calls prog 346 #[π W,ι m.ent.sy,ι m.ent.br,.agg (υ m.v av cv),ι m.own] V fun e w6=>e= .returned (ι 0)∧Hid (∃o6,J (·∈L) o w o6 w6∧aT (ν w) W wm' L o6 w6∧b' o6 w6 p m aD cx av cv∧w9.heap.size≤w6.heap.size∧∀b∈[w.heap.size,w.heap.size+1,p,x,y],w6.heap[b]? =w9.heap[b]?) from by
    obtain⟨L2,bB,bI⟩:=aC;have aL:=bR.BD az;have bp:=bV.kept (az.et (K:=(·=p)) fun q e=>by rw[e];exact bU) az.size rfl;have b9:p∉L2:=fun h=>(bI p h).elim bU fun h=>absurd bd (by have:w9.drew.heap.size=w9.heap.size:=rfl;omega);refine (h8 aL bB (v:=m.v) (av:=av) (cv:=cv) bp.v h2).mono ?_;rintro e w6 ⟨o6,a3,⟨L3,bx,bH⟩,rfl⟩;have cq:=bY.out.size;have s9:=bG.size;have s5:=az.size;have b0:J (fun k=>k∈L1∨k∈L2) o3 w9.drew o6 w6:=(az.more (D':=fun k=>k∈L1∨k∈L2) bR fun _ _ h=>.inl h).same bR (a3.more aL fun _ _ h=>.inr h);refine⟨rfl,χ ⟨o6,?_,⟨L3,bx,fun k hk=>?_⟩,bp.kept (a3.et (K:=(·=p)) fun q e=>by rw[e];exact b9) a3.size rfl,b0.size,bE.out _ _ _ b0 fun h=>h.elim bU b9⟩⟩
    ·refine (((cm.out.same z (bG.more aK fun _ _ h=>h.elim))).trans z b0 fun k hk h=>?_:J (·∈L) o w o6 w6)
     rcases h with h | h
     ·exact (a' k h).resolve_right ω
     ·exact (a' k ((bI k h).resolve_right ω)).resolve_right ω
    ·rcases bH k hk with h | h
     ·rcases bI k h with h | h
      ·exact (a' k h).imp id fun h=>by omega
      ·exact .inr ω
     ·exact .inr ω))
  have bh:∀b∈[w.heap.size,w.heap.size+1,p,x,y],w9.drew.heap[b]? =w9.heap[b]? :=fun _ _=>rfl
  have a0:=χ (fun b (hb:b∈[w.heap.size,w.heap.size+1,p,x,y])=>(show b < w9.heap.size from by
    simp only[List.mem_cons,List.not_mem_nil,or_false] at hb;rcases hb with rfl | rfl | rfl | rfl | rfl
    ·exact kp.lt
    ·exact kW.lt
    ·exact bd
    ·exact bQ.lt
    ·exact bO.lt))
  have bu:=χ (fun o5 V (az:J (·∈L1) o3 w9.drew o5 V)=>bE.out o5 V _ az bU);clear b3 bC k7 bZ b8 bG bV bw bd kp kW kq bQ bO an aj bb hF bE bR H h2;have bM:(m.kd == 6)=false:=by simp[hk]
  go_upto_region 10 with fail;clear c0 a4 bM;refine bj [(0,true),(1,true),(2,true),(3,true),(4,true),(5,true),(6,true),(7,true),(8,true),(9,true),(10,true),(11,true),(12,true),(13,true),(14,true),(16,true),(17,true),(18,true),(19,true),(20,true),(21,true),(22,true),(23,true),(24,true),(25,true),(26,true),(27,true),(28,true),(29,true),(30,true),(31,true),(15,false),(32,false),(33,false),(34,false)] (fun w'=>w'.cell? (κ (ν w) 0)=π p∧w'.cell? (κ (η w) 0)=π W∧w'.cell? (κ p 0)=ι m.ent.sy∧w'.cell? (κ p 2)=ι m.ent.br∧w'.cell? (κ p 8)=ι m.own∧w'.cell? (κ p 9)=ι m.br∧w'.cell? (κ x 0)=ι 1∧w'.cell? (κ x 1)=ι 0∧w'.cell? (κ x 2)=ζ∧w'.cell? (κ y 0)=ι m.v.kd∧w'.cell? (κ y 1)=ι m.v.n∧w'.cell? (κ y 2)=some (.slice av m.v.l.length cv)) ψ ψ (aB.out _ bh) ?_;iterate 31 (refine wpC_t ?_;try go_frame)
  refine xP ?_;intro K I;go_at_call 346;refine cb.mono ?_;rintro e V ⟨o5,az,aC,rfl⟩;have aX:=bu.out o5 V az;have b4:=bX.out o5 V az aC;refine I _ _ _ Φ (fun _=>aB.out _ aX) ?_;clear I K;refine xR ?_;intro K I;go_at_call 346;refine δ b4 ?_;intro w6 HX;have bg:∀b∈[w.heap.size,w.heap.size+1,p,x,y],w6.heap[b]? =w9.heap[b]? :=by obtain⟨o6,g1,g2,g3,g4,g5⟩:=HX.out;exact g5
  have b7:∀b∈[w.heap.size,w.heap.size+1,p,x,y],b < w6.heap.size:=by obtain⟨o6,g1,g2,g3,g4,g5⟩:=HX.out;exact fun b hb=>Za (a0.out b hb) g4
  refine I _ _ _ Φ (fun _=>aB.out _ bg) ?_;clear I K;refine xR ?_;intro K I;have aY:=am w6 (.cells #[ι 0,ι 0] 33);have bD:∀b∈[w.heap.size,w.heap.size+1,p,x,y],(w6.alloc (.cells #[ι 0,ι 0] 33)).heap[b]? =w9.heap[b]? :=fun b hb=>(aY.block b (b7 b hb)).trans (bg b hb);have ak:=Zh w6 33 [ι 0,ι 0];have bF:=rK (ν w6) 2 (w6.alloc (.cells #[ι 0,ι 0] 33)) (ak.c 0 rfl) (ak.c 1 rfl);refine I _ _ _ Φ (fun _=>aB.out _ bD) ?_;clear I K;refine xR ?_;intro K I;go_at_call 345;refine γ bF ?_;refine I _ _ _ Φ (fun _=>aB.out _ bD) ?_;clear I K;try go_frame
  refine bn ?_;obtain⟨o6,g1,g2,g3,g4,g5⟩:=HX.out;have aP:=z.BD g1;have g2:=g2.below aP aY;have g3:=g3.kept (kB aP aY) aY.size trivial;have g1:=g1.same z (Zb aP aY);obtain⟨c0,-,cp,-⟩:=aB.out _ bD;clear aX bg bD b7 ak bF az aC b4 cb HX aB bu bX a0 aY g4 g5 aP;generalize w6.alloc (.cells #[ι 0,ι 0] 33)=w8 at *;have bt:=z.BD g1;obtain⟨t1,t2⟩:=g3.meet bt m.ent.sy;have bS:=g3.blk.c 17 rfl;have cd:=g3.blk.c 18 rfl;have cn:=g3.blk.fz 17;have ck:=g3.blk.fz 18;have HT:=χ (⟨g1,g2,t1,t2,bt⟩:_∧_∧_∧_∧_);clear t1 t2 g1 g2 g3 bt;go_upto_region 11 with fail;go_region;obtain⟨g1,g2,t1,t2,bt⟩:=HT.out;have bz:w.heap.size≠p:=ω;have bJ:(σ (σ w8 p 17 (.bool true)) p 18 (ι m.ent.sy):World).cell? (κ (ν w) 0)=π p:=(Zd (w:=w8) (by rw[Below.heap_setCell _ _ _ _ bz,Below.heap_setCell _ _ _ _ bz])).trans c0;clear HT c0 cp bS cd cn ck;have bW:=bt.BD t1;generalize (σ (σ w8 p 17 (.bool true)) p 18 (ι m.ent.sy):World)=aZ at *;have u1:=t1.same bt (Zb (D:=(·=p)) bW (Zj (ν aZ) aZ).drew);have u2:=t2.kept ((tB bW (Zj (ν aZ) aZ).drew).kp) (Zc _) trivial;have c0:aZ.drew.cell? (κ (ν w) 0)=π p:=bJ;have bA:=bt.BD u1;clear t1 t2 bJ bW;generalize aZ.drew=aO at *;obtain⟨v1,v2⟩:=u2.state bA 5;have c7:=u2.blk.c 7 rfl;have f7:=u2.blk.fz 7;have HF:=χ (be.BY (b:=true) z (g1.more (D':=fun k=>k∈L∨k=p) z fun _ _ h=>.inl h) (Zc _) af aQ g2 (u1.same bt v1) ⟨_,_,_,_,v2⟩);clear v1 v2 g1 g2 u1 u2;go_wp2_with fail;go_ret;exact HF.out
end
end
end Go.Proofs.YtmchabopafimeaaGreatDoor
