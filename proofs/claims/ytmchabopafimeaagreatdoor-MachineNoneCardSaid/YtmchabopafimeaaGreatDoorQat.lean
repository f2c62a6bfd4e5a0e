import Derived.Test.YtmchabopafimeaaGreatDoorQas
namespace Go.Proofs.YtmchabopafimeaaGreatDoor
set_option maxRecDepth 100000
set_option maxHeartbeats 16000000
set_option linter.all false
open Go.RowKit Go.Sort Tryz
section
section
variable {o o2:ab} {w w' E:World} {S W:Nat} {m:bd} {pp pb:Option Nat} {an ay al:Option Addr} {cn cc cl:Nat} {L L3 Ls:List Nat} {wm wm':aH}
def rA (a c f w):Calls prog 297 #[.slice a 0 c,f] w (μ (.slice none 0 0) w):=by
 go_enter func297,ntmps297;go_wp2_with fail;go_loopw [5,7,10] (fun vo _ ix wr=>vo= .slice none 0 0∧ix= .int .i64 0∧wr=w) (fun _ _ _ _=>0)
 case atStart=>exact⟨rfl,rfl,rfl⟩
 case round=>obtain⟨rfl,rfl,rfl⟩:=hrel;go_wp2_with fail;go_ret;exact⟨rfl,rfl⟩
def rx (z:Wf o w) (hI:aI o w W wm L) (hN:a8 o w S m Ls) (hd:∀k∈Ls,k∉L) (pa) :
  Calls prog 261 #[π S,π W,ι pa,Υ] w (bE W S {m with po:=none,bk:=none,at_:=4,pa:=pa} wm L Ls (.tuple #[]) o w):=by
 obtain⟨pp,pb,an,ay,al,cn,cc,cl,hN,rfl⟩:=hN;have O:=hN.blk;have Z:=O.set 0 (.pointer none);have k2:=Z.set 6 (.pointer none);have k3:=k2.set 1 (ι 4);obtain⟨x0,y0,-⟩:=kb0 O;have x6:=Z.c 6 rfl;have y6:=Z.fz 6;obtain⟨-,-,x1,y1,-⟩:=kb1 k2;have x9:=k3.c 9 rfl;have y9:=k3.fz 9
 have HF:aX W S {m with po:=none,bk:=none,at_:=4,pa:=pa} wm L (S :: (pp.toList ++ pb.toList)) o w o (σ (σ (σ (σ w S 0 (.pointer none)) S 6 (.pointer none)) S 1 (ι 4)) S 9 (ι pa)) L (S :: ((none:Option Nat).toList ++ (none:Option Nat).toList)):=ft z (ZM _ z) hI (fun _ h=>.inl h) hN [(0,.pointer none),(6,.pointer none),(1,ι 4),(9,ι pa)] (k3.set 9 _) rfl rfl rfl (by
   intro k hk;simp at hk ⊢;exact .inl (.inl hk)) ξ (by
   intro k hk;simp at hk
   exact hd k (by simp[hk]))
 clear hI hN O Z k2 k3;go_enter func261,ntmps261;go_wp2_with fail;exact yC
def mo (z:Wf o w) (hI:aI o w W wm L) (a5:∀x∈wm.sys,bK x) (hN:a8 o w S m Ls) (hd:∀k∈Ls,k∉L) {x} (h:az m.own wm=(.ok x,wm')) (b:Nat) (hb:x.br=b) (aL:b < m.nk) :
  Calls prog 272 #[π S,π W] w (bE W S {m with at_:=5} wm' L Ls (.tuple #[]) o w):=by
 obtain⟨rfl,hC⟩:=e7 z hI a5 h;obtain⟨pp,pb,an,ay,al,cn,cc,cl,hN,rfl⟩:=hN;have c2:=hN.blk.c 2 rfl;have HI:=χ hI;have HN:=χ hN;clear hI hN h a5;go_enter func272,ntmps272;go_upto_region 1 with (go_at_call 113;refine hC.mono ?_;rintro e G ⟨o2,aq,xs,rfl,aK⟩;obtain⟨aQ,ac2,av,cb,cc2,cv,rfl,-⟩:=id aK;rw[hb] at *);have ap:=z.BD aq;have ac:=am G (.cells #[ι x.th,.slice aQ x.bases.length cb,.slice ac2 x.conds.length cc2,ι x.fl,.bool x.parked,.bool x.done,ι (b:Nat),ι x.v.kd,ι x.v.n,.slice av x.v.l.length cv,ι x.pa] 126);have kx:=Zh G 126 [ι x.th,.slice aQ x.bases.length cb,.slice ac2 x.conds.length cc2,ι x.fl,.bool x.parked,.bool x.done,ι (b:Nat),ι x.v.kd,ι x.v.n,.slice av x.v.l.length cv,ι x.pa];generalize G.alloc (.cells #[ι x.th,.slice aQ x.bases.length cb,.slice ac2 x.conds.length cc2,ι x.fl,.bool x.parked,.bool x.done,ι (b:Nat),ι x.v.kd,ι x.v.n,.slice av x.v.l.length cv,ι x.pa] 126)=E at *;go_upto_region 4 with fail;have ah:=ac.trans ((am E (.cells #[ζ] 47)).mono ac.size);have aM:=kx.alloc (.cells #[ζ] 47);have kn:=Zh E 47 [ζ];generalize E.alloc (.cells #[ζ] 47)=M at *;have ag:J Θ o2 G o2 M:=Zb ap ah;have ao:=aq.same z ag;have aa:=ao.kp;have aG:=HN.out.kept aa ao.size trivial (fun _ _=>Zk) fun _ _=>Zk;obtain⟨H,on,ns,rfl,af,-,aA,Y,nc,rfl⟩:=aG.nk b () (by rw[List.getElem?_replicate];simp[aL]);have n4:M.cell? (κ S 4)=some (.slice (some ⟨H,on,none⟩) m.nk cn):=aG.blk.c 4 rfl;have U:=aM.c 6 rfl
 have nb:M.cell? (κ H (on+b))=some (.slice Y 0 nc):=by have:=aA 0 ω;simpa using this
 have aJ:decide (b < m.nk)=true:=Zy aL;obtain⟨nk,aj⟩:∃n,m.nk=n:=⟨_,rfl⟩;rw[aj] at n4 aJ aL;have HK:=χ kn;clear aG ao ag aa kn kx aM aA hC aK;go_quiet (fail);have ai:Below (ν G) G (M.drewN nq):=ah.trans ⟨rfl,rfl,rfl,Zc _,fun _ _=>rfl⟩;replace n4:(M.drewN nq).cell? (κ S 4)=some (.slice (some ⟨H,on,none⟩) nk cn):=n4;replace U:(M.drewN nq).cell? (κ (ν G) 6)=ι (b:Nat):=U;replace nb:(M.drewN nq).cell? (κ H (on+b))=some (.slice Y 0 nc):=nb;have ae:A (M.drewN nq) (ν E) 47 [ζ]:=HK.out;have hz:G.heap.size≤E.heap.size:=ac.size;clear HK;generalize M.drewN nq=V at *;go_upto_region 5 with fail;have aO:V.drew.cell? (κ S 4)=some (.slice (some ⟨H,on,none⟩) nk cn)∧V.drew.cell? (κ (ν G) 6)=ι (b:Nat)∧V.drew.cell? (κ H (on+b))=some (.slice Y 0 nc):=⟨n4,U,nb⟩;refine bj [(0,true),(1,true),(2,true),(3,true),(4,true),(5,true),(6,true),(7,true),(8,false)] (fun w'=>w'.cell? (κ S 4)=some (.slice (some ⟨H,on,none⟩) nk cn)∧w'.cell? (κ (ν G) 6)=ι (b:Nat)∧w'.cell? (κ H (on+b))=some (.slice Y 0 nc)) ψ ψ aO ?_;iterate 8 (refine wpC_t ?_;refine pe ?_)
 have r0:=(YC ae).c 0 rfl;have f0:=(YC ae).fz 0;refine ya ?_;intro K I;clear I K r0 f0;refine pe ?_;refine bn ?_;have aw:Below (ν G) G (σ V (ν E) 0 (.slice Y 0 nc):World).drew:=(ai.setCell (p:=κ (ν E) 0) hz _).drew;clear ai ah ac n4 U nb aO ae;generalize (σ V (ν E) 0 (.slice Y 0 nc):World).drew=w6 at *;have ak:J Θ o2 G o2 w6:=Zb ap aw;have a3:=aq.same z ak;have a7:=a3.kp;have ad:=HN.out.kept a7 a3.size trivial (fun _ _=>Zk) fun _ _=>Zk;have bx:=HI.out.kept a7 a3.size fun _ _=>Zk;have O:=ad.blk;have Z:=O.set 8 (.slice none 0 0);have k2:=Z.set 1 (ι 5);have x5:=O.c 5 rfl;have x8:=O.c 8 rfl;have y8:=O.fz 8;obtain⟨-,-,x1,y1,-⟩:=kb1 Z;have x7:=k2.c 7 rfl;have y7:=k2.fz 7;have HF:aX W S {m with at_:=5} wm' L (S :: (pp.toList ++ pb.toList)) o w o2 (σ (σ (σ w6 S 8 (.slice none 0 0)) S 1 (ι 5)) S 7 (.pointer none)) L (S :: (pp.toList ++ pb.toList)):=ft z (a3.more z fun _ _ h=>h.elim) bx (fun _ h=>.inl h) ad [(8,ζ),(1,ι 5),(7,.pointer none)] (k2.set 7 _) ad.po ad.bk rfl (fun _ h=>.inl h) ξ hd;clear bx ad O Z k2 a7 a3 ak;go_wp2_with (go_at_call 297;refine γ (rA _ _ _ _) ?_);exact yC
def qH (z:Wf o w) (hI:aI o w W wm L) (a5:∀x∈wm.sys,bK x) (hN:a8 o w S m Ls) (hd:∀k∈Ls,k∉L) {x} (h:az m.own wm=(.ok x,wm')) (b:Nat) (hb:x.br=b) (aL:b < m.nk) (pa) :
  Calls prog 261 #[π S,π W,ι pa,Δ] w (bE W S {m with po:=none,bk:=none,at_:=5} wm' L Ls (.tuple #[]) o w):=by
 obtain⟨pp,pb,an,ay,al,cn,cc,cl,hN,rfl⟩:=hN;have O:=hN.blk;have Z:=O.set 0 (.pointer none);obtain⟨x0,y0,-⟩:=kb0 O;have x6:=Z.c 6 rfl;have y6:=Z.fz 6
 have HF:aX W S {m with po:=none,bk:=none} wm L (S :: (pp.toList ++ pb.toList)) o w o (σ (σ w S 0 (.pointer none)) S 6 (.pointer none)) L (S :: ((none:Option Nat).toList ++ (none:Option Nat).toList)):=ft z (ZM _ z) hI (fun _ h=>.inl h) hN [(0,.pointer none),(6,.pointer none)] (Z.set 6 _) rfl rfl rfl (by
   intro k hk;simp at hk ⊢;exact .inl (.inl hk)) ξ (by
   intro k hk;simp at hk
   exact hd k (by simp[hk]))
 have ae:=z.BD HF.1;have hC:=mo ae HF.2.1 a5 HF.2.2.1 HF.2.2.2.2.2 h b hb aL;clear hI hN O Z;go_enter func261,ntmps261;go_wp2_with (go_at_call 272;refine hC.mono ?_;rintro e E ⟨o3,L3,Ls3,aV,rfl⟩);refine xQ ?_;exact⟨_,_,_,HF.then z aV,rfl⟩
end
end
section
section
variable {o:ab} {w w' E:World} {S W:Nat} {m:bd} {pp pb:Option Nat} {an ay al:Option Addr} {cn cc cl:Nat} {L L3 Ls:List Nat} {wm wm':aH}
def aX.stay (z:Wf o w) (hI:aI o w W wm L) (hN:a8 o w S m Ls) (hd:∀k∈Ls,k∉L):aX W S m wm L Ls o w o w L Ls:=⟨ZM _ z,hI,hN,fun _ h=>.inl h,fun _ h=>.inl h,hd⟩
def mt {p q} (h:bD o w p q) (h0:q.at_≠0):Calls prog 262 #[π p] w (μ (ι q.at_) w):=by obtain⟨aD,cx,av,cv,h⟩:=h;exact wS h h0
def ze {p:Prop} (h:p:=by
 have HF:=χ (aX.stay z hI hN hd);obtain⟨pp,pb,an,ay,al,cn,cc,cl,hN,rfl⟩:=hN;have c1:=hN.blk.c 1 rfl;rw[ha] at c1;clear hI hN;go_enter func234,ntmps234;go_wp2_with fail;go_ret
 exact⟨_,_,_,HF.out,rfl⟩):p:=h
def tV (z:Wf o w) (hI:aI o w W wm L) (hN:a8 o w S m Ls) (hd:∀k∈Ls,k∉L) (ha:m.at_=3) :
  Calls prog 234 #[π S,π W] w (bE W S m wm L Ls (.bool false) o w):=by exact ze
def rJ (z:Wf o w) (hI:aI o w W wm L) (hN:a8 o w S m Ls) (hd:∀k∈Ls,k∉L) (ha:m.at_=4) :
  Calls prog 234 #[π S,π W] w (bE W S m wm L Ls (.bool false) o w):=by exact ze
def oO (z:Wf o w) (hI:aI o w W wm L) (hN:a8 o w S m Ls) (hd:∀k∈Ls,k∉L) (ha:m.at_=6) :
  Calls prog 234 #[π S,π W] w (bE W S m wm L Ls (.bool false) o w):=by exact ze
def ud (z:Wf o w) (hI:aI o w W wm L) (hN:a8 o w S m Ls) (hd:∀k∈Ls,k∉L) (ha:m.at_=5) :
  Calls prog 234 #[π S,π W] w (bE W S {m with at_:=6} wm L Ls (.bool false) o w):=by obtain⟨pp,pb,an,ay,al,cn,cc,cl,hN,rfl⟩:=hN;have O:=hN.blk;have Z:=O.set 1 (ι 6);obtain⟨-,-,x1,y1,-,-,-,-,-,-,-,-,-,-,A,-,x8,-,-⟩:=kb8 O;have x7:=Z.c 7 rfl;have y7:=Z.fz 7;have HF:aX W S {m with at_:=6} wm L (S :: (pp.toList ++ pb.toList)) o w o (σ (σ w S 1 (ι 6)) S 7 (.pointer none)) L (S :: (pp.toList ++ pb.toList)):=ft z (ZM _ z) hI (fun _ h=>.inl h) hN [(1,ι 6),(7,.pointer none)] (Z.set 7 _) hN.po hN.bk rfl (fun _ h=>.inl h) ξ hd;rw[ha] at x1;clear hI hN O Z;go_enter func234,ntmps234;go_wp2_with fail;go_ret;exact⟨_,_,_,HF,rfl⟩
def zf {p q:Prop} (k:q) (h:Zq q→p:=by
 intro mq;have bp:=hN.blk.lt;have c0:w.cell? (κ S 0)=π p:=hN.blk.c 0 rfl;have c1:w.cell? (κ S 1)=ι 1:=by rw[←ha];exact hN.blk.c 1 rfl
 have HP:=χ (fun w1 (hb:Below (ν w) w w1)=>(show a9 o w1 p q from hP.kept (kB z hb) hb.size trivial));have bc:=χ (fun w1 (hb:Below (ν w) w w1)=>(aX.stay z hI ad hd).below z hb);have A:=χ (fun w1 (hb:Below (ν w) w w1)=>(show w1.cell? (κ S 0)=π p∧w1.cell? (κ S 1)=ι 1 from⟨(hb.cell (p:=κ S 0) bp).trans c0,(hb.cell (p:=κ S 1) bp).trans c1⟩));have HE:=χ (fun w1 (hb:Below (ν w) w w1)=>jI (HP.out w1 hb) h0);revert bp c0 c1 HP bc A HE
 exact mq.u):p:=h ⟨k⟩
def tq (z:Wf o w) (hI:aI o w W wm L) (hN:a8 o w S m Ls) (hd:∀k∈Ls,k∉L) (ha:m.at_=1) {q} (hq:m.po=some q) (h0:q.at_≠0) (U:q.at_≠10) (ah:q.at_≠11) :
  Calls prog 234 #[π S,π W] w (bE W S m wm L Ls (.bool false) o w):=by
 have ad:=hN;obtain⟨pp,pb,an,ay,al,cn,cc,cl,hN,rfl⟩:=hN;have ai:=hN.po;rw[hq] at ai;obtain⟨p,rfl,hP⟩:=ai;refine zf ?_;intro bp c0 c1 HP bc A HE;have HW:=χ (fun w1 (hb:Below (ν w) w w1)=>mB (HP.out w1 hb) h0);have bi:(q.at_ == 10)=false:=by simp[U]
 have ao:(q.at_ == 11)=false:=by simp[ah]
 clear hI hN ad hP;go_enter func234,ntmps234;go_wp2_with first
  | (go_at_call 257;refine δ (HE.out _ (Zj _ _)) ?_;intro w1 af;obtain⟨d0,d1⟩:=A.out w1 af;try rw[bi])
  | (go_at_call 259;refine δ (HW.out _ af) ?_;intro G aa;have aM:=af.trans (aa.mono af.size);obtain⟨f0,f1⟩:=A.out G aM;try rw[ao])
 go_ret;exact⟨_,_,_,bc.out _ aM,rfl⟩
def vV (z:Wf o w) (hI:aI o w W wm L) (hN:a8 o w S m Ls) (hd:∀k∈Ls,k∉L) (ha:m.at_=1) {q} (hq:m.po=some q) (h0:q.at_≠0) (U:q.at_=10) (hbr:m.br=0) (aj:m.nk=1) (a5:∀x∈wm.sys,bK x) {b} (h:hy m.own 0 wm=(.ok b,wm')) :
  Calls prog 234 #[π S,π W] w (bE W S {m with bk:=some b,at_:=2,br:=0,po:=none} wm' L Ls (.bool true) o w):=by
 have ad:=hN;obtain⟨pp,pb,an,ay,al,cn,cc,cl,hN,rfl⟩:=hN;have ai:=hN.po;rw[hq] at ai;obtain⟨p,rfl,hP⟩:=ai;refine zf ?_;intro bp c0 c1 HP bc A HE;have c3:w.cell? (κ S 3)=ι 0:=by rw[←hbr];exact hN.blk.c 3 rfl
 have c4:w.cell? (κ S 4)=some (.slice an 1 cn):=by rw[←aj];exact hN.blk.c 4 rfl
 have HB:=χ (fun w1 (hb:Below (ν w) w w1)=>by
   have H:=bc.out w1 hb
   exact qZ (z.below hb) H.2.1 a5 H.2.2.1 hd h)
 have bi:(q.at_ == 10)=true:=by simp[U]
 clear hI hN ad hP;go_enter func234,ntmps234;go_upto_region 3 with (go_at_call 257;refine δ (HE.out _ (Zj _ _)) ?_;intro w1 af;obtain⟨d0,d1⟩:=A.out w1 af;have d3:=(af.cell (p:=κ S 3) bp).trans c3;have d4:=(af.cell (p:=κ S 4) bp).trans c4;try rw[bi]);go_quiet (fail);have G:Below (ν w) w (w1.drewN nq):=af.trans ((dP w1 nq).mono af.size);have hB:=HB.out _ G;go_wp2_with (go_at_call 258;refine hB.mono ?_;rintro e E ⟨o3,L3,Ls3,aV,rfl⟩);go_ret;exact⟨_,_,_,(bc.out _ G).then z aV,rfl⟩
def oZ (z:Wf o w) (hI:aI o w W wm L) (hN:a8 o w S m Ls) (hd:∀k∈Ls,k∉L) (ha:m.at_=1) {q} (hq:m.po=some q) (h0:q.at_≠0) (ah:q.at_=11) (bG:q.met=true) :
  Calls prog 234 #[π S,π W] w (bE W S {m with po:=none,bk:=none,at_:=4,pa:=q.pa} wm L Ls (.bool true) o w):=by
 have ad:=hN;obtain⟨pp,pb,an,ay,al,cn,cc,cl,hN,rfl⟩:=hN;have ai:=hN.po;rw[hq] at ai;obtain⟨p,rfl,hP⟩:=ai;refine zf ?_;intro bp c0 c1 HP bc A HE;have HW:=χ (fun w1 (hb:Below (ν w) w w1)=>mB (HP.out w1 hb) h0);have bi:(q.at_ == 10)=false:=by simp[ah]
 have ao:(q.at_ == 11)=true:=by simp[ah]
 have I:=χ (fun w1 (hb:Below (ν w) w w1)=>(show Calls prog 260 #[π p] w1 fun e w'=>e= .returned (.tuple #[ι q.pa,Υ])∧w1=w' from by
   obtain⟨aD,cx,av,cv,h⟩:=HP.out w1 hb;have h2:=vm h h0
   rwa [bG,if_pos rfl] at h2))
 have HB:=χ (fun w1 (hb:Below (ν w) w w1)=>by
   have H:=bc.out w1 hb
   exact rx (z.below hb) H.2.1 H.2.2.1 hd q.pa)
 clear hI hN ad hP;go_enter func234,ntmps234;go_wp2_with first
  | (go_at_call 257;refine δ (HE.out _ (Zj _ _)) ?_;intro w1 af;obtain⟨d0,d1⟩:=A.out w1 af;try rw[bi])
  | (go_at_call 259;refine δ (HW.out _ af) ?_;intro G aa;have aM:=af.trans (aa.mono af.size);obtain⟨f0,f1⟩:=A.out G aM;try rw[ao])
  | (go_at_call 260;refine γ (I.out _ aM) ?_)
  | (go_at_call 261;refine (HB.out _ aM).mono ?_;rintro e E ⟨o3,L3,Ls3,aV,rfl⟩)
 go_ret;exact⟨_,_,_,(bc.out _ aM).then z aV,rfl⟩
def ux (z:Wf o w) (hI:aI o w W wm L) (hN:a8 o w S m Ls) (hd:∀k∈Ls,k∉L) (ha:m.at_=2) {q} (hq:m.bk=some q) (h0:q.at_≠0) (M:q.at_≠18) (h:q.at_≠19) (A:q.at_≠20) :
  Calls prog 234 #[π S,π W] w (bE W S m wm L Ls (.bool false) o w):=by
 have H:=χ (aX.stay z hI hN hd);obtain⟨pp,pb,an,ay,al,cn,cc,cl,hN,rfl⟩:=hN;have ai:=hN.bk;rw[hq] at ai;obtain⟨p,rfl,hP⟩:=ai;have O:=hN.blk;have c6:w.cell? (κ S 6)=π p:=O.c 6 rfl;have c1:w.cell? (κ S 1)=ι 2:=by rw[←ha];exact O.c 1 rfl
 have ah:=mt hP h0;have I:(q.at_ == 18)=false:=by simp[M]
 have J:(q.at_ == 19)=false:=by simp[h]
 have G:(q.at_ == 20)=false:=by simp[A]
 clear O M h A;clear hI hN hP;go_enter func234,ntmps234;go_wp2_with (go_at_call 262;refine γ ah ?_);go_ret;exact⟨_,_,_,H.out,rfl⟩
def qf (z:Wf o w) (hI:aI o w W wm L) (hN:a8 o w S m Ls) (hd:∀k∈Ls,k∉L) (ha:m.at_=2) {q} (hq:m.bk=some q) (h0:q.at_≠0) (M:q.at_=18) (hbr:m.br=0) (aj:m.nk=1) :
  Calls prog 234 #[π S,π W] w (bE W S {m with at_:=3,bk:=none} wm L Ls (.bool true) o w):=by
 have H:=χ (aX.stay z hI hN hd);obtain⟨pp,pb,an,ay,al,cn,cc,cl,hN,rfl⟩:=hN;have ai:=hN.bk;rw[hq] at ai;obtain⟨p,rfl,hP⟩:=ai;have O:=hN.blk;have c6:w.cell? (κ S 6)=π p:=O.c 6 rfl;have c1:w.cell? (κ S 1)=ι 2:=by rw[←ha];exact O.c 1 rfl
 have ah:=mt hP h0;rw[M] at ah;have c3:w.cell? (κ S 3)=ι 0:=by rw[←hbr];exact O.c 3 rfl
 have c4:w.cell? (κ S 4)=some (.slice an 1 cn):=by rw[←aj];exact O.c 4 rfl
 have HF:=χ (fun w1 (hb:Below (ν w) w w1)=>(show aX W S {m with at_:=3,bk:=none} wm L (S :: (pp.toList ++ (some p).toList)) o w o (σ (σ w1 S 1 (ι 3)) S 6 (.pointer none)) L (S :: (pp.toList ++ (none:Option Nat).toList)) from by
   have ak:J (fun k=>k∈L∨k∈S :: (pp.toList ++ (some p).toList)) o w o w1:=Zb z hb;have Y:=(tB z hb).kp;have ax:=hN.kept Y hb.size trivial (fun _ _=>Zk) fun _ _=>Zk
   exact ft z ak (hI.kept Y hb.size fun _ _=>Zk) (fun _ h=>.inl h) ax [(1,ι 3),(6,.pointer none)] ((ax.blk.set 1 _).set 6 _) ax.po rfl rfl (by
     intro k hk;simp at hk ⊢;exact .inl (hk.imp id .inl)) ξ (by
     intro k hk;simp at hk
     exact hd k (by simp;exact hk.imp id .inl))))
 clear hI hN hP;go_enter func234,ntmps234;go_upto_region 10 with (go_at_call 262;refine γ ah ?_);go_quiet (fail);have G:Below (ν w) w (w.drewN nq):=⟨rfl,rfl,rfl,Zc _,fun _ _=>rfl⟩;have ae:=χ (HF.out _ G);replace O:A (w.drewN nq) S 300 (gl m pp (some p) an ay al cn cc cl):=O;clear c1 c3 c4 c6 HF;generalize w.drewN nq=w1 at *;obtain⟨-,-,x1,y1,-⟩:=kb1 O;have x6:=(O.set 1 (ι 3)).c 6 rfl;have y6:=(O.set 1 (ι 3)).fz 6;clear O;go_wp2_with fail;go_ret;exact⟨_,_,_,ae.out,rfl⟩
end
end
section
section
variable {o:ab} {w:World} {p W:Nat} {wm wm':aH} {L:List Nat}
def k1 (m:bP):Bool:=!(m.at_ == 3 && m.kd == 6)
def hL (m:bP):Wm (bP×db):=if k1 m then nJ m else Wm.err 100
def n2 (m:bR) (w:aH):Bool:=!(m.kd == 13) && (m.at_ == 1 || m.at_ == 13 || m.at_ == 14 || (m.at_ == 2 && (match (eG m.n (!(m.kd == 5)) m.place w).1 with
 | .ok none=>true
 | _=>false)))
def iJ (m:bR):Wm (bR×db):=fun w=>if n2 m w then lU m w else (.error 100,w)
def I {α:Type} {x y:α} {w w'} (h:Wm.ret x w=(.ok y,w')):y=x∧w'=w:=by unfold Wm.ret at h;injection h with H h2;injection H with H;exact⟨H.symm,h2.symm⟩
def xN (z:Wf o w) (hI:aI o w W wm L) (hE:a6 o w) {m m' mv} (hP:a9 o w p m) (af:p∉L) (h:hL m wm=(.ok (m',mv),wm')) :
  Calls prog 268 #[π p,π W] w (cM W p wm' L (fun o w=>a9 o w p m') mv o w):=by
 unfold hL at h
 split at h
 ·rename_i hB
  unfold k1 at hB;unfold nJ at h;obtain⟨⟨q,b⟩,m1,H,h2⟩:=Zu h;obtain⟨e,rfl⟩:=I h2;injection e with e1 e2;subst e1 e2;clear h h2;unfold nQ at H
  by_cases ha:m.at_=1
  ·rw[if_pos ha] at H
   refine ep 1 304 z hI hP af ha ω (fun _=>by kernel_rfl) Ψ hE fun o w z hI hE hP=>?_;obtain⟨x,m1,g1,g2⟩:=Zu H;obtain⟨e,rfl⟩:=I g2;injection e with e1 e2;subst e1 e2;cases x with
   | true=>exact tX z hI hP af g1
   | false=>
     have h2:=oJ z hI hP af g1
     rwa [show ({m with at_:=if false=true then 2 else 1}:bP)=m by
      cases m
      simp only[Bool.false_eq_true,if_false,bP.mk.injEq,true_and,and_true]
      exact ha.symm]
  by_cases ha:m.at_=2
  ·rw[if_neg ω,if_pos ha] at H
   refine ep 2 305 z hI hP af ha ω (fun _=>by kernel_rfl) Ψ hE fun o w z hI hE hP=>?_;obtain⟨x,m1,g1,g2⟩:=Zu H;obtain⟨e,rfl⟩:=I g2;cases x with
   | some y=>injection e with e1 e2;subst e1 e2;exact pO z hI hE hP af g1
   | none=>injection e with e1 e2;subst e1 e2;exact p3 z hI hE hP af g1
  by_cases ha:m.at_=3
  ·rw[if_neg ω,if_neg ω,if_pos ha] at H
   refine ep 3 306 z hI hP af ha ω (fun _=>by kernel_rfl) Ψ hE fun o w z hI hE hP=>?_;obtain⟨x,m1,g1,g2⟩:=Zu H
   by_cases aC:x=1
   ·rw[if_pos aC] at g2
    obtain⟨e,rfl⟩:=I g2;injection e with e1 e2;subst e1 e2;rw[aC] at g1;exact p9 z hI hP af g1
   rw[if_neg aC] at g2
   by_cases aF:x=2
   ·rw[if_pos aF] at g2
    obtain⟨e,rfl⟩:=I g2;injection e with e1 e2;subst e1 e2;rw[aF] at g1;exact rC z hI hP af g1
   rw[if_neg aF] at g2;have hk:m.kd≠6:=by intro hk;simp[ha,hk] at hB
   rw[if_neg hk,if_neg hk] at g2;obtain⟨u1,m2,g3,g4⟩:=Zu g2;obtain⟨u2,m3,g5,g6⟩:=Zu g4;obtain⟨e,rfl⟩:=I g6;injection e with e1 e2;subst e1 e2;exact uR z hI hP af aC aF hk g3 g5 g1
  by_cases ha:m.at_=4
  ·rw[if_neg ω,if_neg ω,if_neg ω,if_pos ha] at H
   refine ep 4 307 z hI hP af ha ω (fun _=>by kernel_rfl) Ψ hE fun o w z hI hE hP=>?_;obtain⟨x,m1,g1,g2⟩:=Zu H;obtain⟨e,rfl⟩:=I g2;injection e with e1 e2;subst e1 e2;exact rb z hI hE hP af g1
  by_cases ha:m.at_=5
  ·rw[if_neg ω,if_neg ω,if_neg ω,if_neg ω,if_pos ha] at H
   refine ep 5 308 z hI hP af ha ω (fun _=>by kernel_rfl) Ψ hE fun o w z hI hE hP=>?_;obtain⟨x,m1,g1,g2⟩:=Zu H;obtain⟨e,rfl⟩:=I g2;injection e with e1 e2;subst e1 e2;exact p6 z hI hE hP af g1
  by_cases ha:m.at_=6
  ·rw[if_neg ω,if_neg ω,if_neg ω,if_neg ω,if_neg ω,if_pos ha] at H
   refine ep 6 309 z hI hP af ha ω (fun _=>by kernel_rfl) Ψ hE fun o w z hI hE hP=>?_;obtain⟨x,m1,g1,g2⟩:=Zu H;obtain⟨e,rfl⟩:=I g2;injection e with e1 e2;subst e1 e2;exact su z hI hP af g1
  by_cases ha:m.at_=7
  ·rw[if_neg ω,if_neg ω,if_neg ω,if_neg ω,if_neg ω,if_neg ω,if_pos ha] at H
   refine ep 7 310 z hI hP af ha ω (fun _=>by kernel_rfl) Ψ hE fun o w z hI hE hP=>?_;obtain⟨x,m1,g1,g2⟩:=Zu H;obtain⟨e,rfl⟩:=I g2;injection e with e1 e2;subst e1 e2;exact qk z hI hP af g1
  by_cases ha:m.at_=8
  ·rw[if_neg ω,if_neg ω,if_neg ω,if_neg ω,if_neg ω,if_neg ω,if_neg ω,if_pos ha] at H
   refine ep 8 311 z hI hP af ha ω (fun _=>by kernel_rfl) Ψ hE fun o w z hI hE hP=>?_;obtain⟨x,m1,g1,g2⟩:=Zu H;obtain⟨e,rfl⟩:=I g2;injection e with e1 e2;subst e1 e2;cases x with
   | true=>exact qb z hI hP af g1
   | false=>have h2:=ws z hI hP af g1;exact h2
  by_cases ha:m.at_=9
  ·rw[if_neg ω,if_neg ω,if_neg ω,if_neg ω,if_neg ω,if_neg ω,if_neg ω,if_neg ω,if_pos ha] at H
   refine ep 9 312 z hI hP af ha ω (fun _=>by kernel_rfl) Ψ hE fun o w z hI hE hP=>?_;obtain⟨x,m1,g1,g2⟩:=Zu H;obtain⟨u2,m3,g5,g6⟩:=Zu g2;obtain⟨e,rfl⟩:=I g6;injection e with e1 e2;subst e1 e2
   by_cases hk:m.kd=7
   ·rw[if_pos hk] at g5
    exact xe z hI hP af hk g1 g5
   ·rw[if_neg hk] at g5
    exact t7 z hI hP af hk g1 g5
  rw[if_neg ω,if_neg ω,if_neg ω,if_neg ω,if_neg ω,if_neg ω,if_neg ω,if_neg ω,if_neg ω] at H;unfold Wm.err at H;injection H with H;cases H
 ·unfold Wm.err at h
  injection h with h;cases h
def o9 (z:Wf o w) (hI:aI o w W wm L) (hE:a6 o w) (a5:∀x∈wm.sys,bK x) {m m' mv} (hP:bD o w p m) (af:p∉L) (h:iJ m wm=(.ok (m',mv),wm')) :
  Calls prog 269 #[π p,π W] w (cM W p wm' L (fun o w=>bD o w p m') mv o w):=by
 unfold iJ at h
 split at h
 ·rename_i hB
  unfold n2 at hB;simp only[Bool.and_eq_true,Bool.not_eq_true',beq_eq_false_iff_ne,Bool.or_eq_true,beq_iff_eq] at hB;obtain⟨hk,hB⟩:=hB;have ak:(m.kd == 13)=false:=by simp[hk]
  unfold lU at h;obtain⟨⟨q,b⟩,m1,H,h2⟩:=Zu h;obtain⟨e,rfl⟩:=I h2;injection e with e1 e2;subst e1 e2;clear h h2;unfold k3 at H;rw[ak] at H;simp only[Bool.false_eq_true,if_false] at H;rcases hB with ((ha | ha) | ha) | ⟨ha,hn⟩
  ·rw[if_pos ha] at H
   refine h1 1 313 z hI hP af ha ω sM Ψ hE fun o w z hI hE hP=>?_;obtain⟨x,m1,g1,g2⟩:=Zu H;obtain⟨e,rfl⟩:=I g2;injection e with e1 e2;subst e1 e2;have h2:=sR z hI hP af hk g1;cases x with
   | true=>exact h2
   | false=>
     rwa [show ({m with at_:=if false=true then 2 else 1}:bR)=if false=true then {m with at_:=2} else m by
      cases m
      simp only[Bool.false_eq_true,if_false,bR.mk.injEq,true_and,and_true]
      exact ha.symm]
  ·rw[if_neg ω,if_neg ω,if_neg ω,if_neg ω,if_neg ω,if_neg ω,if_neg ω,if_neg ω,if_neg ω,if_pos ha] at H
   refine h1 13 322 z hI hP af ha ω uF Ψ hE fun o w z hI hE hP=>?_;obtain⟨x,m1,g1,g2⟩:=Zu H;obtain⟨u,m2,g3,g4⟩:=Zu g2;obtain⟨e,rfl⟩:=I g4;injection e with e1 e2;subst e1 e2;rw[ha];exact w2 z hI hE a5 hP af hk ha g1 g3
  ·rw[if_neg ω,if_neg ω,if_neg ω,if_neg ω,if_neg ω,if_neg ω,if_neg ω,if_neg ω,if_pos ω] at H
   refine h1 14 321 z hI hP af ha ω pR Ψ hE fun o w z hI hE hP=>?_;obtain⟨x,m1,g1,g2⟩:=Zu H;obtain⟨e,rfl⟩:=I g2;injection e with e1 e2;subst e1 e2;rw[ha];exact xL z hI hP af hk 14 18 ha (fun w=>ty w) g1
  ·rw[if_neg ω,if_pos ha] at H
   refine h1 2 314 z hI hP af ha ω qa Ψ hE fun o w z hI hE hP=>?_;obtain⟨x,m1,g1,g2⟩:=Zu H;obtain⟨e,rfl⟩:=I g2;rw[g1] at hn;cases x with
   | some y=>cases hn
   | none=>injection e with e1 e2;subst e1 e2;exact vP z hI hE hP af g1
 ·injection h with h
  cases h
end
end
section
section
variable {o o' o1 o7:ab} {w w' w1 w7 w8:World} {S W p n:Nat} {m m':bd} {pp pb:Option Nat} {an ay al:Option Addr} {cn cc cl:Nat} {L L' Ls Ls':List Nat} {wm wm':aH}
def aX.box (z:Wf o w) (ak:J Θ o w o1 w1) (hn:w.heap.size≤n) (aN:n < w1.heap.size) (af:o1 n=some n) (hL:∀k∈L,k < w.heap.size) (ad:∀k∈Ls,k < w.heap.size) (hS:aX W S m' wm' L Ls o1 w1 o7 w7 L' Ls') (hF:Fr (·=n) w7 w8):aX W S m' wm' L Ls o w o7 w8 L' Ls':=by
 obtain⟨a1,a2,a3,a4,a5,a6⟩:=hS;have ae:=z.BD ak;have bh:=ae.BD a1;have on:o7 n=some n:=a1.owned aN af fun h=>by
  rcases h with h | h
  ·have:=hL n h;omega
  ·have:=ad n h;omega
 have Y:J (·=n) o7 w7 o7 w8:=Z9 bh hF fun x _ hx=>⟨n,by rw[hx];exact on,rfl⟩;have I:=Y.et (K:=(·≠n)) fun _ h=>h;have A:∀k∈L',k≠n:=fun k hk=>by
  rcases a4 k hk with h | h
  ·have:=hL k h;omega
  ·omega
 have E:∀k∈Ls',k≠n:=fun k hk=>by
  rcases a5 k hk with h | h
  ·have:=ad k h;omega
  ·omega
 refine⟨((ak.more z fun _ _ h=>h.elim).same z a1).trans z Y fun k hk h=>by omega,a2.kept I Y.size A,a3.kept I Y.size E,fun k hk=>(a4 k hk).imp id fun h=>by omega,fun k hk=>(a5 k hk).imp id fun h=>by omega,a6⟩
def aX.Cg (hL:∀k∈L,k < w.heap.size) (ad:∀k∈Ls,k < w.heap.size) (hn:w.heap.size≤n) (aN:n < w1.heap.size) (af:o1 n=some n) (hS:aX W S m' wm' L Ls o1 w1 o7 w7 L' Ls') {T cs} (hb:A w1 n T cs):A w7 n T cs:=
 (hS.1.et (K:=(·=n)) (fun k e h=>by
   subst e
   rcases h with h | h
   ·have:=hL k h;omega
   ·have:=ad k h;omega) n aN (fun k hk=>by rw[af] at hk;cases hk;rfl)).1.trans hb
def nR {b q r} (hq:a9 o w b q) (hr:bD o w b r):False:=by obtain⟨aD,cx,av,cv,hq⟩:=hq;obtain⟨h,z,U,V,hr⟩:=hr;have H:=hq.blk.symm.trans hr.blk;injection H with H;injection H with h2 h3;exact absurd h3 φ
def cu.CD {q E} (z:Wf o w) (hN:cu o w S m (some p) pb an ay al cn cc cl) (hq:m.po=some q) (hd:∀k∈S :: ((some p).toList ++ pb.toList),k∉L) (U:J (fun k=>k∈L∨k=p) o w o' w') (hS:aT (ν w) W wm' L o' w') (hQ:a9 o' w' p E):∃L',aX W S {m with po:=some E} wm' L (S :: ((some p).toList ++ pb.toList)) o w o' w' L' (S :: ((some p).toList ++ pb.toList)):=by
  obtain⟨L',H,h2⟩:=hS;have ad:=a8.lt (m:=m) ⟨_,_,_,_,_,_,_,_,hN,rfl⟩;have ai:=hN.po;rw[hq] at ai;obtain⟨M,e,hP⟩:=ai;cases e
  have G:=hN.C6 hP;have I:=U.et (K:=fun k=>k∉L∧k≠p) fun k hk h=>by
   rcases h with h | h
   ·exact hk.1 h
   ·exact hk.2 h
  have A:=I.blk hN.blk hN.own ⟨hd S ξ,Yv G⟩;refine⟨L',U.more z fun k _ h=>h.imp id fun e=>by rw[e];simp,H,⟨some p,pb,an,ay,al,cn,cc,cl,⟨A.1,A.2,⟨p,rfl,hQ⟩,?_,hN.nk.et (fun _ hg q=>I.cell hg q) (fun _ hg=>(I.fz U.size hg).1) fun _ _ h=>h⟩,rfl⟩,h2,fun _ h=>.inl h,fun k hk h=>?_⟩
  ·cases hx:m.bk with
   | none=>have h:=hN.bk;rw[hx] at h;exact h
   | some r=>have h:=hN.bk;rw[hx] at h;obtain⟨b,rfl,h⟩:=h;exact⟨b,rfl,h.kept I U.size ⟨hd b ξ,fun e=>nR (e ▸ hP) h⟩⟩
  ·rcases h2 k h with h | h
   ·exact hd k hk h
   ·have:=ad k hk
    omega
def cu.CA {q E} (z:Wf o w) (hN:cu o w S m pp (some p) an ay al cn cc cl) (hq:m.bk=some q) (hd:∀k∈S :: (pp.toList ++ (some p).toList),k∉L) (U:J (fun k=>k∈L∨k=p) o w o' w') (hS:aT (ν w) W wm' L o' w') (hQ:bD o' w' p E):∃L',aX W S {m with bk:=some E} wm' L (S :: (pp.toList ++ (some p).toList)) o w o' w' L' (S :: (pp.toList ++ (some p).toList)):=by
  obtain⟨L',H,h2⟩:=hS;have ad:=a8.lt (m:=m) ⟨_,_,_,_,_,_,_,_,hN,rfl⟩;have ai:=hN.bk;rw[hq] at ai;obtain⟨M,e,hP⟩:=ai;cases e
  have G:=hN.C7 hP;have I:=U.et (K:=fun k=>k∉L∧k≠p) fun k hk h=>by
   rcases h with h | h
   ·exact hk.1 h
   ·exact hk.2 h
  have A:=I.blk hN.blk hN.own ⟨hd S ξ,Yv G⟩;refine⟨L',U.more z fun k _ h=>h.imp id fun e=>by rw[e];simp,H,⟨pp,some p,an,ay,al,cn,cc,cl,⟨A.1,A.2,?_,⟨p,rfl,hQ⟩,hN.nk.et (fun _ hg q=>I.cell hg q) (fun _ hg=>(I.fz U.size hg).1) fun _ _ h=>h⟩,rfl⟩,h2,fun _ h=>.inl h,fun k hk h=>?_⟩
  ·cases hx:m.po with
   | none=>have h:=hN.po;rw[hx] at h;exact h
   | some r=>have h:=hN.po;rw[hx] at h;obtain⟨b,rfl,h⟩:=h;exact⟨b,rfl,h.kept I U.size ⟨hd b ξ,fun e=>nR h (e ▸ hP)⟩⟩
  ·rcases h2 k h with h | h
   ·exact hd k hk h
   ·have:=ad k hk
    omega
def yj {p q:Prop} (k:q) (h:Zq q→p:=by
 intro mq;have ad:=hN.lt;have ao:=hI.lt;have ak:=ZJ z (.cells #[ι 0,ι 0,ι 0,ι 0] 273);have af:(o.set (ν w) (some w.heap.size)) w.heap.size=some w.heap.size:=Zw _ _ _;have kb:=Zh w 273 [ι 0,ι 0,ι 0,ι 0];have Y:=ak.kp;revert ad ao ak af kb Y
 exact mq.u):p:=h ⟨k⟩
def yD {p q:Prop} (k:q) (h:Zq q→p:=by
 intro mq;have ax:=hN.kept Y ak.size fun _ _=>Zk;have ae:=z.BD ak;obtain⟨n,hn⟩:∃n,w.heap.size=n:=⟨_,rfl⟩;obtain⟨w1,Z⟩:∃u,w.alloc θ5=u:=⟨_,rfl⟩;revert ax ae n hn w1 Z
 exact mq.u):p:=h ⟨k⟩
def Ba {p q:Prop} (k:q) (h:Zq q→p:=by
 intro mq;have aZ:A (σ4 w8 n (ι mv.kind) (ι mv.sync) (ι mv.partner) (ι mv.cond)) n 273 [ι mv.kind,ι mv.sync,ι mv.partner,ι mv.cond]:=aW (b:=0) [(0,ι mv.kind),(1,ι mv.sync),(2,ι mv.partner),(3,ι mv.cond)] _ _ kb8;have hF:Fr (·=n) w7 (σ4 w8 n (ι mv.kind) (ι mv.sync) (ι mv.partner) (ι mv.cond)):=(ZA aY).same (aE (S:=(·=n)) rfl 0 [(0,ι mv.kind),(1,ι mv.sync),(2,ι mv.partner),(3,ι mv.cond)] w8);revert aZ hF
 exact mq.u):p:=h ⟨k⟩
def wY (z:Wf o w) (hI:aI o w W wm L) (hE:a6 o w) (hN:a8 o w S m Ls) (hd:∀k∈Ls,k∉L) {q E mv} (hq:m.po=some q) (h:hL q wm=(.ok (E,mv),wm')) :
  Calls prog 237 #[π S,π W] w (bE W S {m with po:=some E} wm' L Ls (aj mv) o w):=by
 refine yj ?_;intro ad ao ak af kb Y;have aJ:=hI.kept Y ak.size fun _ _=>Zk;have aP:=hE.kept Y;refine yD ?_;intro ax ae n hn w1 Z;rw[hn] at ak af kb aJ aP ax ae;rw[Z] at ak kb aJ aP ax ae;clear Y;generalize o.set n (some n)=o1 at *;obtain⟨pp,pb,an,ay,al,cn,cc,cl,ax,rfl⟩:=ax;have ai:=ax.po;rw[hq] at ai;obtain⟨p,rfl,hP⟩:=ai;have c0:w1.cell? (κ S 0)=π p:=ax.blk.c 0 rfl;have hC:=xN ae aJ aP hP (hd p ξ) h;have I:=χ (fun o' w' (U:J (fun k=>k∈L∨k=p) o1 w1 o' w') (hS:aT (ν w1) W wm' L o' w') (hQ:a9 o' w' p E)=>ax.CD ae hq hd U hS hQ);have aw:w.heap.size≤n:=Nat.le_of_eq hn;have aN:=kb.lt;have aV:=χ (fun o7 w7 w8 (L' Ls':List Nat) (hS:aX W S {m with po:=some E} wm' L (S :: ((some p).toList ++ pb.toList)) o1 w1 o7 w7 L' Ls') (hF:Fr (·=n) w7 w8)=>aX.box z ak aw aN af ao ad hS hF);have aR:=χ (fun o7 w7 (L' Ls':List Nat) (hS:aX W S {m with po:=some E} wm' L (S :: ((some p).toList ++ pb.toList)) o1 w1 o7 w7 L' Ls')=>aX.Cg ao ad aw aN af hS kb);clear hI hE hN aJ aP ax hP ak af kb h ad ao;go_enter func237,ntmps237;go_upto_region 1 with fail;clear Z;go_wp2_with first
  | (go_at_call 268;refine hC.mono ?_;rintro e w7 ⟨o7,aA,bb,G,rfl⟩;obtain⟨L7,hX7⟩:=I.out o7 w7 aA bb G;have kb7:=aR.out _ _ _ _ hX7)
  | (go_at_call 267;refine δ (kD mv _) ?_;intro w8 aY;have kb8:=(aY.block n (ZE kb7)).trans kb7;have x0:=Zz (w:=w8) kb8 0 rfl;have x1:=Zz (w:=w8) kb8 1 rfl;have x2:=Zz (w:=w8) kb8 2 rfl;have x3:=Zz (w:=w8) kb8 3 rfl;have y0:=ZD (w:=w8) kb8 0;have y1:=ZD (w:=w8) kb8 1;have y2:=ZD (w:=w8) kb8 2;have y3:=ZD (w:=w8) kb8 3;unfold aj at *)
 refine Ba ?_;intro aZ hF;have aO:=aV.out _ _ _ _ _ hX7 hF;generalize (σ4 w8 n (ι mv.kind) (ι mv.sync) (ι mv.partner) (ι mv.cond):World)=w9 at *;exact Zl (v:= .agg #[ι mv.kind,ι mv.sync,ι mv.partner,ι mv.cond]) (by simp[results,results237,go_sem,aZ.c 0 rfl,aZ.c 1 rfl,aZ.c 2 rfl,aZ.c 3 rfl]) rfl ⟨_,_,_,aO,rfl⟩
def sv (z:Wf o w) (hI:aI o w W wm L) (hE:a6 o w) (a5:∀x∈wm.sys,bK x) (hN:a8 o w S m Ls) (hd:∀k∈Ls,k∉L) {q E mv} (hq:m.bk=some q) (h:iJ q wm=(.ok (E,mv),wm')) :
  Calls prog 238 #[π S,π W] w (bE W S {m with bk:=some E} wm' L Ls (aj mv) o w):=by
 refine yj ?_;intro ad ao ak af kb Y;have aJ:=hI.kept Y ak.size fun _ _=>Zk;have aP:=hE.kept Y;refine yD ?_;intro ax ae n hn w1 Z;rw[hn] at ak af kb aJ aP ax ae;rw[Z] at ak kb aJ aP ax ae;clear Y;generalize o.set n (some n)=o1 at *;obtain⟨pp,pb,an,ay,al,cn,cc,cl,ax,rfl⟩:=ax;have ai:=ax.bk;rw[hq] at ai;obtain⟨p,rfl,hP⟩:=ai;have c0:w1.cell? (κ S 6)=π p:=ax.blk.c 6 rfl;have hC:=o9 ae aJ aP a5 hP (hd p ξ) h;have I:=χ (fun o' w' (U:J (fun k=>k∈L∨k=p) o1 w1 o' w') (hS:aT (ν w1) W wm' L o' w') (hQ:bD o' w' p E)=>ax.CA ae hq hd U hS hQ);have aw:w.heap.size≤n:=Nat.le_of_eq hn;have aN:=kb.lt;have aV:=χ (fun o7 w7 w8 (L' Ls':List Nat) (hS:aX W S {m with bk:=some E} wm' L (S :: (pp.toList ++ (some p).toList)) o1 w1 o7 w7 L' Ls') (hF:Fr (·=n) w7 w8)=>aX.box z ak aw aN af ao ad hS hF);have aR:=χ (fun o7 w7 (L' Ls':List Nat) (hS:aX W S {m with bk:=some E} wm' L (S :: (pp.toList ++ (some p).toList)) o1 w1 o7 w7 L' Ls')=>aX.Cg ao ad aw aN af hS kb);clear hI hE hN aJ aP ax hP ak af kb h ad ao a5;go_enter func238,ntmps238;go_upto_region 1 with fail;clear Z;go_wp2_with first
  | (go_at_call 269;refine hC.mono ?_;rintro e w7 ⟨o7,aA,bb,G,rfl⟩;obtain⟨L7,hX7⟩:=I.out o7 w7 aA bb G;have kb7:=aR.out _ _ _ _ hX7)
  | (go_at_call 267;refine δ (kD mv _) ?_;intro w8 aY;have kb8:=(aY.block n (ZE kb7)).trans kb7;have x0:=Zz (w:=w8) kb8 0 rfl;have x1:=Zz (w:=w8) kb8 1 rfl;have x2:=Zz (w:=w8) kb8 2 rfl;have x3:=Zz (w:=w8) kb8 3 rfl;have y0:=ZD (w:=w8) kb8 0;have y1:=ZD (w:=w8) kb8 1;have y2:=ZD (w:=w8) kb8 2;have y3:=ZD (w:=w8) kb8 3;unfold aj at *)
 refine Ba ?_;intro aZ hF;have aO:=aV.out _ _ _ _ _ hX7 hF;generalize (σ4 w8 n (ι mv.kind) (ι mv.sync) (ι mv.partner) (ι mv.cond):World)=w9 at *;exact Zl (v:= .agg #[ι mv.kind,ι mv.sync,ι mv.partner,ι mv.cond]) (by simp[results,results238,go_sem,aZ.c 0 rfl,aZ.c 1 rfl,aZ.c 2 rfl,aZ.c 3 rfl]) rfl ⟨_,_,_,aO,rfl⟩
end
def Y7:=@aX.Cg
end
section
instance (c:f0):Decidable (g8 c):=by unfold g8;infer_instance
instance (b:bI):Decidable (c7 b):=by unfold c7;infer_instance
instance (x:cd):Decidable (bK x):=by unfold bK;infer_instance
def eI:Wm Unit:=fun w=>if ∀x∈w.sys,bK x then (.ok (),w) else (.error 100,w)
def eT {w w'} {u:Unit} (h:eI w=(.ok u,w')):(∀x∈w.sys,bK x)∧w'=w:=by
 unfold eI at h
 split at h
 ·rename_i H
  injection h with _ h;exact⟨H,h.symm⟩
 ·injection h with h
  cases h
def hS (m:bd):Wm bd:=eI.bind fun _=>(az m.own).bind fun x=>if 0≤x.br∧x.br < m.nk then Wm.ret {m with at_:=5} else Wm.err 100
def k8 (m:bd):Wm (bd×db):=(fa m.own).bind fun b=>if b then Wm.ret (m,⟨1,0,0,0⟩) else (hS {m with po:=none,bk:=none}).bind fun r=>Wm.ret (r,⟨2,0,0,0⟩)
def oq (m:bd):Wm (bd×db):=(gX m.pa).bind fun _=>(hS m).bind fun r=>Wm.ret (r,⟨2,0,0,0⟩)
section
variable {o o' o1 o2 o7:ab} {w w' w1 w7 w8:World} {S W p n:Nat} {m m':bd} {pp pb:Option Nat} {an ay al:Option Addr} {cn cc cl:Nat} {L L' Ls Ls':List Nat} {wm wm':aH}
def ro (z:Wf o w) (hI:aI o w W wm L) (hN:a8 o w S m Ls) (hd:∀k∈Ls,k∉L) (h:hS m wm=(.ok m',wm')):Calls prog 272 #[π S,π W] w (bE W S m' wm' L Ls (.tuple #[]) o w):=by
 obtain⟨u,m1,H,h2⟩:=Zu h;obtain⟨a5,rfl⟩:=eT H;obtain⟨x,m2,h3,h4⟩:=Zu h2
 split at h4
 ·rename_i hb
  obtain⟨rfl,rfl⟩:=I h4;obtain⟨b,af⟩:=ZL hb.1;exact mo z hI a5 hN hd h3 b af (by have:=hb.2;omega)
 ·unfold Wm.err at h4
  injection h4 with h4;cases h4
def xm (z:Wf o w) (hI:aI o w W wm L) (hN:a8 o w S m Ls) (hd:∀k∈Ls,k∉L) (pa) (h:hS {m with po:=none,bk:=none} wm=(.ok m',wm')):Calls prog 261 #[π S,π W,ι pa,Δ] w (bE W S m' wm' L Ls (.tuple #[]) o w):=by
 obtain⟨u,m1,H,h2⟩:=Zu h;obtain⟨a5,rfl⟩:=eT H;obtain⟨x,m2,h3,h4⟩:=Zu h2
 split at h4
 ·rename_i hb
  obtain⟨rfl,rfl⟩:=I h4;obtain⟨b,af⟩:=ZL hb.1;exact qH z hI a5 hN hd h3 b af (by have:=hb.2;dsimp only at this;omega) pa
 ·unfold Wm.err at h4
  injection h4 with h4;cases h4
def aX.Cc (hN:a8 o w S m Ls) (hd:∀k∈Ls,k∉L) (U:J (·∈L) o w o' w') (hS:aT (ν w) W wm' L o' w') (z:Wf o w):∃L',aX W S m wm' L Ls o w o' w' L' Ls:=by
 obtain⟨L',H,h2⟩:=hS;have ad:=hN.lt;refine⟨L',U.more z fun _ _ h=>.inl h,H,hN.kept (U.et (K:=fun k=>k∉L) fun _ h V=>h V) U.size hd,h2,fun _ h=>.inl h,fun k hk h=>?_⟩;rcases h2 k h with h | h
 ·exact hd k hk h
 ·have:=ad k hk
  omega
def yE {p q:Prop} (k:q) (h:Zq q→p:=by
 intro mq;have aw:w.heap.size≤n:=Nat.le_of_eq hn;have aN:=kb.lt;have aV:=χ (fun (m':bd) (wm':aH) o7 w7 w8 (L' Ls':List Nat) (hS:aX W S m' wm' L Ls o1 w1 o7 w7 L' Ls') (hF:Fr (·=n) w7 w8)=>aX.box z ak aw aN af ao ad hS hF);have aR:=χ (fun (m':bd) (wm':aH) o7 w7 (L' Ls':List Nat) (hS:aX W S m' wm' L Ls o1 w1 o7 w7 L' Ls')=>Y7 ao ad aw aN af hS kb);revert aw aN aV aR
 exact mq.u):p:=h ⟨k⟩
def Bb {p q:Prop} (k:q) (h:Zq q→p:=by
 intro mq;have aZ:A (σ4 M n (ι 2) (ι 0) (ι 0) (ι 0)) n 273 [ι 2,ι 0,ι 0,ι 0]:=aW (b:=0) [(0,ι 2),(1,ι 0),(2,ι 0),(3,ι 0)] _ _ kb5;have aO:=aV.out _ _ _ _ (σ4 M n (ι 2) (ι 0) (ι 0) (ι 0)) _ _ bi (aE (S:=(·=n)) rfl 0 [(0,ι 2),(1,ι 0),(2,ι 0),(3,ι 0)] M);revert aZ aO
 exact mq.u):p:=h ⟨k⟩
def uP (z:Wf o w) (hI:aI o w W wm L) (hN:a8 o w S m Ls) (hd:∀k∈Ls,k∉L) {mv} (h:k8 m wm=(.ok (m',mv),wm')) :
  Calls prog 239 #[π S,π W] w (bE W S m' wm' L Ls (aj mv) o w):=by
 obtain⟨b,wm1,H,h2⟩:=Zu h;refine yj ?_;intro ad ao ak af kb Y;have aJ:=hI.kept Y ak.size fun _ _=>Zk;refine yD ?_;intro ax ae n hn w1 Z;rw[hn] at ak af kb aJ ax ae;rw[Z] at ak kb aJ ax ae;clear Y;generalize o.set n (some n)=o1 at *;have c2:w1.cell? (κ S 2)=ι m.own:=by obtain⟨pp,pb,an,ay,al,cn,cc,cl,h,rfl⟩:=ax;exact h.blk.c 2 rfl
 refine yE ?_;intro aw aN aV aR;have ag:=χ (fun (wm2:aH) o' w' (U:J (·∈L) o1 w1 o' w') (hS:aT (ν w1) W wm2 L o' w')=>aX.Cc ax hd U hS ae);have hC:=wU ae aJ H;clear hI hN aJ ax ak af kb h H ad ao;cases b with
 | true=>
   rw[if_pos rfl] at h2;obtain⟨e,rfl⟩:=I h2;injection e with e1 e2;subst e1 e2;go_enter func239,ntmps239;go_upto_region 1 with fail;clear Z;go_upto_region 2 with first
    | (go_at_call 271;refine hC.mono ?_;rintro e G ⟨o2,aq,aG,rfl⟩;obtain⟨L2,O⟩:=ag.out _ o2 G aq aG)
    | (go_at_call 270;refine δ (kZ true _) ?_;intro E ac)
   have V:=O.below ae ac;have kb3:=aR.out _ _ _ _ _ _ V;have x0:=Zz (w:=E) kb3 0 rfl;have y0:=ZD (w:=E) kb3 0;have x1:=Zz (w:=E) kb3 1 rfl;have y1:=ZD (w:=E) kb3 1;have x2:=Zz (w:=E) kb3 2 rfl;have y2:=ZD (w:=E) kb3 2;have x3:=Zz (w:=E) kb3 3 rfl;have y3:=ZD (w:=E) kb3 3;go_wp2_with fail;have aZ:A (σ4 E n (ι 1) (ι 0) (ι 0) (ι 0)) n 273 [ι 1,ι 0,ι 0,ι 0]:=aW (b:=0) [(0,ι 1),(1,ι 0),(2,ι 0),(3,ι 0)] _ _ kb3;have aO:=aV.out _ _ _ _ (σ4 E n (ι 1) (ι 0) (ι 0) (ι 0)) _ _ V (aE (S:=(·=n)) rfl 0 [(0,ι 1),(1,ι 0),(2,ι 0),(3,ι 0)] E);generalize (σ4 E n (ι 1) (ι 0) (ι 0) (ι 0):World)=w9 at *;exact Zl (v:=aj ⟨1,0,0,0⟩) (by simp[aj,results,results239,go_sem,aZ.c 0 rfl,aZ.c 1 rfl,aZ.c 2 rfl,aZ.c 3 rfl]) rfl ⟨_,_,_,aO,rfl⟩
 | false=>
   rw[if_neg φ] at h2;obtain⟨r,wm2,h3,h4⟩:=Zu h2;obtain⟨e,rfl⟩:=I h4;injection e with e1 e2;subst e1 e2;go_enter func239,ntmps239;go_upto_region 1 with fail;clear Z;go_upto_region 3 with first
    | (go_at_call 271;refine hC.mono ?_;rintro e G ⟨o2,aq,aG,rfl⟩;obtain⟨L2,O⟩:=ag.out _ o2 G aq aG)
    | (go_at_call 270;refine δ (kZ false _) ?_;intro E ac)
   have V:=O.below ae ac;have ah:=xm (ae.BD V.1) V.2.1 V.2.2.1 V.2.2.2.2.2 0 h3;go_upto_region 4 with (go_at_call 261;refine ah.mono ?_;rintro e M ⟨o4,L4,Ls4,aa,rfl⟩);have bi:=V.then ae aa;have kb5:=aR.out _ _ _ _ _ _ bi;have x0:=Zz (w:=M) kb5 0 rfl;have y0:=ZD (w:=M) kb5 0;have x1:=Zz (w:=M) kb5 1 rfl;have y1:=ZD (w:=M) kb5 1;have x2:=Zz (w:=M) kb5 2 rfl;have y2:=ZD (w:=M) kb5 2;have x3:=Zz (w:=M) kb5 3 rfl;have y3:=ZD (w:=M) kb5 3;go_wp2_with fail;refine Bb ?_;intro aZ aO;generalize (σ4 M n (ι 2) (ι 0) (ι 0) (ι 0):World)=w9 at *;exact Zl (v:=aj ⟨2,0,0,0⟩) (by simp[aj,results,results239,go_sem,aZ.c 0 rfl,aZ.c 1 rfl,aZ.c 2 rfl,aZ.c 3 rfl]) rfl ⟨_,_,_,aO,rfl⟩
def vf (z:Wf o w) (hI:aI o w W wm L) (hN:a8 o w S m Ls) (hd:∀k∈Ls,k∉L) {mv} (h:oq m wm=(.ok (m',mv),wm')) :
  Calls prog 240 #[π S,π W] w (bE W S m' wm' L Ls (aj mv) o w):=by
 obtain⟨b,wm1,H,h2⟩:=Zu h;obtain⟨r,wm2,h3,h4⟩:=Zu h2;obtain⟨e,rfl⟩:=I h4;injection e with e1 e2;subst e1 e2;refine yj ?_;intro ad ao ak af kb Y;have aJ:=hI.kept Y ak.size fun _ _=>Zk;refine yD ?_;intro ax ae n hn w1 Z;rw[hn] at ak af kb aJ ax ae;rw[Z] at ak kb aJ ax ae;clear Y;generalize o.set n (some n)=o1 at *;have c2:w1.cell? (κ S 9)=ι m.pa:=by obtain⟨pp,pb,an,ay,al,cn,cc,cl,h,rfl⟩:=ax;exact h.blk.c 9 rfl
 refine yE ?_;intro aw aN aV aR;have ag:=χ (fun (wm2:aH) o' w' (U:J (·∈L) o1 w1 o' w') (hS:aT (ν w1) W wm2 L o' w')=>aX.Cc ax hd U hS ae);have hC:=oM ae aJ H;clear hI hN aJ ax ak af kb h H ad ao;go_enter func240,ntmps240;go_upto_region 1 with fail;clear Z;go_upto_region 2 with first
  | (go_at_call 96;refine hC.mono ?_;rintro e G ⟨o2,aq,aG,rfl⟩;obtain⟨L2,O⟩:=ag.out _ o2 G aq aG;have ai:=g7 (ν G) 1 (G.alloc θ2) ((Zh G 33 [ι 0]).c 0 rfl))
  | (go_at_call 255;refine γ ai ?_)
 have ac:=am G (.cells #[ι 0] 33);generalize G.alloc θ2=E at *;have V:=O.below ae ac;have ah:=ro (ae.BD V.1) V.2.1 V.2.2.1 V.2.2.2.2.2 h3;go_upto_region 3 with (go_at_call 272;refine ah.mono ?_;rintro e M ⟨o4,L4,Ls4,aa,rfl⟩);have bi:=V.then ae aa;have kb5:=aR.out _ _ _ _ _ _ bi;obtain⟨x0,y0,x1,y1,x2,y2,x3,y3,-⟩:=kb3 kb5;go_wp2_with fail;refine Bb ?_;intro aZ aO;generalize (σ4 M n (ι 2) (ι 0) (ι 0) (ι 0):World)=w9 at *;exact Zl (v:=aj ⟨2,0,0,0⟩) (by simp[aj,results,results240,go_sem,aZ.c 0 rfl,aZ.c 1 rfl,aZ.c 2 rfl,aZ.c 3 rfl]) rfl ⟨_,_,_,aO,rfl⟩
end
end
section
def hW (m:bd):Wm (bd×Bool):=
 if m.at_=1 then (match m.po with
  | none=>Wm.err 100
  | some q=>if q.at_=0 then Wm.err 100 else if q.at_=10 then (if m.br=0∧m.nk=1 then eI.bind fun _=>(hy m.own 0).bind fun b=>Wm.ret ({m with bk:=some b,at_:=2,br:=0,po:=none},true) else Wm.err 100)
    else if q.at_=11 then (if q.met then Wm.ret ({m with po:=none,bk:=none,at_:=4,pa:=q.pa},true) else Wm.err 100) else Wm.ret (m,false))
 else if m.at_=2 then (match m.bk with
  | none=>Wm.err 100
  | some q=>if q.at_=0∨q.at_=19∨q.at_=20 then Wm.err 100 else if q.at_=18 then (if m.br=0∧m.nk=1 then Wm.ret ({m with at_:=3,bk:=none},true) else Wm.err 100) else Wm.ret (m,false))
 else if m.at_=5 then Wm.ret ({m with at_:=6},false)
 else if m.at_=3∨m.at_=4∨m.at_=6 then Wm.ret (m,false)
 else Wm.err 100
def gT (m:bd):Wm bd:=(hW m).bind fun r=>if r.2 then (hW r.1).bind fun s=>if s.2 then Wm.err 100 else Wm.ret s.1 else Wm.ret r.1
def dC {α:Type} {n w w'} {y:α} (h:Wm.err n w=(.ok y,w')):False:=by unfold Wm.err at h;injection h with h;cases h
section
variable {o o2:ab} {w:World} {S W:Nat} {m m':bd} {L Ls:List Nat} {wm wm':aH}
def np (z:Wf o w) (hI:aI o w W wm L) (hN:a8 o w S m Ls) (hd:∀k∈Ls,k∉L) {b} (h:hW m wm=(.ok (m',b),wm')):Calls prog 234 #[π S,π W] w (bE W S m' wm' L Ls (.bool b) o w):=by
 unfold hW at h
 by_cases H:m.at_=1
 ·rw[if_pos H] at h
  cases hq:m.po with
  | none=>rw[hq] at h;exact (dC h).elim
  | some q=>
    rw[hq] at h;dsimp only at h
    by_cases h0:q.at_=0
    ·rw[if_pos h0] at h;exact (dC h).elim
    rw[if_neg h0] at h
    by_cases U:q.at_=10
    ·rw[if_pos U] at h
     by_cases hb:m.br=0∧m.nk=1
     ·rw[if_pos hb] at h
      obtain⟨u,m1,h2,h3⟩:=Zu h;obtain⟨a5,rfl⟩:=eT h2;obtain⟨x,m2,h4,h5⟩:=Zu h3;obtain⟨e,rfl⟩:=I h5;injection e with e1 e2;subst e1 e2;exact vV z hI hN hd H hq h0 U hb.1 hb.2 a5 h4
     ·rw[if_neg hb] at h;exact (dC h).elim
    rw[if_neg U] at h
    by_cases ah:q.at_=11
    ·rw[if_pos ah] at h
     cases hm:q.met with
     | false=>rw[hm] at h;exact (dC h).elim
     | true=>rw[hm,if_pos rfl] at h;obtain⟨e,rfl⟩:=I h;injection e with e1 e2;subst e1 e2;exact oZ z hI hN hd H hq h0 ah hm
    rw[if_neg ah] at h;obtain⟨e,rfl⟩:=I h;injection e with e1 e2;subst e1 e2;exact tq z hI hN hd H hq h0 U ah
 rw[if_neg H] at h
 by_cases h2:m.at_=2
 ·rw[if_pos h2] at h
  cases hq:m.bk with
  | none=>rw[hq] at h;exact (dC h).elim
  | some q=>
    rw[hq] at h;dsimp only at h
    by_cases h0:q.at_=0∨q.at_=19∨q.at_=20
    ·rw[if_pos h0] at h;exact (dC h).elim
    rw[if_neg h0] at h
    by_cases M:q.at_=18
    ·rw[if_pos M] at h
     by_cases hb:m.br=0∧m.nk=1
     ·rw[if_pos hb] at h
      obtain⟨e,rfl⟩:=I h;injection e with e1 e2;subst e1 e2;exact qf z hI hN hd h2 hq ω M hb.1 hb.2
     ·rw[if_neg hb] at h;exact (dC h).elim
    rw[if_neg M] at h;obtain⟨e,rfl⟩:=I h;injection e with e1 e2;subst e1 e2;exact ux z hI hN hd h2 hq ω M ω ω
 rw[if_neg h2] at h
 by_cases h5:m.at_=5
 ·rw[if_pos h5] at h
  obtain⟨e,rfl⟩:=I h;injection e with e1 e2;subst e1 e2;exact ud z hI hN hd h5
 rw[if_neg h5] at h
 by_cases h3:m.at_=3∨m.at_=4∨m.at_=6
 ·rw[if_pos h3] at h
  obtain⟨e,rfl⟩:=I h;injection e with e1 e2;subst e1 e2;rcases h3 with h3 | h3 | h3
  ·exact tV z hI hN hd h3
  ·exact rJ z hI hN hd h3
  ·exact oO z hI hN hd h3
 ·rw[if_neg h3] at h
  exact (dC h).elim
def lr (z:Wf o w) (hI:aI o w W wm L) (hN:a8 o w S m Ls) (hd:∀k∈Ls,k∉L) (h:gT m wm=(.ok m',wm')):Calls prog 186 #[π S,π W] w (bE W S m' wm' L Ls (.tuple #[]) o w):=by
 obtain⟨⟨m1,b⟩,wm1,H,h2⟩:=Zu h;have hA:=np z hI hN hd H;cases b with
 | false=>rw[if_neg Bool.false_ne_true] at h2;obtain⟨rfl,rfl⟩:=I h2;go_enter func186,ntmps186;go_wp2_with fail;refine ZV 1 ?_;rw[rounds_succ];go_wp2_with (go_at_call 234;refine hA.mono ?_;rintro e G ⟨o2,L2,Ls2,O,rfl⟩);refine xQ ?_;exact⟨_,_,_,O,rfl⟩
 | true=>
   rw[if_pos rfl] at h2;obtain⟨⟨m2,b2⟩,wm2,h3,h4⟩:=Zu h2;cases b2 with
   | true=>rw[if_pos rfl] at h4;exact (dC h4).elim
   | false=>rw[if_neg Bool.false_ne_true] at h4;obtain⟨rfl,rfl⟩:=I h4;go_enter func186,ntmps186;go_wp2_with fail;refine ZV 2 ?_;rw[rounds_succ];go_wp2_with (go_at_call 234;refine hA.mono ?_;rintro e G ⟨o2,L2,Ls2,O,rfl⟩);have hB:=np (z.BD O.1) O.2.1 O.2.2.1 O.2.2.2.2.2 h3;rw[rounds_succ];go_wp2_with (go_at_call 234;refine hB.mono ?_;rintro e E ⟨o3,L3,Ls3,V,rfl⟩);refine xQ ?_;exact⟨_,_,_,O.then z V,rfl⟩
end
def fH:List (Int×Nat):=[(1,237),(2,238),(3,239),(4,240),(5,241)]
def ob (w):Calls prog 190 #[] w fun e w'=>e= .returned (.map (some w.heap.size))∧H w' (ν w) fH∧Below (ν w) w w':=by refine ym ?_;intro am az A;obtain⟨w1,ay,O,af⟩:=h (P:=prog) underlying347 underlying230 1 (.func (.func 237) #[] #[]) az (Zc _) A rfl;obtain⟨G,aK,z,aa⟩:=h (P:=prog) underlying347 underlying230 2 (.func (.func 238) #[] #[]) af (Zc _) O rfl;obtain⟨E,a9,J,ac⟩:=h (P:=prog) underlying347 underlying230 3 (.func (.func 239) #[] #[]) aa (Zc _) z rfl;obtain⟨M,aq,I,ah⟩:=h (P:=prog) underlying347 underlying230 4 (.func (.func 240) #[] #[]) ac (Zc _) J rfl;obtain⟨V,ak,aj,ai⟩:=h (P:=prog) underlying347 underlying230 5 (.func (.func 241) #[] #[]) ah (Zc _) I rfl;have hF:H V (ν w) fH:=⟨_,aj⟩;clear A O z J I aj az af aa ac ah;go_enter func190,ntmps190;go_wp2_with fail;go_ret;exact⟨rfl,hF,ai⟩
def se {w mm} (h:H w mm fH):(Instr.lookup 347 (.map (some mm)) (ι 1) true).run prog w= .ok (.tuple #[.func (.func 237) #[] #[],Υ]) w:=
 ZT (j:=0) underlying347 underlying230 h ψ
def t' {w mm} (h:H w mm fH):(Instr.lookup 347 (.map (some mm)) (ι 2) true).run prog w= .ok (.tuple #[.func (.func 238) #[] #[],Υ]) w:=
 ZT (j:=1) underlying347 underlying230 h ψ
def tE {w mm} (h:H w mm fH):(Instr.lookup 347 (.map (some mm)) (ι 3) true).run prog w= .ok (.tuple #[.func (.func 239) #[] #[],Υ]) w:=
 ZT (j:=2) underlying347 underlying230 h ψ
def o8 {w mm} (h:H w mm fH):(Instr.lookup 347 (.map (some mm)) (ι 4) true).run prog w= .ok (.tuple #[.func (.func 240) #[] #[],Υ]) w:=
 ZT (j:=3) underlying347 underlying230 h ψ
def w4 (I a1 w):CallsD prog 231 #[I,a1] .returning w fun e u' w'=>e= .returned (.tuple #[])∧u'= .returning∧w'=w:=by
 refine ZB func231 rfl fun c₀ cs hu=>?_;apply ZW;apply ZH;simp[wpOpsS,go_sem,recoverD,hu,ntmps231,Exit.thenS];refine xS ?_;go_wp2_with fail;cases c₀
 simp_all [bodyPostS,results,results231]
end
section
section
variable {o o1 o2 o7:ab} {w w1 w7 w8:World} {S W n:Nat} {m m':bd} {L L' Ls Ls':List Nat} {wm wm':aH}
def aX.boxes (P) (hP:∀x,P x→w.heap.size≤x∧x < w1.heap.size∧o1 x=some x) (z:Wf o w) (ak:J Θ o w o1 w1) (hL:∀k∈L,k < w.heap.size) (ad:∀k∈Ls,k < w.heap.size) (hS:aX W S m' wm' L Ls o1 w1 o7 w7 L' Ls') (hF:Fr P w7 w8):aX W S m' wm' L Ls o w o7 w8 L' Ls':=by
 obtain⟨a1,a2,a3,a4,a5,a6⟩:=hS;have ae:=z.BD ak;have bh:=ae.BD a1;have hs:=ak.size;have on:∀x,P x→o7 x=some x:=fun x hx=>by
  obtain⟨p1,p2,p3⟩:=hP x hx;exact a1.owned p2 p3 fun h=>by
   rcases h with h | h
   ·have:=hL x h;omega
   ·have:=ad x h;omega
 have Y:J P o7 w7 o7 w8:=Z9 bh hF fun x _ hx=>⟨x,on x hx,hx⟩;have I:=Y.et (K:=fun k=>¬P k) fun _ h=>h;have A:∀k∈L',¬P k:=fun k hk hp=>by
  have:=hP k hp;rcases a4 k hk with h | h
  ·have:=hL k h;omega
  ·omega
 have E:∀k∈Ls',¬P k:=fun k hk hp=>by
  have:=hP k hp;rcases a5 k hk with h | h
  ·have:=ad k h;omega
  ·omega
 refine⟨((ak.more z fun _ _ h=>h.elim).same z a1).trans z Y fun k hk h=>by have:=hP k h;omega,a2.kept I Y.size A,a3.kept I Y.size E,fun k hk=>(a4 k hk).imp id fun h=>by omega,fun k hk=>(a5 k hk).imp id fun h=>by omega,a6⟩
def lH {mv} (F:Nat) (caps) (z:Wf o w) (hL:∀k∈L,k < w.heap.size) (ad:∀k∈Ls,k < w.heap.size) (hF:Λ F) (aG:∀o2 G,Wf o2 G→J Θ o w o2 G→Calls prog F caps G (bE W S m' wm' L Ls (aj mv) o2 G)) :
  Calls prog 183 #[.func (.func F) #[] caps] w (bE W S m' wm' L Ls (.tuple #[aj mv,ι 0]) o w):=by
 have an:=Yc z (.cells #[ι 0,ι 0,ι 0,ι 0] 273) (.cells #[ι 0] 33);have O:=(Zh w 273 [ι 0,ι 0,ι 0,ι 0]).alloc θ2;have Z:=Zh (w.alloc θ5) 33 [ι 0];rw[show (w.alloc θ5).heap.size=w.heap.size+1 by simp] at Z;refine xZ ?_;intro e0 e1;have aa:=aG _ _ (z.BD an) an;clear aG;go_enter_defers func183,ntmps183;go_wp2_with fail;generalize two o w.heap.size=o2 at *;generalize (w.alloc θ5).alloc θ2=G at *;refine aa.mono ?_;rintro e E ⟨o3,L3,Ls3,V,rfl⟩;have h:=Y7 hL ad (Zc _) O.lt e0 V O;have I:=Y7 hL ad (Yf _) Z.lt e1 V Z
 have M:=χ (fun w8 (hf:Fr (fun b=>b=w.heap.size∨b=w.heap.size+1) E w8)=>aX.boxes (fun b=>b=w.heap.size∨b=w.heap.size+1) (fun x hx=>by
   rcases hx with rfl | rfl
   ·exact⟨Zc _,O.lt,e0⟩
   ·exact⟨Yf _,Z.lt,e1⟩) z an hL ad V hf)
 clear an O Z e0 e1 hL ad aa V;obtain⟨x0,y0,x1,y1,x2,y2,x3,y3,-⟩:=kb3 h;obtain⟨U,ye,-⟩:=kb0 I;have h0:A (σ (σ4 E (ν w) (ι mv.kind) (ι mv.sync) (ι mv.partner) (ι mv.cond)) (η w) 0 (ι 0)) (ν w) 273 [ι mv.kind,ι mv.sync,ι mv.partner,ι mv.cond]:=Y0 (aW (b:=0) [(0,ι mv.kind),(1,ι mv.sync),(2,ι mv.partner),(3,ι mv.cond)] _ _ h) (q:=κ (η w) 0) ξ (ι 0);have a1:Fr (·=w.heap.size) E (σ4 E (ν w) (ι mv.kind) (ι mv.sync) (ι mv.partner) (ι mv.cond)):=aE (S:=(·=w.heap.size)) rfl 0 [(0,ι mv.kind),(1,ι mv.sync),(2,ι mv.partner),(3,ι mv.cond)] E;have H:A (σ (σ4 E (ν w) (ι mv.kind) (ι mv.sync) (ι mv.partner) (ι mv.cond)) (η w) 0 (ι 0)) (η w) 33 [ι 0]:=(A.fr I a1 ξ).set 0 (ι 0);have Y:Fr (fun b=>b=w.heap.size∨b=w.heap.size+1) E (σ (σ4 E (ν w) (ι mv.kind) (ι mv.sync) (ι mv.partner) (ι mv.cond)) (η w) 0 (ι 0)):=(aE (S:=fun b=>b=w.heap.size∨b=w.heap.size+1) (g:=w.heap.size) (.inl rfl) 0 [(0,ι mv.kind),(1,ι mv.sync),(2,ι mv.partner),(3,ι mv.cond)] E).same (Z4 (q:=κ (η w) 0) (.inl (.inr rfl)));have HH:=χ (Zf h0 (Zf H Y));clear h0 H Y a1 h I;unfold aj;go_wp2_with fail;obtain⟨h0,H,Y⟩:=HH.out;have hX:=M.out _ Y;clear Y;generalize (σ (σ4 E (ν w) (ι mv.kind) (ι mv.sync) (ι mv.partner) (ι mv.cond)) (η w) 0 (ι 0):World)=w9 at *
 show bodyPostD _ _ _ _ _ _
 refine leaves_cons (f:=231) (args:=#[ϖ w,π (η w)]) ξ (by simp[go_sem]) ?_;refine (w4 _ _ _).mono ?_;rintro e u' aZ ⟨rfl,rfl,rfl⟩;exact⟨.tuple #[.agg #[ι mv.kind,ι mv.sync,ι mv.partner,ι mv.cond],ι 0],by simp[results,results183,go_sem,h0.c 0 rfl,h0.c 1 rfl,h0.c 2 rfl,h0.c 3 rfl,H.c 0 rfl],⟨_,_,_,hX,rfl⟩⟩
def q7 {mv m1 wm1} (F:Nat) (z:Wf o w) (hI:aI o w W wm L) (hE:a6 o w) (hN:a8 o w S m Ls) (hF:Λ F) (aD:∀o w,Wf o w→aI o w W wm L→a6 o w→a8 o w S m Ls→Calls prog F #[π S,π W] w (bE W S m1 wm1 L Ls (aj mv) o w)) (aM:gT m1 wm1=(.ok m',wm')) (bf bs bw) (I:A w bf 345 [.func (.func F) #[] #[]]) (ks:A w bs 215 [π S]) (U:A w bw 27 [π W]) (n1:o bs=none) (n2:o bw=none) :
  Calls prog 191 #[π bf,π bs,π bw] w (bE W S m' wm' L Ls (aj mv) o w):=by
 refine yj ?_;intro ad ao ak af kb Y;have ae:=z.BD ak;have ay:=aD _ _ ae (hI.kept Y ak.size fun _ _=>Zk) (hE.kept Y) (hN.kept Y ak.size fun _ _=>Zk);replace I:=I.alloc θ5;obtain⟨ks,q1⟩:=ak.frozen.BF ks n1;obtain⟨U,q2⟩:=ak.frozen.BF U n2;obtain⟨n,hn⟩:∃n,w.heap.size=n:=⟨_,rfl⟩;obtain⟨w1,Z⟩:∃u,w.alloc θ5=u:=⟨_,rfl⟩;rw[hn] at ak af kb ae ay q1 q2;rw[Z] at ak kb ae ay I ks U;clear Y;generalize o.set n (some n)=o1 at *;have c0:=I.c 0 rfl;have c1:=ks.c 0 rfl;have c2:=U.c 0 rfl;refine yE ?_;intro aw aN aV aR;have HK:=χ (Zf ks U);clear hI hE hN ak af kb I ks U ad ao n1 n2 aD;go_enter func191,ntmps191;go_upto_region 1 with fail;clear Z;unfold aj at ay;go_upto_region 2 with (refine ay.mono ?_;rintro e G ⟨o2,L2,Ls2,O,rfl⟩);have ap:=ae.BD O.1;obtain⟨s2,p1⟩:=O.1.frozen.BF HK.out.1 q1;obtain⟨v2,p2⟩:=O.1.frozen.BF HK.out.2 q2;have ac:=am G (.cells #[ι mv.kind,ι mv.sync,ι mv.partner,ι mv.cond] 273);have km:=Zh G 273 [ι mv.kind,ι mv.sync,ι mv.partner,ι mv.cond];have pm:o2 G.heap.size=none:=ap.ge (Zc _);have V:=O.below ae ac;replace s2:=A.alloc s2 (.cells #[ι mv.kind,ι mv.sync,ι mv.partner,ι mv.cond] 273);replace v2:=A.alloc v2 (.cells #[ι mv.kind,ι mv.sync,ι mv.partner,ι mv.cond] 273);have ax:=ae.BD V.1;have ai:=lr ax V.2.1 V.2.2.1 V.2.2.2.2.2 aM;generalize G.alloc (.cells #[ι mv.kind,ι mv.sync,ι mv.partner,ι mv.cond] 273)=E at *;generalize G.heap.size=bm at *;have d1:=s2.c 0 rfl;have d2:=v2.c 0 rfl;clear ay O
 go_upto_region 3 with (go_at_call 186;refine ai.mono ?_;rintro e M ⟨o4,L4,Ls4,aa,rfl⟩);have bi:=V.then ae aa;have kb4:=aR.out _ _ _ _ _ _ bi;have h:=(aa.1.frozen.BF km pm).1;obtain⟨x0,y0,x1,y1,x2,y2,x3,y3,-⟩:=kb3 kb4;obtain⟨z0,z1,z2,z3,-⟩:=kc3 h;go_wp2_with fail;have aZ:A (σ4 M n (ι mv.kind) (ι mv.sync) (ι mv.partner) (ι mv.cond)) n 273 [ι mv.kind,ι mv.sync,ι mv.partner,ι mv.cond]:=aW (b:=0) [(0,ι mv.kind),(1,ι mv.sync),(2,ι mv.partner),(3,ι mv.cond)] _ _ kb4;have aO:=aV.out _ _ _ _ (σ4 M n (ι mv.kind) (ι mv.sync) (ι mv.partner) (ι mv.cond)) _ _ bi (aE (S:=(·=n)) rfl 0 [(0,ι mv.kind),(1,ι mv.sync),(2,ι mv.partner),(3,ι mv.cond)] M);generalize (σ4 M n (ι mv.kind) (ι mv.sync) (ι mv.partner) (ι mv.cond):World)=w9 at *;exact Zl (v:=aj mv) (by simp[aj,results,results191,go_sem,aZ.c 0 rfl,aZ.c 1 rfl,aZ.c 2 rfl,aZ.c 3 rfl]) rfl ⟨_,_,_,aO,rfl⟩
end
end
end Go.Proofs.YtmchabopafimeaaGreatDoor
