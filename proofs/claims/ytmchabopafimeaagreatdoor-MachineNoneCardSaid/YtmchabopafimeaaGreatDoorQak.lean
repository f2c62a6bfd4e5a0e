import Derived.Test.YtmchabopafimeaaGreatDoorQaj
import Derived.Lib.SliceRun
namespace Go.Proofs.YtmchabopafimeaaGreatDoor
set_option maxRecDepth 100000
set_option maxHeartbeats 16000000
set_option linter.all false
open Go.RowKit Go.Sort Tryz
section
def bx.Cq {ok w x cs} (h:bx ok w x cs) {br pa v a c} (hb:ag br) (hp:ag pa) (hv:aG ok w v (.agg (υ v a c))):bx ok w {x with done:=true,br:=br,v:=v,pa:=pa} (cr cs [(5,Υ),(6,ι br),(7,ι v.kd),(8,ι v.n),(9,.slice a v.l.length c),(10,ι pa)]):=by obtain⟨aQ,ay,av,cb,cc,cv,rfl,H,h2,h3,h4,h5,h6,h7,M⟩:=h;exact⟨aQ,ay,a,cb,cc,c,rfl,H,h2,hv,h4,h5,hb,hp,M⟩
section
variable {o:ab} {w:World} {W Y:Nat} {m:aH} {aB aF aC:Value} {cs:List (Nat×Nat×Nat×Nat)} {ds:List (Nat×Nat)}
def pP (z:Wf o w) (hW:ai o w W m Y aB aF aC cs ds) (k x) (hx:m.sys[k]? =some x) (br) (hbr:br < x.bases.length) (v av cv) (hv:aG (Fz o w) w v (.agg (υ v av cv))) (af:right v=true) (pa:Int) (a9:-1≤pa) (am:pa < m.sys.length) (ad:x.done=false) (bw bn bb I bp B) (ao:A w bw 27 [aA W]) (aL:A w bn 3 [ι (k:Nat)]) (aw:A w bb 3 [ι (br:Nat)]) (aW:A w I 86 [ι v.kd,ι v.n,.slice av v.l.length cv]) (a1:A w bp 3 [ι pa]) (aK:∀b∈[bw,bn,bb,I,bp],o b=none) :
  Calls prog 400 #[π bw,π bn,π bb,π I,π bp] w (bH (·∈wl W Y cs ds) (.int .i64) (eF B W {m with sys:=m.sys.set k {x with done:=true,br:=(br:Nat),v:=v,pa:=pa}} 0 (wl W Y cs ds)) o w):=by
 have aO:∀b∈[W,bw,bn,bb,I,bp],b < w.heap.size:=by
  intro b aj;simp only[List.mem_cons,List.not_mem_nil,or_false] at aj;rcases aj with rfl | rfl | rfl | rfl | rfl | rfl
  ·exact hW.blk.lt
  ·exact ao.lt
  ·exact aL.lt
  ·exact aw.lt
  ·exact aW.lt
  ·exact a1.lt
 have c0:=ao.c 0 rfl;have c1:=aL.c 0 rfl;have c2:=aw.c 0 rfl;obtain⟨v0,v1,v2,-⟩:=kc2 aW;have cp:=a1.c 0 rfl;unfold aA at c0;obtain⟨g,cap,rfl,hg,aU,aI,xs,a8,a4,aJ⟩:=hW.Cb hx;have cW:=hW.blk.c 3 rfl;obtain⟨aQ,ay,aD,cb,cc,cw,rfl,O⟩:=a4;have g1:w.cell? (κ g (k*11+1))=some (.slice aQ x.bases.length cb):=aJ 1 ω;have g5:w.cell? (κ g (k*11+5))=Δ:=by rw[aJ 5 ω,←ad];rfl
 have g6:w.cell? (κ g (k*11+6))=ι x.br:=aJ 6 ω;have g7:w.cell? (κ g (k*11+7))=ι x.v.kd:=aJ 7 ω;have g8:w.cell? (κ g (k*11+8))=ι x.v.n:=aJ 8 ω;have g9:w.cell? (κ g (k*11+9))=some (.slice aD x.v.l.length cw):=aJ 9 ω;have a0:w.cell? (κ g (k*11+10))=ι x.pa:=aJ 10 ω;have hk:=(Ze.1 hx).1;have hC:=iC hW k hk;have hR:=fun n wx=>cK n wx;have hsm:=gR af;have ak:ag (br:Nat):=by have H:=O.2.2.2.2.2.2.2.1;have h2:=O.2.2.2.2.2.2.2.2.1;unfold ag maxLen at *;omega
 have an:ag pa:=by
  have H:=hW.ok.few;have h2:m.cells.length≤65536:=by obtain⟨vl,vc,nl,ys,ha⟩:=hW.ar;exact Zp ha.len ha.most2
  unfold ag;omega
 have HV:=χ (fun w1 (hb:Below (ν w) w w1)=>(hv.kept (kB z hb) hb.size).lt)
 have HK:=χ (fun (w':World) (h:∀b∈[W,bw,bn,bb,I,bp],w'.heap[b]? =w.heap[b]?)=>(show w'.cell? (κ bw 0)=π W∧w'.cell? (κ bb 0)=ι (br:Nat)∧w'.cell? (κ I 0)=ι v.kd∧w'.cell? (κ I 1)=ι v.n∧w'.cell? (κ I 2)=some (.slice av v.l.length cv)∧w'.cell? (κ bp 0)=ι pa∧w'.cell? (κ W 3)=some (.slice (Γ g) m.sys.length cap) from
   ⟨(aY (h bw ξ) 0).trans c0,(aY (h bb ξ) 0).trans c2,(aY (h I ξ) 0).trans v0,(aY (h I ξ) 1).trans v1,(aY (h I ξ) 2).trans v2,(aY (h bp ξ) 0).trans cp,(aY (h W ξ) 3).trans cW⟩))
 have HB:=χ (fun w' (hb:Below (ν w) w w')=>(show ∀b∈[W,bw,bn,bb,I,bp],w'.heap[b]? =w.heap[b]? from fun b aj=>hb.block b (aO b aj)));have HG:=χ (fun w' (hb:Below (ν w) w w')=>(show w'.cell? (κ g (k*11+1))=some (.slice aQ x.bases.length cb)∧w'.cell? (κ g (k*11+5))=Δ from⟨(aY (hb.block g hg) _).trans g1,(aY (hb.block g hg) _).trans g5⟩))
 have ap:=χ (fun w' (hb:Below (ν w) w w')=>(show w'.cell? (κ g (k*11+5))=Δ∧w'.cell? (κ g (k*11+6))=ι x.br∧w'.cell? (κ g (k*11+7))=ι x.v.kd∧w'.cell? (κ g (k*11+8))=ι x.v.n∧w'.cell? (κ g (k*11+9))=some (.slice aD x.v.l.length cw)∧w'.cell? (κ g (k*11+10))=ι x.pa∧∀q,w'.frozen? (κ g q)=false from
   ⟨(aY (hb.block g hg) _).trans g5,(aY (hb.block g hg) _).trans g6,(aY (hb.block g hg) _).trans g7,(aY (hb.block g hg) _).trans g8,(aY (hb.block g hg) _).trans g9,(aY (hb.block g hg) _).trans a0,fun q=>by rw[show w'.frozen? (κ g q)=w.frozen? (κ g q) by simp[World.frozen?,hb.block g hg]];exact aI q⟩))
 have aR:∀b∈[W,bw,bn,bb,I,bp],b≠g:=by
  intro b aj e;rcases ZG.1 aj with rfl | aj
  ·subst e
   obtain⟨ys,q1,-⟩:=hW.rsy;exact bq hW.blk q1.row φ rfl
  ·have:=aK b aj
   rw[e,aU] at this;cases this
 have bc:=χ (fun E (us:List (Nat×Value)) (hb:Below (ν w) w E)=>(show ∀b∈[W,bw,bn,bb,I,bp],(a3 E g (k*11) us).heap[b]? =w.heap[b]? from fun b aj=>((aE (S:=(·=g)) rfl (k*11) us E).block b (Za (aO b aj) hb.size) (aR b aj)).trans (hb.block b (aO b aj))))
 have bd:=χ (fun E (U:Option Addr) (V:Nat) (hb:Below (ν w) w E) (hV:aG (Fz o E) E v (.agg (υ v U V)))=>(show ∃o',J (·∈wl W Y cs ds) o w o' (a3 E g (k*11) [(5,Υ),(6,ι (br:Nat)),(7,ι v.kd),(8,ι v.n),(9,.slice U v.l.length V),(10,ι pa)])∧aT B W {m with sys:=m.sys.set k {x with done:=true,br:=(br:Nat),v:=v,pa:=pa}} (wl W Y cs ds) o' (a3 E g (k*11) [(5,Υ),(6,ι (br:Nat)),(7,ι v.kd),(8,ι v.n),(9,.slice U v.l.length V),(10,ι pa)]) from by
   have ax:=z.below hb;have az:=hW.kept (kB z hb) hb.size fun _ _=>Zk
   obtain⟨q1,q2⟩:=az.Cr ax (x':={x with done:=true,br:=(br:Nat),v:=v,pa:=pa}) hx (g:=g) rfl [(5,Υ),(6,ι (br:Nat)),(7,ι v.kd),(8,ι v.n),(9,.slice U v.l.length V),(10,ι pa)] (fun p hp=>by
     simp only[List.mem_cons,List.not_mem_nil,or_false] at hp
     rcases hp with rfl | rfl | rfl | rfl | rfl | rfl <;> exact Za (Nat.lt_succ_self _) (by show _≤11;dsimp only;omega)) (fun cs _ h=>h.Cq ak an hV) rfl
   exact⟨o,(Zb (D:=(·∈wl W Y cs ds)) z hb).same z (q1.more ax fun q _ e=>by rw[e];exact eD),_,⟨Y,aB,aF,_,cs,ds,q2,rfl⟩,fun q hq=>.inl hq⟩))
 have HC:=χ (fun (wx:World) (h:aG (ο wx) wx v (.agg (υ v av cv)))=>fQ v _ wx h);rw[af] at HC;have bu:=χ (fun (wx:World) (h:aG (ο wx) wx v (.agg (υ v av cv)))=>ce v _ wx hsm h);obtain⟨nb,bt⟩:∃n,x.bases.length=n:=⟨_,rfl⟩;obtain⟨ns,aP⟩:∃n,m.sys.length=n:=⟨_,rfl⟩;rw[bt] at HG hbr;rw[aP] at HK am;generalize ({m with sys:=m.sys.set k {x with done:=true,br:=(br:Nat),v:=v,pa:=pa}}:aH)=m2 at bd ⊢;clear aJ O aI hx a8 hv bt aP cW g1 g5 g6 g7 g8 g9 a0 hsm ak an af ad hk v0 v1 v2 cp c2;go_enter func400,ntmps400;go_wp2_with (go_at_call 158;refine δ hC ?_;intro w1 hb);have aS:=HB.out w1.drew hb.drew;obtain⟨q1,-⟩:=HG.out w1.drew hb.drew;have aM:=hb.drew;clear hC c0 c1;go_region_held3 (fun w'=>w'.cell? (κ bb 0)=ι (br:Nat)∧w'.cell? (κ g (k*11+1))=some (.slice aQ nb cb))
   (first | with_reducible exact⟨(HK.out _ aS).2.1,q1⟩)
   (first
     | (go_at_call 172;(refine γ (hR 2 _) ?_;dsimp only)))
 obtain⟨-,-,v0,v1,v2,-⟩:=HK.out _ aS;have aq:=HV.out _ aM;go_wp2_with first
  | (go_at_call 122;refine (HC.out _ aq).mono ?_
     rintro e G ⟨rfl,aa⟩
     have L:=aM.trans (aa.mono aM.size))
  | (go_at_call 172;refine γ (hR 2 _) ?_)
 have a':=HB.out G.drew L.drew;obtain⟨-,q5⟩:=HG.out G.drew L.drew;clear v0 v1 v2 q1 aS;go_region_held3 (fun w'=>w'.cell? (κ bw 0)=π W∧w'.cell? (κ bp 0)=ι pa∧w'.cell? (κ W 3)=some (.slice (Γ g) ns cap))
   (first | with_reducible exact⟨(HK.out _ a').1,(HK.out _ a').2.2.2.2.2.1,(HK.out _ a').2.2.2.2.2.2⟩)
   (first
     | (go_at_call 172;(refine γ (hR 2 _) ?_;dsimp only)))
 go_wp2_with (go_at_call 172;refine γ (hR 160 _) ?_);have Z:=L.drew.drew;have a5:=HB.out G.drew.drew Z;have aV:=HV.out _ Z;clear q5 a';go_region_held3 (fun w'=>w'.cell? (κ bb 0)=ι (br:Nat)∧w'.cell? (κ I 0)=ι v.kd∧w'.cell? (κ I 1)=ι v.n∧w'.cell? (κ I 2)=some (.slice av v.l.length cv)∧w'.cell? (κ bp 0)=ι pa)
   (first
     | with_reducible exact⟨(HK.out _ a5).2.1,(HK.out _ a5).2.2.1,(HK.out _ a5).2.2.2.1,(HK.out _ a5).2.2.2.2.1,(HK.out _ a5).2.2.2.2.2.1⟩
     | with_reducible exact⟨(HK.out _ aZ).2.1,(HK.out _ aZ).2.2.1,(HK.out _ aZ).2.2.2.1,(HK.out _ aZ).2.2.2.2.1,(HK.out _ aZ).2.2.2.2.2.1⟩
     | with_reducible exact⟨(HK.out _ aX).2.1,(HK.out _ aX).2.2.1,(HK.out _ aX).2.2.2.1,(HK.out _ aX).2.2.2.2.1,(HK.out _ aX).2.2.2.2.2.1⟩
     | with_reducible exact⟨(HK.out _ bg).2.1,(HK.out _ bg).2.2.1,(HK.out _ bg).2.2.2.1,(HK.out _ bg).2.2.2.2.1,(HK.out _ bg).2.2.2.2.2.1⟩
     | with_reducible exact⟨(HK.out _ ae).2.1,(HK.out _ ae).2.2.1,(HK.out _ ae).2.2.2.1,(HK.out _ ae).2.2.2.2.1,(HK.out _ ae).2.2.2.2.2.1⟩
     | with_reducible exact⟨(HK.out _ bD).2.1,(HK.out _ bD).2.2.1,(HK.out _ bD).2.2.2.1,(HK.out _ bD).2.2.2.2.1,(HK.out _ bD).2.2.2.2.2.1⟩)
   (first
     | (go_at_call 40;(refine (bu.out _ aV).mono ?_;rintro e E ⟨v',rfl,ac,aN⟩;obtain⟨U,V,rfl,-⟩:=aG.three aN;have ah:=Z.trans (ac.mono Z.size);have aZ:=HB.out E ah;have aX:∀b∈[W,bw,bn,bb,I,bp],((σ E g (k*11+5) (.bool true):World)).heap[b]? =w.heap[b]? :=bc.out E [(5,Υ)] ah;have bg:∀b∈[W,bw,bn,bb,I,bp],((σ (σ E g (k*11+5) (.bool true)) g (k*11+6) (ι (br:Nat)):World)).heap[b]? =w.heap[b]? :=bc.out E [(5,Υ),(6,ι (br:Nat))] ah;have ae:∀b∈[W,bw,bn,bb,I,bp],((σ (σ (σ (σ (σ E g (k*11+5) (.bool true)) g (k*11+6) (ι (br:Nat))) g (k*11+7) (ι v.kd)) g (k*11+8) (ι v.n)) g (k*11+9) (.slice U v.l.length V):World)).heap[b]? =w.heap[b]? :=bc.out E [(5,Υ),(6,ι (br:Nat)),(7,ι v.kd),(8,ι v.n),(9,.slice U v.l.length V)] ah;have bD:∀b∈[W,bw,bn,bb,I,bp],((σ (σ (σ (σ (σ (σ E g (k*11+5) (.bool true)) g (k*11+6) (ι (br:Nat))) g (k*11+7) (ι v.kd)) g (k*11+8) (ι v.n)) g (k*11+9) (.slice U v.l.length V)) g (k*11+10) (ι pa):World)).heap[b]? =w.heap[b]? :=bc.out E [(5,Υ),(6,ι (br:Nat)),(7,ι v.kd),(8,ι v.n),(9,.slice U v.l.length V),(10,ι pa)] ah;obtain⟨g5,g6,g7,g8,g9,a0,gf⟩:=ap.out E ah;have f5:=gf (k*11+5);have f6:=gf (k*11+6);have f7:=gf (k*11+7);have f8:=gf (k*11+8);have f9:=gf (k*11+9);have a6:=gf (k*11+10);clear gf;dsimp only)))
 obtain⟨o9,M,h9⟩:=bd.out E U V ah (aN.more fun q hq=>Nw.fz (z.below Z) hq);go_wp2_with fail;go_ret;exact⟨o9,M,.ok 0,⟨h9,rfl⟩,rfl⟩
end
def ut {o w W Y m aB aF aC cs ds} (z:Wf o w) (hW:ai o w W m Y aB aF aC cs ds) (k x) (hx:m.sys[k]? =some x) (br) (hbr:br < x.bases.length) (v av cv) (hv:aG (Fz o w) w v (.agg (υ v av cv))) (af:right v=true) (pa:Int) (a9:-1≤pa) (am:pa < m.sys.length) (ad:x.done=false) :
  Calls prog 346 #[π W,ι (k:Nat),ι (br:Nat),.agg (υ v av cv),ι pa] w (cF W ({m with sys:=m.sys.set k {x with done:=true,br:=(br:Nat),v:=v,pa:=pa}}) 0 (wl W Y cs ds) o w):=by
 refine yg ?_;intro u1 aN aq ac O u2 L aa aj Z au;replace O:=au _ _ _ O;clear au;obtain⟨u3,ap,aw,aK,k2,au⟩:=al2 aj aa 3 [ι (br:Nat)];replace O:=au _ _ _ O;replace Z:=au _ _ _ Z;clear au;obtain⟨u4,aR,ah,U,k3,au⟩:=al2 aK aw 86 [ι v.kd,ι v.n,.slice av v.l.length cv];replace O:=au _ _ _ O;replace Z:=au _ _ _ Z;replace k2:=au _ _ _ k2;clear au;obtain⟨u5,ae,-,G,k4,au⟩:=al2 U ah 3 [ι pa];replace O:=au _ _ _ O;replace Z:=au _ _ _ Z;replace k2:=au _ _ _ k2;replace k3:=au _ _ _ k3;clear au;refine yT ?_;intro n0 n1 n2 n3;have n4:o (w.heap.size+1+1+1+1)=none:=z.ge ω;have an:J Θ o w o u5:=Zb z G;have aM:=z.BD an;have A:=hW.kept (an.kp) G.size fun _ _=>Zk;have V:=hv.kept (an.kp) G.size
 have I:=hK 400 #[ϖ w,π (η w),π (ς w),π (w.heap.size+1+1+1),π (w.heap.size+1+1+1+1)] W ({m with sys:=m.sys.set k {x with done:=true,br:=(br:Nat),v:=v,pa:=pa}}) 0 (wl W Y cs ds) o u5 aM A.lt Ψ (fun o3 E ax ag _=>
   pP ax (A.kept (ag.kp) ag.size fun _ _=>Zk) k x hx br hbr v av cv (V.kept (ag.kp) ag.size) af pa a9 am ad _ _ _ _ _ _ (ag.frozen.BF O n0).1 (ag.frozen.BF Z n1).1 (ag.frozen.BF k2 n2).1 (ag.frozen.BF k3 n3).1 (ag.frozen.BF k4 n4).1 (fun b hb=>by
    simp only[List.mem_cons,List.not_mem_nil,or_false] at hb;rcases hb with rfl | rfl | rfl | rfl | rfl
    ·exact (ag.frozen.BF O n0).2
    ·exact (ag.frozen.BF Z n1).2
    ·exact (ag.frozen.BF k2 n2).2
    ·exact (ag.frozen.BF k3 n3).2
    ·exact (ag.frozen.BF k4 n4).2))
 have a8:=G.size;have HT:=χ an;clear an aM A O n0 Z n1 k2 n2 k3 n3 k4 n4;go_enter func346,ntmps346;go_wp2_with fail;refine I.mono ?_;rintro e M ⟨o4,ao,⟨L',H,h2⟩,rfl⟩;have hF:cF W ({m with sys:=m.sys.set k {x with done:=true,br:=(br:Nat),v:=v,pa:=pa}}) 0 (wl W Y cs ds) o w (.returned (ι (0))) M:=
  ⟨o4,(HT.out.more z fun _ _ h=>h.elim).same z ao,⟨L',H,fun q hq=>(h2 q hq).imp id fun h=>Zp a8 h⟩,rfl⟩
 clear I ao H h2;go_wp2_with fail;go_ret;exact hF
end
section
def l5:(prog.info? 242).map (fun i=>(i.zero,i.size,i.bytes))=some (some (.agg #[ι 0,ζ]),2,32):=by kernel_rfl
def hH:(prog.info? 194).map (fun i=>(i.zero,i.size,i.bytes))=some (some (.agg #[ι 0,ι 0,ι 0,ι 0,ζ,ζ,ζ]),7,104):=by kernel_rfl
def gE:(prog.info? 86).map (fun i=>(i.zero,i.size,i.bytes))=some (some (.agg #[ι 0,ι 0,ζ]),3,40):=by kernel_rfl
def dX {α:Type} (P:(Nat→Prop)→World→α→List Value→Prop) (sz:Nat) (l:List α) (w:World) (e:Ending) (w':World):Prop:=∃a' aA,e= .returned (.slice a' l.length aA)∧Below w.heap.size w w'∧aU (P (Nw w.heap.size w') w') (Nw w.heap.size w') w' sz l a'∧l.length≤aA∧aA≤maxLen
def cf {α:Type} (P:(Nat→Prop)→World→α→List Value→Prop) (x:α) (w:World) (e:Ending) (w':World):Prop:=∃ba,e= .returned (.agg ba.toArray)∧Below w.heap.size w w'∧P (Nw w.heap.size w') w' x ba
def Ex (v:Value) (w wr:World) (g:Nat):Prop:=w.heap.size≤g∧g < wr.heap.size∧v.ownBlock≠some g
structure z {α:Type} (P:(Nat→Prop)→World→α→List Value→Prop) (an:TypeId) (sz:Nat) (l:List α) (w wr:World) (v:Value) (k:Nat) (xs:List Value):Prop where
 row:aQ wr an sz v k xs
 rd:aD (P (Ex v w wr) wr) sz (l.take k) xs
 own:∀q,v.ownBlock=some q→w.heap.size≤q
 below:Below w.heap.size w wr
def bX {α:Type} (P:(Nat→Prop)→World→α→List Value→Prop):Prop:=∀(ok ok':Nat→Prop) (w w':World) (x:α) (cs:List Value),P ok w x cs→(∀g,ok g→∀q,w'.cell? ⟨g,q,none⟩=w.cell? ⟨g,q,none⟩)→(∀g,ok g→ok' g)→P ok' w' x cs
section
variable {α:Type} {P:(Nat→Prop)→World→α→List Value→Prop} {an:TypeId} {sz k:Nat} {l:List α} {w wr w1 G E:World} {v:Value} {xs ys:List Value} {x:α} {g cap:Nat}
def z.start (P an sz) (l:List α) (w):z P an sz l w w (.slice none 0 0) 0 []:=⟨aQ.nil _ _ _,Ya _ _,(fun q h=>by cases h),Zj _ _⟩
def z.B8 (h:z P an sz l w wr v k xs) (hP:bX P) (hb:Below (ν wr) wr w1):z P an sz l w w1 v k xs:=
 ⟨h.row.et fun _ _ ad=>hb.block _ ad,h.rd.mono fun _ _ hx=>hP _ _ _ _ _ _ hx (fun g hg q=>hb.cell (p:=κ g q) hg.2.1) (fun _ hg=>⟨hg.1,Za hg.2.1 hb.size,hg.2.2⟩),h.own,h.below.trans (hb.mono h.below.size)⟩
def zR {p q:Prop} (k:q) (h:Zq q→p:=by
 intro mq;have bC:∀q,v.ownBlock=some q→q < wr.heap.size:=fun q hq=>h.row.lt hq;have af:∀q,q < G.heap.size→v.ownBlock≠some q→(some g:Option Nat)≠some q:=by
  intro q hq ay e;injection e with e;subst e;rcases iq ha with e | e
  ·exact ay e
  ·omega
 have aJ:∀q,q < G.heap.size→v.ownBlock≠some q→∀i,E.cell? (κ q i)=G.cell? (κ q i):=fun q hq ay i=>Zd (w:=G) (hg.block q hq fun e=>ay e.symm);revert bC af aJ
 exact mq.u):p:=h ⟨k⟩
def zT {p:Prop} (h:p:=by
 refine aD.push (h.rd.mono fun y cs hy=>?_) ?_ aj
 ·refine hP _ _ wr _ _ _ hy (fun q hq i=>?_) (fun q hq=>⟨hq.1,by have:=hq.2.1;omega,?_⟩)
  ·exact (aJ q (by have:=hq.2.1;omega) hq.2.2 i).trans (aa.cell (p:=κ q i) hq.2.1)
  ·exact af q (by have:=hq.2.1;omega) hq.2.2
 ·refine hP _ _ G _ _ _ hp (fun q hq i=>?_) (fun q hq=>⟨by have:=hq.1;omega,by have:=hq.2;omega,?_⟩)
  ·exact aJ q hq.2 (fun e=>by have:=bC q e;have:=hq.1;omega) i
  ·exact af q hq.2 (fun e=>by have:=bC q e;have:=hq.1;omega)):p:=h
def z.push (h:z P an sz l w wr v k xs) (hP:bX P) (hx:l[k]? =some x) (ae:wr.heap.size≤w1.heap.size) (aa:Below (ν wr) wr G) (hp:P (Nw (ν w1) G) G x ys) (aj:ys.length=sz)
  (hr:aQ E an sz (.slice (Γ g) (k+1) cap) (k+1) (xs ++ ys)) (hg:G.grownBy E v.ownBlock) (ha:v.ownBlock=some g∨g=G.heap.size) :
  z P an sz l w E (.slice (Γ g) (k+1) cap) (k+1) (xs ++ ys):=by
 have hs:=hg.size;have a':=aa.size;have A:=h.below.size;refine zR ?_;intro bC af aJ;refine⟨hr,?_,fun q hq=>?_,(h.below.trans (aa.mono A)).trans (Yh (S:=fun b=>v.ownBlock=some b) (Yj hg fun q hq=>.inl hq) (ν w) (fun q hq e=>by have:=h.own q e;omega) ω)⟩
 ·rw[List.take_add_one,hx]
  exact zT
 ·obtain rfl:g=q:=by simpa [Value.ownBlock] using hq
  rcases ha with e | e
  ·exact h.own _ e
  ·omega
def zU {p:Prop} (h:p:=by
 have aX:=h.rd;rw[List.take_length] at aX;obtain⟨cs,q1,q2,q3⟩:=aX.at_ hy;have hj:=(Ze.1 hy).1;have hb:=dH (sz:=sz) hj;have a8:=aX.1;rcases h.row.2 with ⟨e4,e5⟩ | ⟨g,aA,L,e4,e5,-⟩
 ·omega
 ·injection e4 with e4 _ _
  subst e4;refine⟨g,0,cs,rfl,⟨h.own g rfl,aO e5⟩,q1,fun i hi=>?_,hP _ _ wr _ _ _ q2 (fun _ _ _=>rfl) (fun q hq=>⟨hq.1,hq.2.1⟩)⟩;obtain⟨u,hu⟩:∃u,xs[j*sz+i]? =some u:=⟨_,Zg ω⟩;obtain⟨g',e6,-,e7,-⟩:=e3 _ u hu;injection e6 with e6;injection e6 with e6 _ _;subst e6;rw[←q3 i hi,hu,Nat.zero_add]
  exact e7):p:=h
def z.done (h:z P an sz l w wr v l.length xs) (hP:bX P):dX P sz l w (.returned v) wr:=by obtain⟨a,cap,rfl,e1,e2,e3⟩:=h.row.form;refine⟨a,cap,rfl,h.below,fun j y hy=>?_,e1,e2⟩;exact zU
end
def e4:bX ak:=by rintro ok ok' w w' x cs ⟨v0,v1,v2,e,h⟩ hc az;exact⟨v0,v1,v2,e,(h.et hc).more az⟩
def ov:bX aK:=fun _ _ _ _ _ _ h hc az=>h.et hc az
def eE:bX bh:=fun _ _ _ _ _ _ h hc az=>h.et hc az
def zV {p:Prop} (h:p:=by
 go_wp2_with fail;go_loopw [5,7,10] (fun vo _ ix wr=>∃(k:Nat) (xs:List Value),ix= .int .i64 (k:Nat)∧k≤l.length∧z ak 86 3 l w wr vo k xs) (fun _ _ ix _=>l.length - (intOf ix).toNat)
 case atStart=>exact⟨0,[],rfl,Z2 _,bc.out⟩
 case round=>
  obtain⟨k,xs,rfl,hk,hI⟩:=iq hrel
  by_cases ad:k < l.length
  ·have hx:l[k]? =some l[k]:=Zg ad
   have ay:=Z8 ad;generalize l[k]=x at hx ay;obtain⟨g,U,cs,rfl,hg,aq,hc,hP⟩:=HS.out k x hx;obtain⟨b,c,I,-⟩:∃b c,cs=[.int .i64 x.kd,.int .i64 x.n,.slice b x.l.length c]∧True:=by obtain⟨v0,v1,v2,rfl,hv⟩:=iq hP;obtain⟨b,c,e,-⟩:=hv.three;injection e with e;injection e with e;injection e with e1 e;injection e with e2 e;injection e with e3 _;exact⟨b,c,by rw[e1,e2,e3],trivial⟩
   subst I;have ao:=hI.below;have aL:=(ao.cell (p:=κ g (U+k*3)) (by dsimp only;exact hg)).trans (hc 0 ω);have aR:=(ao.cell (p:=κ g (U+k*3+1)) (by dsimp only;exact hg)).trans (hc 1 ω);have aV:=(ao.cell (p:=κ g (U+k*3+2)) (by dsimp only;exact hg)).trans (hc 2 ω);have L:decide (k < l.length)=true:=Zy ad;have aa:=am wr (.cells #[ι x.kd,ι x.n,.slice b x.l.length c] 86);have O:=Zh wr 86 [ι x.kd,ι x.n,.slice b x.l.length c];have h:ak (· < (wr.alloc (υ x b c)).heap.size) (wr.alloc (υ x b c)) x [ι x.kd,ι x.n,.slice b x.l.length c]:=Z _ _ w _ _ _ hP (fun q hq i=>(ao.trans (aa.mono ao.size)).cell (p:=κ q i) hq) (fun q hq=>Za hq (ao.trans (aa.mono ao.size)).size);have hX:=HO.out x _ _ ay (ao.trans (aa.mono ao.size)) h;have HI:=χ hI;have a9:k≤10000000000:=ω;clear hc hP hI h;go_upto_region 5 with fail;generalize wr.alloc (υ x b c)=G at *;obtain⟨M,Y,af,-⟩:=kc2 O;go_wp2_with first
    | (refine hX.mono ?_
       rintro e E ⟨cs,rfl,ac,hP⟩;have HP:=χ hP;obtain⟨b,c,I,-⟩:∃b c,cs=[.int .i64 x.kd,.int .i64 x.n,.slice b x.l.length c]∧True:=by obtain⟨v0,v1,v2,rfl,hv⟩:=iq hP;obtain⟨b,c,e,-⟩:=hv.three;injection e with e;injection e with e;injection e with e1 e;injection e with e2 e;injection e with e3 _;exact⟨b,c,by rw[e1,e2,e3],trivial⟩
       subst I;have ah:=am E (.cells #[ι x.kd,ι x.n,.slice b x.l.length c] 86);have aj:Below (ν wr) wr (E.alloc (υ x b c)):=(aa.trans (ac.mono aa.size)).trans (ah.mono (aa.trans (ac.mono aa.size)).size);have aE:=(HI.out.B8 Z aj).row;have aW:(E.alloc (υ x b c)).heap[E.heap.size]? =some (.cells ([.int .i64 x.kd,.int .i64 x.n,.slice b x.l.length c]:List Value).toArray 86 (0,0)):=Zh E 86 [ι x.kd,ι x.n,.slice b x.l.length c]
       clear hP)
    | (at_builtin
       refine dU _ rfl _ _ 84 86 _ 3 40 underlying84 gE rfl φ φ rfl _ k xs rfl aE (ν E) [ι x.kd,ι x.n,.slice b x.l.length c] rfl aW rfl (by intro u hu;simp only[List.mem_cons,List.not_mem_nil,or_false] at hu;rcases iq hu with rfl | rfl | rfl <;> rfl) a9 ?_;intro g5 a0 V H h2 h3 h4;have J:z ak 86 3 l w V _ (k+1) _:=HI.out.push Z hx aa.size aj (Z _ _ E _ _ _ HP.out (fun q hq i=>ah.cell (p:=κ q i) hq.2) (fun q hq=>⟨hq.1,Za hq.2 ah.size⟩)) rfl H h2 h3;have HN:=χ J
       clear J H h2 h3 h4 aW aE ah aj ac hX)
   go_roundw
   case' rel=>exact⟨k+1,_,by go_num,ω,HN.out⟩
   case' measure=>simp[intOf];omega
  ·have L:decide (k < l.length)=false:=Zn ad
   obtain rfl:k=l.length:=ω;have HI:=χ hI;obtain⟨av,cv,rfl,-⟩:=hI.row.form;clear hI;go_wp2_with fail;go_ret
   exact HI.out.done Z):p:=h
def u8 (F1:Nat) (l a cap w) (hl:aU (ak (ο w) w) (ο w) w 3 l a) (aI:l.length≤1000000) (hF:Λ F1) (ai:∀(x:VT) (cs:List Value) (wx:World),x∈l→Below (ν w) w wx→ak (ο wx) wx x cs→Calls prog F1 #[.agg cs.toArray] wx (cf ak x wx)) :
  Calls prog 119 #[.slice a l.length cap,.func (.func F1) #[] #[]] w (dX ak 3 l w):=by have HS:=χ hl;have HO:=χ ai;have Z:bX ak:=e4;have bc:=χ (z.start ak 86 3 l w);clear hl ai;go_enter func119,ntmps119;exact zV
def zW {p:Prop} (h:p:=by
 go_wp2_with fail;go_loopw [5,7,10] (fun vo _ ix wr=>∃(k:Nat) (xs:List Value),ix= .int .i64 (k:Nat)∧k≤l.length∧z aK 242 2 l w wr vo k xs) (fun _ _ ix _=>l.length - (intOf ix).toNat)
 case atStart=>exact⟨0,[],rfl,Z2 _,bc.out⟩
 case round=>
  obtain⟨k,xs,rfl,hk,hI⟩:=iq hrel
  by_cases ad:k < l.length
  ·have hx:l[k]? =some l[k]:=Zg ad
   have ay:=Z8 ad;generalize l[k]=x at hx ay;obtain⟨g,U,cs,rfl,hg,aq,hc,hP⟩:=HS.out k x hx;obtain⟨b,c,I,-⟩:=id hP;subst I;have ao:=hI.below;have aL:=(ao.cell (p:=κ g (U+k*2)) (by dsimp only;exact hg)).trans (hc 0 ω);have aR:=(ao.cell (p:=κ g (U+k*2+1)) (by dsimp only;exact hg)).trans (hc 1 ω);have L:decide (k < l.length)=true:=Zy ad;have aa:=am wr (.cells #[ι x.fn,.slice b x.args.length c] 242);have O:=Zh wr 242 [ι x.fn,.slice b x.args.length c];have h:aK (· < (wr.alloc (.cells #[ι x.fn,.slice b x.args.length c] 242)).heap.size) (wr.alloc (.cells #[ι x.fn,.slice b x.args.length c] 242)) x [ι x.fn,.slice b x.args.length c]:=Z _ _ w _ _ _ hP (fun q hq i=>(ao.trans (aa.mono ao.size)).cell (p:=κ q i) hq) (fun q hq=>Za hq (ao.trans (aa.mono ao.size)).size);have hX:=HO.out x _ _ ay (ao.trans (aa.mono ao.size)) h;have HI:=χ hI;have a9:k≤10000000000:=ω;clear hc hP hI h;go_upto_region 5 with fail;generalize wr.alloc (.cells #[ι x.fn,.slice b x.args.length c] 242)=G at *;obtain⟨M,Y,-⟩:=kc1 O;go_wp2_with first
    | (refine hX.mono ?_
       rintro e E ⟨cs,rfl,ac,hP⟩;have HP:=χ hP;obtain⟨b,c,I,-⟩:=id hP;subst I;have ah:=am E (.cells #[ι x.fn,.slice b x.args.length c] 242);have aj:Below (ν wr) wr (E.alloc (.cells #[ι x.fn,.slice b x.args.length c] 242)):=(aa.trans (ac.mono aa.size)).trans (ah.mono (aa.trans (ac.mono aa.size)).size);have aE:=(HI.out.B8 Z aj).row;have aW:(E.alloc (.cells #[ι x.fn,.slice b x.args.length c] 242)).heap[E.heap.size]? =some (.cells ([.int .i64 x.fn,.slice b x.args.length c]:List Value).toArray 242 (0,0)):=Zh E 242 [ι x.fn,.slice b x.args.length c]
       clear hP)
    | (at_builtin
       refine dU _ rfl _ _ 192 242 _ 2 32 underlying192 l5 rfl φ φ rfl _ k xs rfl aE (ν E) [ι x.fn,.slice b x.args.length c] rfl aW rfl (by intro u hu;simp only[List.mem_cons,List.not_mem_nil,or_false] at hu;rcases iq hu with rfl | rfl <;> rfl) a9 ?_;intro g5 a0 V H h2 h3 h4;have J:z aK 242 2 l w V _ (k+1) _:=HI.out.push Z hx aa.size aj (Z _ _ E _ _ _ HP.out (fun q hq i=>ah.cell (p:=κ q i) hq.2) (fun q hq=>⟨hq.1,Za hq.2 ah.size⟩)) rfl H h2 h3;have HN:=χ J
       clear J H h2 h3 h4 aW aE ah aj ac hX)
   go_roundw
   case' rel=>exact⟨k+1,_,by go_num,ω,HN.out⟩
   case' measure=>simp[intOf];omega
  ·have L:decide (k < l.length)=false:=Zn ad
   obtain rfl:k=l.length:=ω;have HI:=χ hI;obtain⟨av,cv,rfl,-⟩:=hI.row.form;clear hI;go_wp2_with fail;go_ret
   exact HI.out.done Z):p:=h
def sl (F1:Nat) (l a cap w) (hl:aU (aK (ο w) w) (ο w) w 2 l a) (aI:l.length≤1000000) (hF:Λ F1) (ai:∀(x:f0) (cs:List Value) (wx:World),x∈l→Below (ν w) w wx→aK (ο wx) wx x cs→Calls prog F1 #[.agg cs.toArray] wx (cf aK x wx)) :
  Calls prog 117 #[.slice a l.length cap,.func (.func F1) #[] #[]] w (dX aK 2 l w):=by have HS:=χ hl;have HO:=χ ai;have Z:bX aK:=ov;have bc:=χ (z.start aK 242 2 l w);clear hl ai;go_enter func117,ntmps117;exact zW
def zX {p:Prop} (h:p:=by
 go_wp2_with fail;go_loopw [5,7,10] (fun vo _ ix wr=>∃(k:Nat) (xs:List Value),ix= .int .i64 (k:Nat)∧k≤l.length∧z bh 194 7 l w wr vo k xs) (fun _ _ ix _=>l.length - (intOf ix).toNat)
 case atStart=>exact⟨0,[],rfl,Z2 _,bc.out⟩
 case round=>
  obtain⟨k,xs,rfl,hk,hI⟩:=iq hrel
  by_cases ad:k < l.length
  ·have hx:l[k]? =some l[k]:=Zg ad
   have ay:=Z8 ad;generalize l[k]=x at hx ay;obtain⟨g,U,cs,rfl,hg,aq,hc,hP⟩:=HS.out k x hx;obtain⟨b0,b1,b2,c0,c1,c2,I,-⟩:=id hP;subst I;have ao:=hI.below;have aL:=(ao.cell (p:=κ g (U+k*7)) (by dsimp only;exact hg)).trans (hc 0 ω);have aR:=(ao.cell (p:=κ g (U+k*7+1)) (by dsimp only;exact hg)).trans (hc 1 ω);have aV:=(ao.cell (p:=κ g (U+k*7+2)) (by dsimp only;exact hg)).trans (hc 2 ω);have ap:=(ao.cell (p:=κ g (U+k*7+3)) (by dsimp only;exact hg)).trans (hc 3 ω);have ae:=(ao.cell (p:=κ g (U+k*7+4)) (by dsimp only;exact hg)).trans (hc 4 ω);have az:=(ao.cell (p:=κ g (U+k*7+5)) (by dsimp only;exact hg)).trans (hc 5 ω);have ax:=(ao.cell (p:=κ g (U+k*7+6)) (by dsimp only;exact hg)).trans (hc 6 ω);have L:decide (k < l.length)=true:=Zy ad;have aa:=am wr (.cells #[ι x.kd,ι x.n,ι x.v.kd,ι x.v.n,.slice b0 x.v.l.length c0,.slice b1 x.wr.length c1,.slice b2 x.nk.length c2] 194);have O:=Zh wr 194 [ι x.kd,ι x.n,ι x.v.kd,ι x.v.n,.slice b0 x.v.l.length c0,.slice b1 x.wr.length c1,.slice b2 x.nk.length c2];have h:bh (· < (wr.alloc (ρ x b0 c0 b1 c1 b2 c2)).heap.size) (wr.alloc (ρ x b0 c0 b1 c1 b2 c2)) x [ι x.kd,ι x.n,ι x.v.kd,ι x.v.n,.slice b0 x.v.l.length c0,.slice b1 x.wr.length c1,.slice b2 x.nk.length c2]:=Z _ _ w _ _ _ hP (fun q hq i=>(ao.trans (aa.mono ao.size)).cell (p:=κ q i) hq) (fun q hq=>Za hq (ao.trans (aa.mono ao.size)).size);have hX:=HO.out x _ _ ay (ao.trans (aa.mono ao.size)) h;have HI:=χ hI;have a9:k≤10000000000:=ω;clear hc hP hI h;go_upto_region 5 with fail
   generalize wr.alloc (ρ x b0 c0 b1 c1 b2 c2)=G at *;obtain⟨M,Y,af,ag,aw,ak,ab,-⟩:=kc6 O;go_wp2_with first
    | (refine hX.mono ?_
       rintro e E ⟨cs,rfl,ac,hP⟩;have HP:=χ hP;obtain⟨b0,b1,b2,c0,c1,c2,I,-⟩:=id hP;subst I;have ah:=am E (.cells #[ι x.kd,ι x.n,ι x.v.kd,ι x.v.n,.slice b0 x.v.l.length c0,.slice b1 x.wr.length c1,.slice b2 x.nk.length c2] 194);have aj:Below (ν wr) wr (E.alloc (ρ x b0 c0 b1 c1 b2 c2)):=(aa.trans (ac.mono aa.size)).trans (ah.mono (aa.trans (ac.mono aa.size)).size);have aE:=(HI.out.B8 Z aj).row;have aW:(E.alloc (ρ x b0 c0 b1 c1 b2 c2)).heap[E.heap.size]? =some (.cells ([.int .i64 x.kd,.int .i64 x.n,.int .i64 x.v.kd,.int .i64 x.v.n,.slice b0 x.v.l.length c0,.slice b1 x.wr.length c1,.slice b2 x.nk.length c2]:List Value).toArray 194 (0,0)):=Zh E 194 [ι x.kd,ι x.n,ι x.v.kd,ι x.v.n,.slice b0 x.v.l.length c0,.slice b1 x.wr.length c1,.slice b2 x.nk.length c2]
       clear hP)
    | (at_builtin
       refine dU _ rfl _ _ 124 194 _ 7 104 underlying124 hH rfl φ φ rfl _ k xs rfl aE (ν E) [ι x.kd,ι x.n,ι x.v.kd,ι x.v.n,.slice b0 x.v.l.length c0,.slice b1 x.wr.length c1,.slice b2 x.nk.length c2] rfl aW rfl (by intro u hu;simp only[List.mem_cons,List.not_mem_nil,or_false] at hu;rcases iq hu with rfl | rfl | rfl | rfl | rfl | rfl | rfl <;> rfl) a9 ?_;intro g5 a0 V H h2 h3 h4;have J:z bh 194 7 l w V _ (k+1) _:=HI.out.push Z hx aa.size aj (Z _ _ E _ _ _ HP.out (fun q hq i=>ah.cell (p:=κ q i) hq.2) (fun q hq=>⟨hq.1,Za hq.2 ah.size⟩)) rfl H h2 h3;have HN:=χ J
       clear J H h2 h3 h4 aW aE ah aj ac hX)
   go_roundw
   case' rel=>exact⟨k+1,_,by go_num,ω,HN.out⟩
   case' measure=>simp[intOf];omega
  ·have L:decide (k < l.length)=false:=Zn ad
   obtain rfl:k=l.length:=ω;have HI:=χ hI;obtain⟨av,cv,rfl,-⟩:=hI.row.form;clear hI;go_wp2_with fail;go_ret
   exact HI.out.done Z):p:=h
def tN (F1:Nat) (l a cap w) (hl:aU (bh (ο w) w) (ο w) w 7 l a) (aI:l.length≤1000000) (hF:Λ F1) (ai:∀(x:bI) (cs:List Value) (wx:World),x∈l→Below (ν w) w wx→bh (ο wx) wx x cs→Calls prog F1 #[.agg cs.toArray] wx (cf bh x wx)) :
  Calls prog 84 #[.slice a l.length cap,.func (.func F1) #[] #[]] w (dX bh 7 l w):=by have HS:=χ hl;have HO:=χ ai;have Z:bX bh:=eE;have bc:=χ (z.start bh 194 7 l w);clear hl ai;go_enter func84,ntmps84;exact zX
def xo (F1:Nat) (l a cap w) (hl:aU (ak (ο w) w) (ο w) w 3 l a) (aI:l.length≤1000000) (hF:Λ F1) (ai:∀(x:VT) (cs:List Value) (wx:World),x∈l→Below (ν w) w wx→ak (ο wx) wx x cs→Calls prog F1 #[.agg cs.toArray] wx (cf ak x wx)) :
  Calls prog 196 #[.slice a l.length cap,.func (.func F1) #[] #[]] w (dX ak 3 l w):=by have HS:=χ hl;have HO:=χ ai;have Z:bX ak:=e4;have bc:=χ (z.start ak 86 3 l w);clear hl ai;go_enter func196,ntmps196;exact zV
def sG (F1:Nat) (l a cap w) (hl:aU (aK (ο w) w) (ο w) w 2 l a) (aI:l.length≤1000000) (hF:Λ F1) (ai:∀(x:f0) (cs:List Value) (wx:World),x∈l→Below (ν w) w wx→aK (ο wx) wx x cs→Calls prog F1 #[.agg cs.toArray] wx (cf aK x wx)) :
  Calls prog 235 #[.slice a l.length cap,.func (.func F1) #[] #[]] w (dX aK 2 l w):=by have HS:=χ hl;have HO:=χ ai;have Z:bX aK:=ov;have bc:=χ (z.start aK 242 2 l w);clear hl ai;go_enter func235,ntmps235;exact zW
def wa (F1:Nat) (l a cap w) (hl:aU (bh (ο w) w) (ο w) w 7 l a) (aI:l.length≤1000000) (hF:Λ F1) (ai:∀(x:bI) (cs:List Value) (wx:World),x∈l→Below (ν w) w wx→bh (ο wx) wx x cs→Calls prog F1 #[.agg cs.toArray] wx (cf bh x wx)) :
  Calls prog 187 #[.slice a l.length cap,.func (.func F1) #[] #[]] w (dX bh 7 l w):=by have HS:=χ hl;have HO:=χ ai;have Z:bX bh:=eE;have bc:=χ (z.start bh 194 7 l w);clear hl ai;go_enter func187,ntmps187;exact zX
def Y6:=@z.start
end
def vk:bX (fun _ _=>dB):=fun _ _ _ _ _ _ h _ _=>h
def fI (l a cap w) (hl:aU dB (ο w) w 1 l a) (aI:l.length≤1000000) :
  Calls prog 86 #[.slice a l.length cap] w (dX (fun _ _=>dB) 1 l w):=by
 have hq:∀(w:World) (a:Option Addr) (n c O c':Nat),(binOp .eql 47 (.slice a n c) (.slice none O c')).run prog w= .ok (.bool a.isNone) w:=fun w a n c O c'=>Lib.run_eql_slice_nil w _ _ a n c O c' underlying47;cases a with
 | none=>
   have he:l=[]:=by
    cases l with
    | nil=>rfl
    | cons x r=>obtain⟨g,U,cs,e,-⟩:=hl 0 x rfl;cases e
   subst he;go_enter func86,ntmps86;go_wp2_with fail;go_ret;exact⟨none,0,rfl,Zj _ _,Ym _ _ _ _ _,Zc _,Z2 _⟩
 | some ad=>
   obtain⟨g,U,A⟩:=ad;obtain⟨i0,hi,aH,ax,aw⟩:=cq n6;have hc:∀j u,(l.map (Value.int .i64))[j]? =some u→w.cell? ((⟨g,U,A⟩:Addr).add j)=some u:=by
    intro j u hu;rw[List.getElem?_map] at hu;cases hj:l[j]? with
    | none=>rw[hj] at hu;cases hu
    | some x=>
      rw[hj] at hu;obtain rfl:Value.int .i64 x=u:=by simpa using hu
      obtain⟨g',J,cs,e,hg,aq,be,rfl,-⟩:=hl j x hj;injection e with e;injection e with e1 e2 e3;subst e1 e2 e3;have h0:=be 0 ω;have ha:(⟨g,U,none⟩:Addr).add j=⟨g,U+j,none⟩:=by unfold Addr.add;split <;> simp_all
      rw[ha];simpa using h0
   have hR:∀x∈l,ag x:=by intro x hx;obtain⟨j,hj⟩:=ZI.1 hx;obtain⟨_,_,_,_,_,_,_,_,h⟩:=hl j x hj;exact h
   have HC:=χ hc;have ai:∀u∈l.map (Value.int .i64),u.oneCell'=true:=fun u hu=>by obtain⟨x,_,rfl⟩:=ZC.1 hu;rfl
   clear hl hc;go_enter func86,ntmps86;go_wp2_with (at_builtin;refine wpList_append_own _ rfl _ _ 47 rfl (ν w) 3 i0 (ι 0) 1 8 underlying47 hi aH ax aw rfl φ _ _ _ rfl (World.ownsRow_made w #[] 0 (Zc _) (Z2 _) rfl) ⟨g,U,A⟩ l.length cap (l.map (Value.int .i64)) rfl ?qc1 ?qc2 ?qc3 ?qc4 ?qc5 ?qc6 ?_)
   case qc1=>simp
   case qc2=>intro j u hj;have:=HC.out j u hj;exact Lib.cell?_alloc_some _ this
   case qc3=>exact ai
   case qc4=>unfold maxLen;omega
   case qc5=>omega
   case qc6=>simp
   intro v' w1 H Z E;have aE:aQ w1 3 1 v' l.length (l.map (Value.int .i64)):=aQ.Ca (by simpa using H);have aO:Below (ν w) w w1:=((Zj _ w).alloc (Zc _) _).grown Z ξ (by intro k hk;simp[Value.ownBlock] at hk;omega);have hI:z (fun _ _=>dB) 3 1 l w w1 v' l.length (l.map (Value.int .i64)):=by
     refine⟨aE,⟨by simp,fun j x hx=>?_⟩,fun q hq=>(H.lt q hq).1,aO⟩;rw[List.take_length] at hx;refine⟨?_,hR x (Zi hx)⟩;have hj:=(Ze.1 hx).1;apply Ye;intro q;rw[List.getElem?_take,List.getElem?_drop,List.getElem?_map,Nat.mul_one];rcases q with _ | q
     ·rw[if_pos ω,Nat.add_zero,hx];rfl
     ·rw[if_neg ω];rfl
   have HE:=χ (hI.done vk);clear hI aE H Z E aO;go_wp2_with fail;go_ret;exact HE.out
def g8 (c:f0):Prop:=(∀v∈c.args,small v=true)∧c.args.length≤1000000
def c7 (b:bI):Prop:=small b.v=true∧(∀c∈b.wr,g8 c)∧b.wr.length≤1000000∧b.nk.length≤1000000
def bK (s:cd):Prop:=(∀b∈s.bases,c7 b)∧s.bases.length≤1000000∧s.conds.length≤1000000∧small s.v=true
def Below.putAt {B g w} (hg:B≤g) (b us):∀{w1:World},Below B w w1→Below B w (a3 w1 g b us):=by
 induction us with
 | nil=>exact fun h=>h
 | cons p r z=>exact fun {w1} h=>z (w1:=w1.setCell ⟨g,b+p.1,none⟩ p.2) (Below.setCell h hg _)
def cV {B B1 n0 n1 L wF} (hF:Fr (fun b=>b=n0∨b=n1) L wF) (h0:n0 < B1) (H:n1 < B1) (hB:B≤B1):(∀g,Nw B1 L g→∀q,wF.cell? (κ g q)=L.cell? (κ g q))∧∀g,Nw B1 L g→Nw B wF g:=
  ⟨fun g hg q=>hF.cell hg.2 (by have:=hg.1;omega),fun g hg=>⟨Zp hB hg.1,Za hg.2 hF.size⟩⟩
def zY {p q:Prop} (k:q) (h:Zq q→p:=by
 intro mq;obtain⟨s0,s1,-⟩:=kc1 O
 have HF:=χ (fun E (a':Option Addr) (c':Nat) (ac:Below (ν G) G E) (hS:aU (ak (Nw (ν G) E) E) (Nw (ν G) E) E 3 x.args a') (H:x.args.length≤c') (h2:c'≤maxLen)=>(show cf aK x w (.returned (.agg #[ι x.fn,.slice a' x.args.length c'])) (a3 E (η w) 0 [(0,ι x.fn),(1,.slice a' x.args.length c')]) from by
   obtain⟨q1,q2⟩:=cV (n0:=w.heap.size+1) (n1:=w.heap.size+1) (B:=w.heap.size) (aE (S:=fun b=>b=w.heap.size+1∨b=w.heap.size+1) (g:=w.heap.size+1) (.inl rfl) 0 [(0,ι x.fn),(1,.slice a' x.args.length c')] E) (by omega:_ < G.heap.size) ω ω
   exact⟨_,rfl,Below.putAt ω 0 _ (aa.trans (ac.mono aa.size)),a',c',rfl,hS.et q1 q2 (fun _ _ hy=>e4 _ _ E _ _ _ hy q1 q2),hr,H,h2⟩))
 have HR:=χ (fun E (ac:Below (ν G) G E)=>Zf (O.BE ac) (Z.BE ac));revert s0 s1 HF HR
 exact mq.u):p:=h ⟨k⟩
def zZ {p q:Prop} (k:q) (h:Zq q→p:=by
 intro mq;obtain⟨w1,ae,z1,af,O⟩:=al1 w 242 [ι x.fn,.slice b x.args.length c];obtain⟨G,ap⟩:∃u,w1.alloc (.cells #[ι 0,ζ] 242)=u:=⟨_,rfl⟩;have z2:G.heap.size=w.heap.size+1+1:=by rw[←ap,←z1];simp
 have aa:Below (ν w) w G:=by rw[←ap];exact af.trans ((am w1 _).mono af.size)
 replace O:A G (ν w) 242 [ι x.fn,.slice b x.args.length c]:=by rw[←ap];exact O.alloc _
 have Z:A G (η w) 242 [ι 0,ζ]:=by rw[←ap,←z1];exact Zh w1 _ _
 revert w1 ae z1 af G ap z2 aa O Z
 exact mq.u):p:=h ⟨k⟩
def BB {p q:Prop} (k:q) (h:Zq q→p:=by
 intro mq;obtain⟨q1,q2⟩:=cV (n0:=w.heap.size+1) (n1:=w.heap.size+1) (B:=w.heap.size) (aE (S:=fun b=>b=w.heap.size+1∨b=w.heap.size+1) (g:=w.heap.size+1) (.inl rfl) 0 [(0,ι x.fn),(1,.slice a' x.args.length c')] E) (by omega:_ < G.heap.size) ω ω;revert q1 q2
 exact mq.u):p:=h ⟨k⟩
def uv (x cs w) (h:aK (ο w) w x cs) (hs:g8 x):Calls prog 118 #[.agg cs.toArray] w (cf aK x w):=by
 obtain⟨b,c,rfl,hV,hr,ao,aA⟩:=h;refine zZ ?_;intro w1 ae z1 af G ap z2 aa O Z
 have HV:=χ (fun wx (aj:Below (ν w) w wx)=>u8 40 x.args b c wx (hV.et (fun g hg q=>aj.cell (p:=κ g q) hg) (fun g hg=>Za hg aj.size) (fun y cs hy=>e4 _ _ w _ _ _ hy (fun g hg q=>aj.cell (p:=κ g q) hg) (fun g hg=>Za hg aj.size))) hs.2 Ψ
   (fun y cs L hy bb hP=>by
     obtain⟨v0,v1,v2,rfl,hv⟩:=hP;refine (ce y _ L (hs.1 y hy) hv).mono ?_;rintro e w9 ⟨v',rfl,aT,ai⟩;obtain⟨a9,c9,rfl,-⟩:=ai.three
     exact⟨_,rfl,aT,_,_,_,rfl,ai⟩))
 refine zY ?_;intro s0 s1 HF HR;clear hV hs hr ao aA;have aM:Below (ν w) w G.drew:=aa.drew;have aO:G.drew.cell? (κ (ν w) 0)=ι x.fn∧G.drew.cell? (κ (ν w) 1)=some (.slice b x.args.length c):=⟨s0,s1⟩;go_enter func118,ntmps118;go_wp2_with fail;go_region_held3 (fun w'=>w'.cell? (κ (ν w) 0)=ι x.fn∧w'.cell? (κ (ν w) 1)=some (.slice b x.args.length c))
   (first | with_reducible exact aO | with_reducible exact aV | with_reducible exact aR)
   (first
     | (go_at_call 119;(refine (HV.out _ aM).mono ?_;rintro e E ⟨a',c',rfl,ac,hS,H,h2⟩;have a6:Below (ν G) G E:=(Zj _ _).drew.trans ac;obtain⟨I,k13⟩:=HR.out E a6;have aV:E.cell? (κ (ν w) 0)=ι x.fn∧E.cell? (κ (ν w) 1)=some (.slice b x.args.length c):=⟨I.c 0 rfl,I.c 1 rfl⟩;have z:=I.fr (aE (S:=(·=w.heap.size+1)) rfl 0 [(0,ι x.fn),(1,.slice a' x.args.length c')] E) ω;have aR:((σ2 E (η w) (ι x.fn) (.slice a' x.args.length c'):World)).cell? (κ (ν w) 0)=ι x.fn∧((σ2 E (η w) (ι x.fn) (.slice a' x.args.length c'):World)).cell? (κ (ν w) 1)=some (.slice b x.args.length c):=⟨z.c 0 rfl,z.c 1 rfl⟩;have r0:=k13.c 0 rfl;have r1:=k13.c 1 rfl;have f0:=k13.fz 0;have f1:=k13.fz 1;have hp:A ((σ2 E (η w) (ι x.fn) (.slice a' x.args.length c'):World)) (η w) 242 [ι x.fn,.slice a' x.args.length c']:=aW (b:=0) [(0,ι x.fn),(1,.slice a' x.args.length c')] _ _ k13;have hE:=HF.out E a' c' a6 hS H h2;clear I k13 z hS;dsimp only)))
 go_wp2_with fail;exact Zl (v:= .agg #[ι x.fn,.slice a' x.args.length c']) (by simp[results,results118,go_sem,hp.c 0 rfl,hp.c 1 rfl]) rfl hE
def uh (x cs w) (h:aK (ο w) w x cs) (hs:g8 x):Calls prog 236 #[.agg cs.toArray] w (cf aK x w):=by
 obtain⟨b,c,rfl,hV,hr,ao,aA⟩:=h;refine zZ ?_;intro w1 ae z1 af G ap z2 aa O Z
 have HV:=χ (fun wx (aj:Below (ν w) w wx)=>xo 40 x.args b c wx (hV.et (fun g hg q=>aj.cell (p:=κ g q) hg) (fun g hg=>Za hg aj.size) (fun y cs hy=>e4 _ _ w _ _ _ hy (fun g hg q=>aj.cell (p:=κ g q) hg) (fun g hg=>Za hg aj.size))) hs.2 Ψ
   (fun y cs L hy bb hP=>by
     obtain⟨v0,v1,v2,rfl,hv⟩:=hP;refine (ce y _ L (hs.1 y hy) hv).mono ?_;rintro e w9 ⟨v',rfl,aT,ai⟩;obtain⟨a9,c9,rfl,-⟩:=ai.three
     exact⟨_,rfl,aT,_,_,_,rfl,ai⟩))
 refine zY ?_;intro s0 s1 HF HR;clear hV hs hr ao aA;have aM:Below (ν w) w G.drew:=aa.drew;have aO:G.drew.cell? (κ (ν w) 0)=ι x.fn∧G.drew.cell? (κ (ν w) 1)=some (.slice b x.args.length c):=⟨s0,s1⟩;go_enter func236,ntmps236;go_wp2_with fail;go_region_held3 (fun w'=>w'.cell? (κ (ν w) 0)=ι x.fn∧w'.cell? (κ (ν w) 1)=some (.slice b x.args.length c))
   (first | with_reducible exact aO | with_reducible exact aV | with_reducible exact aR)
   (first
     | (go_at_call 196;(refine (HV.out _ aM).mono ?_;rintro e E ⟨a',c',rfl,ac,hS,H,h2⟩;have a6:Below (ν G) G E:=(Zj _ _).drew.trans ac;obtain⟨I,k13⟩:=HR.out E a6;have aV:E.cell? (κ (ν w) 0)=ι x.fn∧E.cell? (κ (ν w) 1)=some (.slice b x.args.length c):=⟨I.c 0 rfl,I.c 1 rfl⟩;have z:=I.fr (aE (S:=(·=w.heap.size+1)) rfl 0 [(0,ι x.fn),(1,.slice a' x.args.length c')] E) ω;have aR:((σ2 E (η w) (ι x.fn) (.slice a' x.args.length c'):World)).cell? (κ (ν w) 0)=ι x.fn∧((σ2 E (η w) (ι x.fn) (.slice a' x.args.length c'):World)).cell? (κ (ν w) 1)=some (.slice b x.args.length c):=⟨z.c 0 rfl,z.c 1 rfl⟩;have r0:=k13.c 0 rfl;have r1:=k13.c 1 rfl;have f0:=k13.fz 0;have f1:=k13.fz 1;have hp:A ((σ2 E (η w) (ι x.fn) (.slice a' x.args.length c'):World)) (η w) 242 [ι x.fn,.slice a' x.args.length c']:=aW (b:=0) [(0,ι x.fn),(1,.slice a' x.args.length c')] _ _ k13;have hE:=HF.out E a' c' a6 hS H h2;clear I k13 z hS;dsimp only)))
 go_wp2_with fail;exact Zl (v:= .agg #[ι x.fn,.slice a' x.args.length c']) (by simp[results,results236,go_sem,hp.c 0 rfl,hp.c 1 rfl]) rfl hE
def z' {p q:Prop} (k:q) (h:Zq q→p:=by
 intro mq;have hp:A (σ7 (σ V (ν w) 6 (.slice I x.nk.length c5)) (η w) (ι x.kd) (ι x.n) (ι x.v.kd) (ι x.v.n) (.slice b3 x.v.l.length c3) (.slice b4 x.wr.length c4) (.slice I x.nk.length c5)) (η w) 194 [ι x.kd,ι x.n,ι x.v.kd,ι x.v.n,.slice b3 x.v.l.length c3,.slice b4 x.wr.length c4,.slice I x.nk.length c5]:=aW (b:=0) [(0,ι x.kd),(1,ι x.n),(2,ι x.v.kd),(3,ι x.v.n),(4,.slice b3 x.v.l.length c3),(5,.slice b4 x.wr.length c4),(6,.slice I x.nk.length c5)] _ _ aI.out;have FF:Fr (fun b=>b=w.heap.size∨b=w.heap.size+1) (σ V (ν w) 6 (.slice I x.nk.length c5)) (σ7 (σ V (ν w) 6 (.slice I x.nk.length c5)) (η w) (ι x.kd) (ι x.n) (ι x.v.kd) (ι x.v.n) (.slice b3 x.v.l.length c3) (.slice b4 x.wr.length c4) (.slice I x.nk.length c5)):=aE (.inr rfl) 0 [(0,ι x.kd),(1,ι x.n),(2,ι x.v.kd),(3,ι x.v.n),(4,.slice b3 x.v.l.length c3),(5,.slice b4 x.wr.length c4),(6,.slice I x.nk.length c5)] _;have G3:=Y1 aX.out FF;have G2:=Y1 aQ.out (Y1 (ZA (S:=fun b=>b=w.heap.size∨b=w.heap.size+1) aY.out) G3);have G1:=Y1 aS.out (Y1 (ZA (S:=fun b=>b=w.heap.size∨b=w.heap.size+1) aO.out) G2);obtain⟨q1a,q1b⟩:=cV (B:=w.heap.size) G1 ((by omega:_ < G.heap.size)) ω ω;obtain⟨q2a,aH⟩:=cV (B:=w.heap.size) G2 (ZE az.out) (ZE aG.out) (z.size);obtain⟨aU,aZ⟩:=cV (B:=w.heap.size) G3 (ZE aD.out) (ZE ax.out) (J.size);revert hp FF G3 G2 G1 q1a q1b q2a aH aU aZ
 exact mq.u):p:=h ⟨k⟩
def Aa {p q:Prop} (k:q) (h:Zq q→p:=by
 intro mq;have ab:=Z6 K0.out ac;have aF:=Z6 K1.out ac;obtain⟨-,-,-,-,a',aq,bC,bu,bx,bt,bB,-,-⟩:=kb5 ab;have az:=χ (show A (σ (σ (σ E (ν w) 2 (ι x.v.kd)) (ν w) 3 (ι x.v.n)) (ν w) 4 (.slice b3 x.v.l.length c3)) (w.heap.size) 194 [ι x.kd,ι x.n,ι x.v.kd,ι x.v.n,.slice b3 x.v.l.length c3,.slice b1 x.wr.length c1,.slice b2 x.nk.length c2] from aW (b:=0) [(2,ι x.v.kd),(3,ι x.v.n),(4,.slice b3 x.v.l.length c3)] _ _ ab);have aG:=χ (show A (σ (σ (σ E (ν w) 2 (ι x.v.kd)) (ν w) 3 (ι x.v.n)) (ν w) 4 (.slice b3 x.v.l.length c3)) (η w) 194 [ι 0,ι 0,ι 0,ι 0,ζ,ζ,ζ] from aF.fr (aE (S:=(·=w.heap.size)) rfl 0 [(2,ι x.v.kd),(3,ι x.v.n),(4,.slice b3 x.v.l.length c3)] E) ω);have z:Below (ν w) w (σ (σ (σ E (ν w) 2 (ι x.v.kd)) (ν w) 3 (ι x.v.n)) (ν w) 4 (.slice b3 x.v.l.length c3)):=Below.putAt (Zc _) 0 [(2,ι x.v.kd),(3,ι x.v.n),(4,.slice b3 x.v.l.length c3)] aM;have aS:=χ (show Fr (fun b=>b=w.heap.size∨b=w.heap.size+1) E (σ (σ (σ E (ν w) 2 (ι x.v.kd)) (ν w) 3 (ι x.v.n)) (ν w) 4 (.slice b3 x.v.l.length c3)) from aE (.inl rfl) 0 [(2,ι x.v.kd),(3,ι x.v.n),(4,.slice b3 x.v.l.length c3)] E);revert ab aF a' aq bC bu bx bt bB az aG z aS
 exact mq.u):p:=h ⟨k⟩
def Ab {p q:Prop} (k:q) (h:Zq q→p:=by
 intro mq;have ak:∀wx,Below (ν w) w wx→(∀g,g < w.heap.size→∀q,wx.cell? (κ g q)=w.cell? (κ g q))∧∀g,g < w.heap.size→g < wx.heap.size:=fun wx aj=>⟨fun g hg q=>aj.cell (p:=κ g q) hg,fun g hg=>Za hg aj.size⟩;obtain⟨w1,ae,z1,af,O⟩:=al1 w 194 [ι x.kd,ι x.n,ι x.v.kd,ι x.v.n,.slice b0 x.v.l.length c0,.slice b1 x.wr.length c1,.slice b2 x.nk.length c2];obtain⟨G,ap⟩:∃u,w1.alloc (.cells #[ι 0,ι 0,ι 0,ι 0,ζ,ζ,ζ] 194)=u:=⟨_,rfl⟩;have z2:G.heap.size=w.heap.size+1+1:=by rw[←ap,←z1];simp
 have aa:Below (ν w) w G:=by rw[←ap];exact af.trans ((am w1 _).mono af.size)
 replace O:A G (ν w) 194 [ι x.kd,ι x.n,ι x.v.kd,ι x.v.n,.slice b0 x.v.l.length c0,.slice b1 x.wr.length c1,.slice b2 x.nk.length c2]:=by rw[←ap];exact O.alloc _
 have Z:A G (η w) 194 [ι 0,ι 0,ι 0,ι 0,ζ,ζ,ζ]:=by rw[←ap,←z1];exact Zh w1 _ _
 have H1:=χ (fun wx (aj:Below (ν w) w wx)=>ce x.v _ wx hs.1 ((hV.et (ak wx aj).1).more (ak wx aj).2));revert ak w1 ae z1 af G ap z2 aa O Z H1
 exact mq.u):p:=h ⟨k⟩
def Ac {p q:Prop} (k:q) (h:Zq q→p:=by
 intro mq;have ag:=Z6 az.out ah;have aB:=Z6 aG.out ah;obtain⟨-,-,-,-,-,-,-,-,-,-,aT,bD,bw,-,-⟩:=kb6 ag;have aD:=χ (show A (σ M (ν w) 5 (.slice b4 x.wr.length c4)) (w.heap.size) 194 [ι x.kd,ι x.n,ι x.v.kd,ι x.v.n,.slice b3 x.v.l.length c3,.slice b4 x.wr.length c4,.slice b2 x.nk.length c2] from aW (b:=0) [(5,.slice b4 x.wr.length c4)] _ _ ag);have ax:=χ (show A (σ M (ν w) 5 (.slice b4 x.wr.length c4)) (η w) 194 [ι 0,ι 0,ι 0,ι 0,ζ,ζ,ζ] from aB.fr (aE (S:=(·=w.heap.size)) rfl 0 [(5,.slice b4 x.wr.length c4)] M) ω);have J:Below (ν w) w (σ M (ν w) 5 (.slice b4 x.wr.length c4)):=Below.putAt (Zc _) 0 [(5,.slice b4 x.wr.length c4)] U;have aQ:=χ (show Fr (fun b=>b=w.heap.size∨b=w.heap.size+1) M (σ M (ν w) 5 (.slice b4 x.wr.length c4)) from aE (.inl rfl) 0 [(5,.slice b4 x.wr.length c4)] M);revert ag aB aT bD bw aD ax J aQ
 exact mq.u):p:=h ⟨k⟩
def Ad {p q:Prop} (k:q) (h:Zq q→p:=by
 intro mq;have aw:=Z6 aD.out ai;have Y:=Z6 ax.out ai;obtain⟨bo,-,bj,-,bi,-,bc,-,bn,-,bl,-,a5,bE,-⟩:=kb6 aw;obtain⟨bf,a8,a4,bp,bg,a6,a3,a7,bb,bq,bd,be,a1,ba,-⟩:=kb6 Y;have aI:=χ (show A (σ V (ν w) 6 (.slice I x.nk.length c5)) (η w) 194 [ι 0,ι 0,ι 0,ι 0,ζ,ζ,ζ] from Y.fr (aE (S:=(·=w.heap.size)) rfl 0 [(6,.slice I x.nk.length c5)] V) ω);have a0:Below (ν w) w (σ V (ν w) 6 (.slice I x.nk.length c5)):=Below.putAt (Zc _) 0 [(6,.slice I x.nk.length c5)] aP;have aX:=χ (show Fr (fun b=>b=w.heap.size∨b=w.heap.size+1) V (σ V (ν w) 6 (.slice I x.nk.length c5)) from aE (.inl rfl) 0 [(6,.slice I x.nk.length c5)] V);revert aw Y bo bj bi bc bn bl a5 bE bf a8 a4 bp bg a6 a3 a7 bb bq bd be a1 ba aI a0 aX
 exact mq.u):p:=h ⟨k⟩
def rn (x cs w) (h:bh (ο w) w x cs) (hs:c7 x):Calls prog 85 #[.agg cs.toArray] w (cf bh x w):=by
 obtain⟨b0,b1,b2,c0,c1,c2,rfl,hV,hW,hN,ay,aK,ao,aA,bz,aL⟩:=id h;refine Ab ?_;intro ak w1 ae z1 af G ap z2 aa O Z H1;have H2:=χ (fun wx (aj:Below (ν w) w wx)=>sl 118 x.wr b1 c1 wx (hW.et (ak wx aj).1 (ak wx aj).2 (fun _ _ hy=>hy.et (ak wx aj).1 (ak wx aj).2)) hs.2.2.1 Ψ (fun y cs L hy _ hP=>uv y cs L hP (hs.2.1 y hy)));have H3:=χ (fun wx (aj:Below (ν w) w wx)=>fI x.nk b2 c2 wx (hN.et (ak wx aj).1 (ak wx aj).2 fun _ _ hy=>hy) hs.2.2.2);obtain⟨-,-,aV,a9,bA,-⟩:=kc4 O;have ad:=aa;have K0:=χ O;have K1:=χ Z;clear O Z;go_enter func85,ntmps85;go_wp2_with first
  | (go_at_call 40;refine (H1.out _ ad).mono ?_
     rintro e E ⟨v',rfl,ac,aN⟩;have aM:=ad.trans (ac.mono ad.size);obtain⟨b3,c3,rfl,-⟩:=aN.three;have P1:=χ aN;clear aN;refine Aa ?_;intro ab aF a' aq bC bu bx bt bB az aG z aS
     clear ab aF)
  | (go_at_call 117;refine (H2.out _ z).mono ?_
     rintro e M ⟨b4,c4,rfl,ah,aR,an,aJ⟩;have U:=z.trans (ah.mono z.size);have P2:=χ aR;have aO:=χ ah;clear aR;refine Ac ?_;intro ag aB aT bD bw aD ax J aQ
     clear ag aB)
  | (go_at_call 86;refine (H3.out _ J).mono ?_
     rintro e V ⟨I,c5,rfl,ai,aC,H,bv⟩;have aP:=J.trans (ai.mono J.size);have P3:=χ aC;have aY:=χ ai;clear aC;refine Ad ?_;intro aw Y bo bj bi bc bn bl a5 bE bf a8 a4 bp bg a6 a3 a7 bb bq bd be a1 ba aI a0 aX
     clear aw Y)
 refine z' ?_;intro hp FF G3 G2 G1 q1a q1b q2a aH aU aZ;exact Zl (v:= .agg (ρ x b3 c3 b4 c4 I c5)) (by simp[results,results85,go_sem,hp.c 0 rfl,hp.c 1 rfl,hp.c 2 rfl,hp.c 3 rfl,hp.c 4 rfl,hp.c 5 rfl,hp.c 6 rfl]) rfl ⟨_,rfl,Below.putAt ω 0 [(0,ι x.kd),(1,ι x.n),(2,ι x.v.kd),(3,ι x.v.n),(4,.slice b3 x.v.l.length c3),(5,.slice b4 x.wr.length c4),(6,.slice I x.nk.length c5)] a0,⟨b3,b4,I,c3,c4,c5,rfl,(P1.out.et q1a).more q1b,P2.out.et q2a aH (fun _ _ hy=>hy.et q2a aH),P3.out.et aU aZ (fun _ _ hy=>hy),ay,aK,an,aJ,H,bv⟩⟩
def lf (x cs w) (h:bh (ο w) w x cs) (hs:c7 x):Calls prog 188 #[.agg cs.toArray] w (cf bh x w):=by
 obtain⟨b0,b1,b2,c0,c1,c2,rfl,hV,hW,hN,ay,aK,ao,aA,bz,aL⟩:=id h;refine Ab ?_;intro ak w1 ae z1 af G ap z2 aa O Z H1;have H2:=χ (fun wx (aj:Below (ν w) w wx)=>sG 236 x.wr b1 c1 wx (hW.et (ak wx aj).1 (ak wx aj).2 (fun _ _ hy=>hy.et (ak wx aj).1 (ak wx aj).2)) hs.2.2.1 Ψ (fun y cs L hy _ hP=>uh y cs L hP (hs.2.1 y hy)));have H3:=χ (fun wx (aj:Below (ν w) w wx)=>fI x.nk b2 c2 wx (hN.et (ak wx aj).1 (ak wx aj).2 fun _ _ hy=>hy) hs.2.2.2);obtain⟨-,-,aV,a9,bA,-⟩:=kc4 O;have ad:=aa;have K0:=χ O;have K1:=χ Z;clear O Z;go_enter func188,ntmps188;go_wp2_with first
  | (go_at_call 40;refine (H1.out _ ad).mono ?_
     rintro e E ⟨v',rfl,ac,aN⟩;have aM:=ad.trans (ac.mono ad.size);obtain⟨b3,c3,rfl,-⟩:=aN.three;have P1:=χ aN;clear aN;refine Aa ?_;intro ab aF a' aq bC bu bx bt bB az aG z aS
     clear ab aF)
  | (go_at_call 235;refine (H2.out _ z).mono ?_
     rintro e M ⟨b4,c4,rfl,ah,aR,an,aJ⟩;have U:=z.trans (ah.mono z.size);have P2:=χ aR;have aO:=χ ah;clear aR;refine Ac ?_;intro ag aB aT bD bw aD ax J aQ
     clear ag aB)
  | (go_at_call 86;refine (H3.out _ J).mono ?_
     rintro e V ⟨I,c5,rfl,ai,aC,H,bv⟩;have aP:=J.trans (ai.mono J.size);have P3:=χ aC;have aY:=χ ai;clear aC;refine Ad ?_;intro aw Y bo bj bi bc bn bl a5 bE bf a8 a4 bp bg a6 a3 a7 bb bq bd be a1 ba aI a0 aX
     clear aw Y)
 refine z' ?_;intro hp FF G3 G2 G1 q1a q1b q2a aH aU aZ;exact Zl (v:= .agg (ρ x b3 c3 b4 c4 I c5)) (by simp[results,results188,go_sem,hp.c 0 rfl,hp.c 1 rfl,hp.c 2 rfl,hp.c 3 rfl,hp.c 4 rfl,hp.c 5 rfl,hp.c 6 rfl]) rfl ⟨_,rfl,Below.putAt ω 0 [(0,ι x.kd),(1,ι x.n),(2,ι x.v.kd),(3,ι x.v.n),(4,.slice b3 x.v.l.length c3),(5,.slice b4 x.wr.length c4),(6,.slice I x.nk.length c5)] a0,⟨b3,b4,I,c3,c4,c5,rfl,(P1.out.et q1a).more q1b,P2.out.et q2a aH (fun _ _ hy=>hy.et q2a aH),P3.out.et aU aZ (fun _ _ hy=>hy),ay,aK,an,aJ,H,bv⟩⟩
def ly (x cs w) (h:bx (ο w) w x cs) (hs:bK x):Calls prog 56 #[.agg cs.toArray] w (cf bx x w):=by
 obtain⟨b0,b1,b2,c0,c1,c2,rfl,hB,hN,hV,ay,aK,a9,aq,ao,aA,bz,aL⟩:=id h;have ak:∀wx,Below (ν w) w wx→(∀g,g < w.heap.size→∀q,wx.cell? (κ g q)=w.cell? (κ g q))∧∀g,g < w.heap.size→g < wx.heap.size:=fun wx aj=>⟨fun g hg q=>aj.cell (p:=κ g q) hg,fun g hg=>Za hg aj.size⟩;obtain⟨w1,ae,z1,af,O⟩:=al1 w 126 [ι x.th,.slice b0 x.bases.length c0,.slice b1 x.conds.length c1,ι x.fl,.bool x.parked,.bool x.done,ι x.br,ι x.v.kd,ι x.v.n,.slice b2 x.v.l.length c2,ι x.pa];obtain⟨G,ap⟩:∃u,w1.alloc θ4=u:=⟨_,rfl⟩;have z2:G.heap.size=w.heap.size+1+1:=by rw[←ap,←z1];simp
 have aa:Below (ν w) w G:=by rw[←ap];exact af.trans ((am w1 _).mono af.size)
 have O:A G (ν w) 126 [ι x.th,.slice b0 x.bases.length c0,.slice b1 x.conds.length c1,ι x.fl,.bool x.parked,.bool x.done,ι x.br,ι x.v.kd,ι x.v.n,.slice b2 x.v.l.length c2,ι x.pa]:=by rw[←ap];exact O.alloc _
 have Z:A G (η w) 126 [ι 0,ζ,ζ,ι 0,Δ,Δ,ι 0,ι 0,ι 0,ζ,ι 0]:=by rw[←ap,←z1];exact Zh w1 _ _
 have H1:=χ (fun wx (aj:Below (ν w) w wx)=>tN 85 x.bases b0 c0 wx (hB.et (ak wx aj).1 (ak wx aj).2 (fun _ _ hy=>hy.et (ak wx aj).1 (ak wx aj).2)) hs.2.1 Ψ (fun y cs L hy _ hP=>rn y cs L hP (hs.1 y hy)));have H2:=χ (fun wx (aj:Below (ν w) w wx)=>fI x.conds b1 c1 wx (hN.et (ak wx aj).1 (ak wx aj).2 fun _ _ hy=>hy) hs.2.2.1);have H3:=χ (fun wx (aj:Below (ν w) w wx)=>ce x.v _ wx hs.2.2.2 ((hV.et (ak wx aj).1).more (ak wx aj).2));have bB:=O.c 1 rfl;have ad:=aa;have K0:=χ O;have K1:=χ Z;clear O Z;go_enter func56,ntmps56;go_wp2_with first
  | (go_at_call 84;refine (H1.out _ ad).mono ?_
     rintro e E ⟨b3,c3,rfl,ac,aV,aC,aT⟩;have aM:=ad.trans (ac.mono ad.size);have P1:=χ aV;clear aV;have ab:=Z6 K0.out ac;have aF:=Z6 K1.out ac;obtain⟨-,-,bC,bv,a',-,-⟩:=kb2 ab;have az:=χ (show A (σ E (ν w) 1 (.slice b3 x.bases.length c3)) (w.heap.size) 126 [ι x.th,.slice b3 x.bases.length c3,.slice b1 x.conds.length c1,ι x.fl,.bool x.parked,.bool x.done,ι x.br,ι x.v.kd,ι x.v.n,.slice b2 x.v.l.length c2,ι x.pa] from aW (b:=0) [(1,.slice b3 x.bases.length c3)] _ _ ab);have aG:=χ (show A (σ E (ν w) 1 (.slice b3 x.bases.length c3)) (η w) 126 [ι 0,ζ,ζ,ι 0,Δ,Δ,ι 0,ι 0,ι 0,ζ,ι 0] from aF.fr (aE (S:=(·=w.heap.size)) rfl 0 [(1,.slice b3 x.bases.length c3)] E) ω);have z:Below (ν w) w (σ E (ν w) 1 (.slice b3 x.bases.length c3)):=Below.putAt (Zc _) 0 [(1,.slice b3 x.bases.length c3)] aM;have aS:=χ (show Fr (fun b=>b=w.heap.size∨b=w.heap.size+1) E (σ E (ν w) 1 (.slice b3 x.bases.length c3)) from aE (.inl rfl) 0 [(1,.slice b3 x.bases.length c3)] E)
     clear ab aF)
  | (go_at_call 86;refine (H2.out _ z).mono ?_
     rintro e M ⟨b4,c4,rfl,ah,aR,an,aJ⟩;have U:=z.trans (ah.mono z.size);have P2:=χ aR;have aO:=χ ah;clear aR;have ag:=Z6 az.out ah;have aB:=Z6 aG.out ah;obtain⟨-,-,-,-,bH,bA,-,-,-,-,-,-,-,-,bD,-,bR,-,bN,-,-⟩:=kb9 ag;have aD:=χ (show A (σ M (ν w) 2 (.slice b4 x.conds.length c4)) (w.heap.size) 126 [ι x.th,.slice b3 x.bases.length c3,.slice b4 x.conds.length c4,ι x.fl,.bool x.parked,.bool x.done,ι x.br,ι x.v.kd,ι x.v.n,.slice b2 x.v.l.length c2,ι x.pa] from aW (b:=0) [(2,.slice b4 x.conds.length c4)] _ _ ag);have ax:=χ (show A (σ M (ν w) 2 (.slice b4 x.conds.length c4)) (η w) 126 [ι 0,ζ,ζ,ι 0,Δ,Δ,ι 0,ι 0,ι 0,ζ,ι 0] from aB.fr (aE (S:=(·=w.heap.size)) rfl 0 [(2,.slice b4 x.conds.length c4)] M) ω);have J:Below (ν w) w (σ M (ν w) 2 (.slice b4 x.conds.length c4)):=Below.putAt (Zc _) 0 [(2,.slice b4 x.conds.length c4)] U;have aQ:=χ (show Fr (fun b=>b=w.heap.size∨b=w.heap.size+1) M (σ M (ν w) 2 (.slice b4 x.conds.length c4)) from aE (.inl rfl) 0 [(2,.slice b4 x.conds.length c4)] M)
     clear ag aB)
  | (go_at_call 40;refine (H3.out _ J).mono ?_
     rintro e V ⟨v',rfl,ai,H⟩;have aP:=J.trans (ai.mono J.size);obtain⟨I,c5,rfl,-⟩:=H.three;have P3:=χ H;have aY:=χ ai;clear H;have aw:=Z6 aD.out ai;have Y:=Z6 ax.out ai;obtain⟨bo,-,bj,-,bi,-,bc,-,bn,-,bl,-,a5,-,bt,bG,bw,bQ,aN,bJ,bM,-,-⟩:=kb10 aw;obtain⟨bf,a8,a4,bp,bg,a6,a3,a7,bb,bq,bd,be,a1,ba,bP,bF,bu,bE,bI,bO,bh,bL,-⟩:=kb10 Y;have aI:=χ (show A (σ (σ (σ V (ν w) 7 (ι x.v.kd)) (ν w) 8 (ι x.v.n)) (ν w) 9 (.slice I x.v.l.length c5)) (η w) 126 [ι 0,ζ,ζ,ι 0,Δ,Δ,ι 0,ι 0,ι 0,ζ,ι 0] from Y.fr (aE (S:=(·=w.heap.size)) rfl 0 [(7,ι x.v.kd),(8,ι x.v.n),(9,.slice I x.v.l.length c5)] V) ω);have a0:Below (ν w) w (σ (σ (σ V (ν w) 7 (ι x.v.kd)) (ν w) 8 (ι x.v.n)) (ν w) 9 (.slice I x.v.l.length c5)):=Below.putAt (Zc _) 0 [(7,ι x.v.kd),(8,ι x.v.n),(9,.slice I x.v.l.length c5)] aP;have aX:=χ (show Fr (fun b=>b=w.heap.size∨b=w.heap.size+1) V (σ (σ (σ V (ν w) 7 (ι x.v.kd)) (ν w) 8 (ι x.v.n)) (ν w) 9 (.slice I x.v.l.length c5)) from aE (.inl rfl) 0 [(7,ι x.v.kd),(8,ι x.v.n),(9,.slice I x.v.l.length c5)] V)
     clear aw Y)
 have hp:A (σ11 (σ (σ (σ V (ν w) 7 (ι x.v.kd)) (ν w) 8 (ι x.v.n)) (ν w) 9 (.slice I x.v.l.length c5)) (η w) (ι x.th) (.slice b3 x.bases.length c3) (.slice b4 x.conds.length c4) (ι x.fl) (.bool x.parked) (.bool x.done) (ι x.br) (ι x.v.kd) (ι x.v.n) (.slice I x.v.l.length c5) (ι x.pa)) (η w) 126 [ι x.th,.slice b3 x.bases.length c3,.slice b4 x.conds.length c4,ι x.fl,.bool x.parked,.bool x.done,ι x.br,ι x.v.kd,ι x.v.n,.slice I x.v.l.length c5,ι x.pa]:=aW (b:=0) [(0,ι x.th),(1,.slice b3 x.bases.length c3),(2,.slice b4 x.conds.length c4),(3,ι x.fl),(4,.bool x.parked),(5,.bool x.done),(6,ι x.br),(7,ι x.v.kd),(8,ι x.v.n),(9,.slice I x.v.l.length c5),(10,ι x.pa)] _ _ aI.out;have FF:Fr (fun b=>b=w.heap.size∨b=w.heap.size+1) (σ (σ (σ V (ν w) 7 (ι x.v.kd)) (ν w) 8 (ι x.v.n)) (ν w) 9 (.slice I x.v.l.length c5)) (σ11 (σ (σ (σ V (ν w) 7 (ι x.v.kd)) (ν w) 8 (ι x.v.n)) (ν w) 9 (.slice I x.v.l.length c5)) (η w) (ι x.th) (.slice b3 x.bases.length c3) (.slice b4 x.conds.length c4) (ι x.fl) (.bool x.parked) (.bool x.done) (ι x.br) (ι x.v.kd) (ι x.v.n) (.slice I x.v.l.length c5) (ι x.pa)):=aE (.inr rfl) 0 [(0,ι x.th),(1,.slice b3 x.bases.length c3),(2,.slice b4 x.conds.length c4),(3,ι x.fl),(4,.bool x.parked),(5,.bool x.done),(6,ι x.br),(7,ι x.v.kd),(8,ι x.v.n),(9,.slice I x.v.l.length c5),(10,ι x.pa)] _;have G3:=Y1 aX.out FF;have G2:=Y1 aQ.out (Y1 (ZA (S:=fun b=>b=w.heap.size∨b=w.heap.size+1) aY.out) G3);have G1:=Y1 aS.out (Y1 (ZA (S:=fun b=>b=w.heap.size∨b=w.heap.size+1) aO.out) G2)
 obtain⟨q1a,q1b⟩:=cV (B:=w.heap.size) G1 ((by omega:_ < G.heap.size)) ω ω;obtain⟨q2a,aH⟩:=cV (B:=w.heap.size) G2 (ZE az.out) (ZE aG.out) (z.size);obtain⟨aU,aZ⟩:=cV (B:=w.heap.size) G3 (ZE aD.out) (ZE ax.out) (J.size);exact Zl (v:= .agg #[ι x.th,.slice b3 x.bases.length c3,.slice b4 x.conds.length c4,ι x.fl,.bool x.parked,.bool x.done,ι x.br,ι x.v.kd,ι x.v.n,.slice I x.v.l.length c5,ι x.pa]) (by simp[results,results56,go_sem,hp.c 0 rfl,hp.c 1 rfl,hp.c 2 rfl,hp.c 3 rfl,hp.c 4 rfl,hp.c 5 rfl,hp.c 6 rfl,hp.c 7 rfl,hp.c 8 rfl,hp.c 9 rfl,hp.c 10 rfl]) rfl ⟨_,rfl,Below.putAt ω 0 [(0,ι x.th),(1,.slice b3 x.bases.length c3),(2,.slice b4 x.conds.length c4),(3,ι x.fl),(4,.bool x.parked),(5,.bool x.done),(6,ι x.br),(7,ι x.v.kd),(8,ι x.v.n),(9,.slice I x.v.l.length c5),(10,ι x.pa)] a0,⟨b3,b4,I,c3,c4,c5,rfl,P1.out.et q1a q1b (fun _ _ hy=>hy.et q1a q1b),P2.out.et q2a aH (fun _ _ hy=>hy),(P3.out.et aU).more aZ,ay,aK,a9,aq,aC,aT,an,aJ⟩⟩
def ZS:=@Below.putAt
end Go.Proofs.YtmchabopafimeaaGreatDoor
