import Derived.Test.YtmchabopafimeaaGreatDoorQak
namespace Go.Proofs.YtmchabopafimeaaGreatDoor
set_option maxRecDepth 100000
set_option maxHeartbeats 16000000
set_option linter.all false
open Go.RowKit Go.Sort Tryz
section
section
variable {o:ab} {w:World} {W Y:Nat} {m:aH} {aB aF aC:Value} {cs:List (Nat×Nat×Nat×Nat)} {ds:List (Nat×Nat)}
def sc (z:Wf o w) (hW:ai o w W m Y aB aF aC cs ds) (k x) (hx:m.sys[k]? =some x) (hs:bK x) (bw bn) (ao:A w bw 27 [aA W]) (aL:A w bn 3 [ι (k:Nat)]) :
  Calls prog 157 #[π bw,π bn] w (cf bx x w):=by
 have af:=am w (.cells #[ι 0,ζ,ζ,ι 0,Δ,Δ,ι 0,ι 0,ι 0,ζ,ι 0] 126);have Z:=Zh w 126 [ι 0,ζ,ζ,ι 0,Δ,Δ,ι 0,ι 0,ι 0,ζ,ι 0];have c0:=(ao.alloc θ4).c 0 rfl;have c1:=(aL.alloc θ4).c 0 rfl;unfold aA at c0;have a7:=hW.kept (kB z af) af.size fun _ _=>Zk;obtain⟨w1,ae⟩:∃u,w.alloc θ4=u:=⟨_,rfl⟩;rw[ae] at af Z c0 c1 a7;obtain⟨g,cap,rfl,hg,aU,aI,xs,a8,a4,aJ⟩:=a7.Cb hx;have hC:=iC a7 k (Ze.1 hx).1;obtain⟨b0,b1,b2,bJ,a',h,rfl,O⟩:=id a4;have g0:w1.cell? (κ g (k*11))=ι x.th:=aJ 0 ω;have g1:w1.cell? (κ g (k*11+1))=some (.slice b0 x.bases.length bJ):=aJ 1 ω;have g2:w1.cell? (κ g (k*11+2))=some (.slice b1 x.conds.length a'):=aJ 2 ω;have g3:w1.cell? (κ g (k*11+3))=ι x.fl:=aJ 3 ω;have g4:w1.cell? (κ g (k*11+4))=some (.bool x.parked):=aJ 4 ω;have g5:w1.cell? (κ g (k*11+5))=some (.bool x.done):=aJ 5 ω;have g6:w1.cell? (κ g (k*11+6))=ι x.br:=aJ 6 ω;have g7:w1.cell? (κ g (k*11+7))=ι x.v.kd:=aJ 7 ω;have g8:w1.cell? (κ g (k*11+8))=ι x.v.n:=aJ 8 ω;have g9:w1.cell? (κ g (k*11+9))=some (.slice b2 x.v.l.length h):=aJ 9 ω;have a0:w1.cell? (κ g (k*11+10))=ι x.pa:=aJ 10 ω;have bu:=χ (fun wx (hb:Below (ν w1) w1 wx)=>ly x _ wx (a4.et (fun q hq i=>hb.cell (p:=κ q i) hq.2) (fun q hq=>Za hq.2 hb.size)) hs);clear aJ a4 O aI hW a7 a8;have aY:=Z.lt;have K1:=χ Z;clear Z;go_enter func157,ntmps157;go_wp2_with first
  | (go_at_call 158;refine hC.mono ?_
     rintro e G ⟨rfl,aa⟩;have h0:=(aa.cell (p:=κ g (k*11)) hg).trans g0;have H:=(aa.cell (p:=κ g (k*11+1)) hg).trans g1;have h2:=(aa.cell (p:=κ g (k*11+2)) hg).trans g2;have h3:=(aa.cell (p:=κ g (k*11+3)) hg).trans g3;have h4:=(aa.cell (p:=κ g (k*11+4)) hg).trans g4;have h5:=(aa.cell (p:=κ g (k*11+5)) hg).trans g5;have h6:=(aa.cell (p:=κ g (k*11+6)) hg).trans g6;have h7:=(aa.cell (p:=κ g (k*11+7)) hg).trans g7;have M:=(aa.cell (p:=κ g (k*11+8)) hg).trans g8;have h9:=(aa.cell (p:=κ g (k*11+9)) hg).trans g9
     have U:=(aa.cell (p:=κ g (k*11+10)) hg).trans a0)
  | (go_at_call 56;refine (bu.out _ aa).mono ?_
     rintro e E ⟨ba,rfl,ac,aV⟩;have k3:=(Z6 K1.out aa).BE ac;have HS:=χ aV;obtain⟨I,a1,a2,d0,d1,d2,rfl,-⟩:=aV;obtain⟨r0,f0,r1,f1,r2,f2,r3,f3,r4,f4,r5,f5,r6,f6,r7,f7,r8,f8,r9,f9,ah,-,-⟩:=kb10 k3
     have a6:=k3.fz 10)
 have hp:A (σ11 E (ν w) (ι x.th) (.slice I x.bases.length d0) (.slice a1 x.conds.length d1) (ι x.fl) (.bool x.parked) (.bool x.done) (ι x.br) (ι x.v.kd) (ι x.v.n) (.slice a2 x.v.l.length d2) (ι x.pa)) (ν w) 126 [ι x.th,.slice I x.bases.length d0,.slice a1 x.conds.length d1,ι x.fl,.bool x.parked,.bool x.done,ι x.br,ι x.v.kd,ι x.v.n,.slice a2 x.v.l.length d2,ι x.pa]:=aW (b:=0) [(0,ι x.th),(1,.slice I x.bases.length d0),(2,.slice a1 x.conds.length d1),(3,ι x.fl),(4,.bool x.parked),(5,.bool x.done),(6,ι x.br),(7,ι x.v.kd),(8,ι x.v.n),(9,.slice a2 x.v.l.length d2),(10,ι x.pa)] _ _ k3;have aM:Below (ν w) w E:=af.trans ((aa.trans (ac.mono aa.size)).mono af.size);have hF:Fr (fun b=>b=w.heap.size∨b=w.heap.size) E (σ11 E (ν w) (ι x.th) (.slice I x.bases.length d0) (.slice a1 x.conds.length d1) (ι x.fl) (.bool x.parked) (.bool x.done) (ι x.br) (ι x.v.kd) (ι x.v.n) (.slice a2 x.v.l.length d2) (ι x.pa)):=aE (.inl rfl) 0 [(0,ι x.th),(1,.slice I x.bases.length d0),(2,.slice a1 x.conds.length d1),(3,ι x.fl),(4,.bool x.parked),(5,.bool x.done),(6,ι x.br),(7,ι x.v.kd),(8,ι x.v.n),(9,.slice a2 x.v.l.length d2),(10,ι x.pa)] E;obtain⟨q1,q2⟩:=cV (B:=w.heap.size) hF (Za aY aa.size:w.heap.size < G.heap.size) (Za aY aa.size) (Yx (Za aY aa.size))
 exact Zl (v:= .agg #[ι x.th,.slice I x.bases.length d0,.slice a1 x.conds.length d1,ι x.fl,.bool x.parked,.bool x.done,ι x.br,ι x.v.kd,ι x.v.n,.slice a2 x.v.l.length d2,ι x.pa]) (by simp[results,results157,go_sem,hp.c 0 rfl,hp.c 1 rfl,hp.c 2 rfl,hp.c 3 rfl,hp.c 4 rfl,hp.c 5 rfl,hp.c 6 rfl,hp.c 7 rfl,hp.c 8 rfl,hp.c 9 rfl,hp.c 10 rfl]) rfl ⟨_,rfl,ZS (Zc _) 0 [(0,ι x.th),(1,.slice I x.bases.length d0),(2,.slice a1 x.conds.length d1),(3,ι x.fl),(4,.bool x.parked),(5,.bool x.done),(6,ι x.br),(7,ι x.v.kd),(8,ι x.v.n),(9,.slice a2 x.v.l.length d2),(10,ι x.pa)] aM,HS.out.et q1 q2⟩
def w8 (x:cd) (r:Except Int (List Value)) (o:ab) (w:World):Prop:=match r with
 | .ok l=>bx (Fz o w) w x l
 | .error _=>False
def bx.agg {ok x l} (h:bx ok w x l):n7 l:=by obtain⟨b0,b1,b2,c0,c1,c2,rfl,-⟩:=h;exact⟨_,_,_,_,_,_,_,_,_,_,_,_,_,_,_,_,_,rfl⟩
def iH (x:cd) (o:ab) (w:World) (e:Ending) (w':World):Prop:=∃o',J (fun _=>False) o w o' w'∧∃cs,e= .returned (.tuple #[.agg cs.toArray,.bool true])∧bx (Fz o' w') w' x cs
def fq {n o o5 o' w V w7 w8} (z:Wf o w) (az:J Θ o w o5 V) (U:J Θ o5 V o' w7) (ad:n < V.heap.size) (af:o5 n=some n) (hn:w.heap.size≤n) (hR:Fr (·=n) w7 w8):J Θ o w o' w8∧aM (·≠n) o' w7 o' w8∧w7.heap.size≤w8.heap.size:=by have bh:=(z.BD az).BD U;have E:o' n=some n:=U.owned ad af fun h=>h;have hX:J (·=n) o' w7 o' w8:=Z9 bh hR fun x _ hx=>⟨n,by rw[hx];exact E,rfl⟩;exact⟨(az.same z U).trans z hX fun k hk e=>by omega,hX.et fun _ h=>h,hX.size⟩
def bx.kept {o o' w w' x cs K} (h:bx (Fz o w) w x cs) (I:aM K o w o' w') (hs:w.heap.size≤w'.heap.size):bx (Fz o' w') w' x cs:=h.et (fun _ hg q=>I.cell hg q) fun _ hg=>(I.fz hs hg).1
def wt (z:Wf o w) (hW:ai o w W m Y aB aF aC cs ds) (k x) (hx:m.sys[k]? =some x) (hs:bK x) :
  Calls prog 113 #[π W,ι (k:Nat)] w (iH x o w):=by
 refine yg ?_;intro u1 aN aq ac O u2 L aa aj Z au;replace O:=au _ _ _ O;clear au;have an:J Θ o w o u2:=Zb z aj;have aM:=z.BD an;obtain⟨V,aL⟩:∃u,u2.alloc θ4=u:=⟨_,rfl⟩;have ak:J Θ o u2 (o.set u2.heap.size (some u2.heap.size)) V:=by rw[←aL];exact ZJ aM _
 obtain⟨G,H⟩:∃n,u2.heap.size=n:=⟨_,rfl⟩;have k8:A V G 126 [ι 0,ζ,ζ,ι 0,Δ,Δ,ι 0,ι 0,ι 0,ζ,ι 0]:=by rw[←aL,←H];exact Zh _ _ _
 have af:(o.set u2.heap.size (some u2.heap.size)) G=some G:=by rw[H];exact Zw _ _ _
 have O:A V (w.heap.size) 27 [π W]:=by rw[←aL];exact O.alloc _
 have n0:(o.set u2.heap.size (some u2.heap.size)) (w.heap.size)=none:=by rw[ab.BG _ _ (by rw[aa];omega)];exact z.ge ω
 have Z:A V (η w) 3 [ι (k:Nat)]:=by rw[←aL];exact Z.alloc _
 have n1:(o.set u2.heap.size (some u2.heap.size)) (w.heap.size+1)=none:=by rw[ab.BG _ _ (by rw[aa];omega)];exact z.ge ω
 have az:=an.same z ak;have h5:=z.BD az;have aD:=hW.kept (az.kp) az.size fun _ _=>Zk;have aO:w.heap.size≤G:=by rw[←H,aa];omega
 have z8:G=w.heap.size+1+1:=by rw[←H];exact aa
 generalize o.set u2.heap.size (some u2.heap.size)=o5 at *
 have hP:=qj 157 #[ϖ w,π (η w)] (fun _=>False) (w8 x) o5 V h5 (fun _ h=>h.elim) (by
   intro r o w w' h I hs;cases r with
   | error k=>exact h
   | ok l=>exact h.kept I hs) (fun l o w h=>bx.agg h) Ψ (by
   have ag:=Yc h5 (.cells #[ι 0,ζ,ζ,ι 0,Δ,Δ,ι 0,ι 0,ι 0,ζ,ι 0] 126) (.cells #[ι 0] 33);have ax:=h5.BD ag;refine (sc ax (aD.kept (ag.kp) ag.size fun _ _=>Zk) k x hx hs _ _ (ag.frozen.BF O n0).1 (ag.frozen.BF Z n1).1).mono ?_;rintro e w9 ⟨aI,rfl,aT,E⟩
   exact⟨_,Zb ax aT,.ok aI,E.et (fun _ _ _=>rfl) (fun g hg=>Nw.fz ax hg),rfl⟩)
 have ad:G < V.heap.size:=k8.lt;clear an ak aM H O n0 Z n1;subst z8;go_enter func113,ntmps113;go_wp2_with fail;refine hP.mono ?_;rintro e w6 ⟨o6,a3,r,hR,he⟩;obtain⟨l,rfl⟩:∃l,r= .ok l:=by
  cases r with
  | error k=>exact hR.elim
  | ok l=>exact⟨l,rfl⟩
 obtain⟨x0,x1,n1,c1,x2,n2,c2,x3,x4,x5,x6,x7,x8,x9,n9,c9,U,rfl⟩:=bx.agg hR;obtain rfl:=he;have ao:A w6 (w.heap.size+1+1) 126 [ι 0,ζ,ζ,ι 0,Δ,Δ,ι 0,ι 0,ι 0,ζ,ι 0]:=(a3.fr.block _ ad (fun h=>h.elim fun _ h=>h.2)).trans k8;have M:=A.alloc ao (.cells #[ι x0,.slice x1 n1 c1,.slice x2 n2 c2,ι x3,.bool x4,.bool x5,ι x6,ι x7,ι x8,.slice x9 n9 c9,ι U] 126);obtain⟨r0,f0,r1,f1,r2,f2,r3,f3,r4,f4,r5,f5,r6,f6,r7,f7,r8,f8,r9,f9,ah,a6,-⟩:=kb10 M;have HR:=χ hR;have K7:=χ M;have kn:=Zh w6 126 [ι x0,.slice x1 n1 c1,.slice x2 n2 c2,ι x3,.bool x4,.bool x5,ι x6,ι x7,ι x8,.slice x9 n9 c9,ι U];have ae:=am w6 (.cells #[ι x0,.slice x1 n1 c1,.slice x2 n2 c2,ι x3,.bool x4,.bool x5,ι x6,ι x7,ι x8,.slice x9 n9 c9,ι U] 126);clear hR hP ao M;go_upto_region 2 with fail;generalize w6.alloc (.cells #[ι x0,.slice x1 n1 c1,.slice x2 n2 c2,ι x3,.bool x4,.bool x5,ι x6,ι x7,ι x8,.slice x9 n9 c9,ι U] 126)=w7 at *;obtain⟨l0,l1,l2,l3,l4,l5,l6,l7,l8,l9,aw,-⟩:=kc10 kn;have M:=K7.out;clear kn;go_wp2_with fail;have hp:A (σ11 w7 (w.heap.size+1+1) (ι x0) (.slice x1 n1 c1) (.slice x2 n2 c2) (ι x3) (.bool x4) (.bool x5) (ι x6) (ι x7) (ι x8) (.slice x9 n9 c9) (ι U)) (w.heap.size+1+1) 126 [ι x0,.slice x1 n1 c1,.slice x2 n2 c2,ι x3,.bool x4,.bool x5,ι x6,ι x7,ι x8,.slice x9 n9 c9,ι U]:=aW (b:=0) [(0,ι x0),(1,.slice x1 n1 c1),(2,.slice x2 n2 c2),(3,ι x3),(4,.bool x4),(5,.bool x5),(6,ι x6),(7,ι x7),(8,ι x8),(9,.slice x9 n9 c9),(10,ι U)] _ _ M;have aP:=h5.BD a3;have ap:J Θ o6 w6 o6 w7:=Zb aP ae
 obtain⟨t1,t2,t3⟩:=fq z az (a3.same h5 ap) ad af aO (aE (S:=(·=w.heap.size+1+1)) rfl 0 [(0,ι x0),(1,.slice x1 n1 c1),(2,.slice x2 n2 c2),(3,ι x3),(4,.bool x4),(5,.bool x5),(6,ι x6),(7,ι x7),(8,ι x8),(9,.slice x9 n9 c9),(10,ι U)] _);exact Zl (v:= .tuple #[.agg #[ι x0,.slice x1 n1 c1,.slice x2 n2 c2,ι x3,.bool x4,.bool x5,ι x6,ι x7,ι x8,.slice x9 n9 c9,ι U],Υ]) (by simp[results,results113,go_sem,hp.c 0 rfl,hp.c 1 rfl,hp.c 2 rfl,hp.c 3 rfl,hp.c 4 rfl,hp.c 5 rfl,hp.c 6 rfl,hp.c 7 rfl,hp.c 8 rfl,hp.c 9 rfl,hp.c 10 rfl]) rfl ⟨o6,t1,_,rfl,(bx.kept HR.out (ap.kp) ae.size).kept t2 t3⟩
end
end
section
section
variable {o:ab} {w:World} {W Y:Nat} {m:aH} {aB aF aC:Value} {cs:List (Nat×Nat×Nat×Nat)} {ds:List (Nat×Nat)}
def uj (y:V) (w:World) (e:Ending) (w':World):Prop:=∃ba,e= .returned (.agg ba.toArray)∧Below w.heap.size w w'∧a4 (Nw w.heap.size w') w' y ba
def Ae {p q:Prop} (k:q) (h:Zq q→p:=by
 intro mq;have hp:A (World.drew (σ7 M (ν w) (ι (k:Nat)) (ι x.th) (ι (br:Nat)) (ι x.fl) (ι bm.v.kd) (ι bm.v.n) (.slice a2 bm.v.l.length c2))) (ν w) 307 [ι (k:Nat),ι x.th,ι (br:Nat),ι x.fl,ι bm.v.kd,ι bm.v.n,.slice a2 bm.v.l.length c2]:=YC (aW (b:=0) [(0,ι (k:Nat)),(1,ι x.th),(2,ι (br:Nat)),(3,ι x.fl),(4,ι bm.v.kd),(5,ι bm.v.n),(6,.slice a2 bm.v.l.length c2)] _ _ L.out);have U:Below (ν w) w M:=af.trans (aQ.out.mono af.size);have J:Below (ν w) w (World.drew (σ7 M (ν w) (ι (k:Nat)) (ι x.th) (ι (br:Nat)) (ι x.fl) (ι bm.v.kd) (ι bm.v.n) (.slice a2 bm.v.l.length c2))):=(ZS (Zc _) 0 [(0,ι (k:Nat)),(1,ι x.th),(2,ι (br:Nat)),(3,ι x.fl),(4,ι bm.v.kd),(5,ι bm.v.n),(6,.slice a2 bm.v.l.length c2)] U).drew;revert hp U J
 exact mq.u):p:=h ⟨k⟩
def Af {p:Prop} (h:p:=by
 obtain⟨q1,q2⟩:=cV (B:=w.heap.size) aX ad ax ω
 exact Zl (v:= .agg (ε (k:Nat) x.th (br:Nat) x.fl bm.v a2 c2)) (by simp[results,results421,go_sem,hp.c 0 rfl,hp.c 1 rfl,hp.c 2 rfl,hp.c 3 rfl,hp.c 4 rfl,hp.c 5 rfl,hp.c 6 rfl]) rfl ⟨_,rfl,J,a2,c2,rfl,(aZ.out.et q1).more q2,a9,ay,ak,aK⟩):p:=h
def vj (z:Wf o w) (hW:ai o w W m Y aB aF aC cs ds) (k x) (hx:m.sys[k]? =some x) (br bm) (aP:x.bases[br]? =some bm) (hs:small bm.v=true) (bw bn bb) (ao:A w bw 27 [aA W]) (aL:A w bn 3 [ι (k:Nat)]) (aw:A w bb 3 [ι (br:Nat)]) :
  Calls prog 421 #[π bw,π bn,π bb] w (uj ⟨(k:Nat),x.th,(br:Nat),x.fl,bm.v⟩ w):=by
 have af:=am w (.cells #[ι 0,ι 0,ι 0,ι 0,ι 0,ι 0,ζ] 307);have Z:=Zh w 307 [ι 0,ι 0,ι 0,ι 0,ι 0,ι 0,ζ];have c0:=(ao.alloc θ).c 0 rfl;have c1:=(aL.alloc θ).c 0 rfl;have c2:=(aw.alloc θ).c 0 rfl;unfold aA at c0;have a7:=hW.kept (kB z af) af.size fun _ _=>Zk;obtain⟨O,ah⟩:∃u,w.alloc θ=u:=⟨_,rfl⟩;rw[ah] at af Z c0 c1 c2 a7;obtain⟨g,cap,rfl,hg,aU,aI,xs,a8,a4,aJ⟩:=a7.Cb hx;have hC:=iC a7 k (Ze.1 hx).1;obtain⟨b0,b1,b2,cb,a',h,rfl,hB,-,-,ay,aK,-,-,a3,bO,-⟩:=id a4;obtain⟨gb,ob,ys,rfl,aR,aj,ap,bg⟩:=hB br bm aP;obtain⟨av,aD,an,cv,cw,cn,rfl,hV,-⟩:=bg;have hbr:=(Ze.1 aP).1;have a9:ag (k:Nat):=by
  have H:=hW.ok.few;have h2:m.cells.length≤65536:=by obtain⟨vl,vc,nl,ys,ha⟩:=hW.ar;exact Zp ha.len ha.most2
  have:=(Ze.1 hx).1;unfold ag;omega
 have ak:ag (br:Nat):=by unfold ag maxLen at *;omega
 have aY:=Z.lt
 have HS:=χ (fun wx (hb:Below (ν O) O wx)=>(show wx.cell? (κ bb 0)=ι (br:Nat)∧wx.cell? (κ bn 0)=ι (k:Nat)∧wx.cell? (κ g (k*11))=ι x.th∧wx.cell? (κ g (k*11+1))=some (.slice (some ⟨gb,ob,none⟩) x.bases.length cb)∧wx.cell? (κ g (k*11+3))=ι x.fl∧wx.cell? (κ gb (ob+br*7+2))=ι bm.v.kd∧wx.cell? (κ gb (ob+br*7+3))=ι bm.v.n∧wx.cell? (κ gb (ob+br*7+4))=some (.slice av bm.v.l.length cv) from
   ⟨(hb.cell (p:=κ bb 0) (Za aw.lt af.size)).trans c2,(hb.cell (p:=κ bn 0) (Za aL.lt af.size)).trans c1,(hb.cell (p:=κ g (k*11)) hg).trans (aJ 0 ω),(hb.cell (p:=κ g (k*11+1)) hg).trans (aJ 1 ω),(hb.cell (p:=κ g (k*11+3)) hg).trans (aJ 3 ω),
    (hb.cell (p:=κ gb (ob+br*7+2)) aR.2).trans (ap 2 ω),(hb.cell (p:=κ gb (ob+br*7+3)) aR.2).trans (ap 3 ω),(hb.cell (p:=κ gb (ob+br*7+4)) aR.2).trans (ap 4 ω)⟩))
 have bu:=χ (fun wx (hb:Below (ν O) O wx)=>ce bm.v _ wx hs ((hV.et (fun q hq i=>hb.cell (p:=κ q i) hq.2)).more (fun q hq=>Za hq.2 hb.size)));have hR:=fun n wx=>cK n wx;obtain⟨nb,bt⟩:∃n,x.bases.length=n:=⟨_,rfl⟩;rw[bt] at HS hbr;have K1:=χ Z;clear Z aJ a4 hB ap hV aI hW a7 a8 bt hx aP a3 bO aj;go_enter func421,ntmps421;go_wp2_with (go_at_call 158;refine δ hC ?_;intro w1 aa);have aM:=aa.drew;have aV:=HS.out w1.drew aM;go_region_held3 (fun w'=>w'.cell? (κ bb 0)=ι (br:Nat)∧w'.cell? (κ g (k*11+1))=some (.slice (some ⟨gb,ob,none⟩) nb cb))
   (first | with_reducible exact⟨aV.1,aV.2.2.2.1⟩)
   (first
     | (go_at_call 172;(refine γ (hR 2 _) ?_;dsimp only)))
 go_wp2_with fail;have az:Below (ν O) O w1.drew.drew:=aM.drew;have aq:Below (ν O) O (w1.alloc θ1).drew.drew:=((aa.alloc aa.size _).drew).drew;have kA:=YC (YC (Zh w1 86 [ι 0,ι 0,ζ]));have aO:O.heap.size≤w1.heap.size:=aa.size;have KA:=χ kA;clear aV hC kA;go_region_held3 (fun w'=>w'.cell? (κ bb 0)=ι (br:Nat)∧w'.cell? (κ bn 0)=ι (k:Nat)∧w'.cell? (κ g (k*11))=ι x.th∧w'.cell? (κ g (k*11+1))=some (.slice (some ⟨gb,ob,none⟩) nb cb)∧w'.cell? (κ g (k*11+3))=ι x.fl∧w'.cell? (κ gb (ob+br*7+2))=ι bm.v.kd∧w'.cell? (κ gb (ob+br*7+3))=ι bm.v.n∧w'.cell? (κ gb (ob+br*7+4))=some (.slice av bm.v.l.length cv))
   (first | with_reducible exact HS.out _ az | with_reducible exact HS.out _ aq | with_reducible exact HS.out _ ac | with_reducible exact HS.out _ ba | with_reducible exact HS.out _ a0 | with_reducible exact HS.out _ a5)
   (first
     | (go_at_call 40;((first | (with_reducible refine (bu.out _ az).mono ?_;rintro e E ⟨v',rfl,a6,aN⟩;have ac:=az.trans (a6.mono az.size);have aT:=aN.more (ok':=Nw (ν O) E) (fun q hq=>⟨Zp az.size hq.1,hq.2⟩);have a1:True:=trivial;obtain⟨a2,c2,rfl,-⟩:=aN.three) | (with_reducible refine (bu.out _ aq).mono ?_;rintro e E ⟨v',rfl,a6,aN⟩;have ac:=aq.trans (a6.mono aq.size);have V:=Z6 KA.out a6;have bp:=V.c 0 rfl;have bl:=V.c 1 rfl;have bd:=V.c 2 rfl;have bf:=V.fz 0;have bo:=V.fz 1;have bh:=V.fz 2;have aT:=aN.more (ok':=Nw (ν O) E) (fun q hq=>⟨Zp aq.size hq.1,hq.2⟩);obtain⟨a2,c2,rfl,-⟩:=aN.three));have ba:Below (ν O) O (E.alloc θ1):=ac.alloc ac.size _;have kB:=Zh E 86 [ι 0,ι 0,ζ];have be:=kB.c 0 rfl;have bq:=kB.c 1 rfl;have bc:=kB.c 2 rfl;have bj:=kB.fz 0;have bi:=kB.fz 1;have bv:=kB.fz 2;have a0:Below (ν O) O (σ3 E (ν w1) (ι bm.v.kd) (ι bm.v.n) (.slice a2 bm.v.l.length c2)):=ZS aO 0 [(0,ι bm.v.kd),(1,ι bm.v.n),(2,.slice a2 bm.v.l.length c2)] ac;have a5:Below (ν O) O (E.alloc (υ bm.v a2 c2)):=ac.alloc ac.size _;dsimp only)))
 ·have kv:A (E.alloc (υ bm.v a2 c2)) (E.heap.size) 86 [ι bm.v.kd,ι bm.v.n,.slice a2 bm.v.l.length c2]:=Zh E 86 [ι bm.v.kd,ι bm.v.n,.slice a2 bm.v.l.length c2]
  have I:=a5;have zB:w1.drew.drew.heap.size=w1.heap.size:=rfl;have ax:w.heap.size < w1.drew.drew.heap.size:=ω;have ad:w.heap.size < w1.drew.drew.heap.size:=ω;have ae:Fr (fun b=>b=w.heap.size∨b=w.heap.size) E (E.alloc (υ bm.v a2 c2)):=Yp _;have G:aG (Nw w1.drew.drew.heap.size E) E bm.v (.agg (υ bm.v a2 c2)):=aN;clear zB;generalize w1.drew.drew.heap.size=B1 at G ad ax;generalize (E.alloc (υ bm.v a2 c2))=M at *;have k4:=Z6 K1.out I;obtain⟨s1,s2,s3,-,s5,-⟩:=HS.out M I;obtain⟨v0,v1,v2,-⟩:=kc2 kv;obtain⟨r0,f0,r1,f1,r2,f2,r3,f3,r4,f4,r5,f5,r6,f6,-⟩:=kb6 k4;have L:=χ k4;have aZ:=χ G;have aQ:=χ I;have aS:=χ ae;clear k4 kv aT aN G ae;go_wp2_with fail;go_region;go_wp2_with fail;refine Ae ?_;intro hp U J;have aX:Fr (fun b=>b=w.heap.size∨b=w.heap.size) E (World.drew (σ7 M (ν w) (ι (k:Nat)) (ι x.th) (ι (br:Nat)) (ι x.fl) (ι bm.v.kd) (ι bm.v.n) (.slice a2 bm.v.l.length c2))):=aS.out.same (Y1 (aE (.inl rfl) 0 [(0,ι (k:Nat)),(1,ι x.th),(2,ι (br:Nat)),(3,ι x.fl),(4,ι bm.v.kd),(5,ι bm.v.n),(6,.slice a2 bm.v.l.length c2)] M) Yn);exact Af
 ·have kv:A (σ3 E (ν w1) (ι bm.v.kd) (ι bm.v.n) (.slice a2 bm.v.l.length c2)) (w1.heap.size) 86 [ι bm.v.kd,ι bm.v.n,.slice a2 bm.v.l.length c2]:=aW (b:=0) [(0,ι bm.v.kd),(1,ι bm.v.n),(2,.slice a2 bm.v.l.length c2)] _ _ (Z6 KA.out a6)
  have I:=a0;have zB:(w1.alloc θ1).drew.drew.heap.size=w1.heap.size+1:=by show (w1.alloc _).heap.size=_;simp
  have ax:w1.heap.size < (w1.alloc θ1).drew.drew.heap.size:=ω;have ad:w.heap.size < (w1.alloc θ1).drew.drew.heap.size:=ω;have ae:Fr (fun b=>b=w.heap.size∨b=w1.heap.size) E (σ3 E (ν w1) (ι bm.v.kd) (ι bm.v.n) (.slice a2 bm.v.l.length c2)):=aE (.inr rfl) 0 [(0,ι bm.v.kd),(1,ι bm.v.n),(2,.slice a2 bm.v.l.length c2)] E;have G:aG (Nw (w1.alloc θ1).drew.drew.heap.size E) E bm.v (.agg (υ bm.v a2 c2)):=aN;clear zB;generalize (w1.alloc θ1).drew.drew.heap.size=B1 at G ad ax;generalize (σ3 E (ν w1) (ι bm.v.kd) (ι bm.v.n) (.slice a2 bm.v.l.length c2):World)=M at *;have k4:=Z6 K1.out I;obtain⟨s1,s2,s3,-,s5,-⟩:=HS.out M I;obtain⟨v0,v1,v2,-⟩:=kc2 kv;obtain⟨r0,f0,r1,f1,r2,f2,r3,f3,r4,f4,r5,f5,r6,f6,-⟩:=kb6 k4;have L:=χ k4;have aZ:=χ G;have aQ:=χ I;have aS:=χ ae;clear k4 kv aT aN G ae;go_wp2_with fail;go_region;go_wp2_with fail;refine Ae ?_;intro hp U J;have aX:Fr (fun b=>b=w.heap.size∨b=w1.heap.size) E (World.drew (σ7 M (ν w) (ι (k:Nat)) (ι x.th) (ι (br:Nat)) (ι x.fl) (ι bm.v.kd) (ι bm.v.n) (.slice a2 bm.v.l.length c2))):=aS.out.same (Y1 (aE (.inl rfl) 0 [(0,ι (k:Nat)),(1,ι x.th),(2,ι (br:Nat)),(3,ι x.fl),(4,ι bm.v.kd),(5,ι bm.v.n),(6,.slice a2 bm.v.l.length c2)] M) Yn);exact Af
def sZ (y:V) (r:Except Int (List Value)) (o:ab) (w:World):Prop:=match r with
 | .ok l=>a4 (Fz o w) w y l
 | .error _=>False
def a4.agg {ok y l} (h:a4 ok w y l):dG l:=by obtain⟨a,c,rfl,-⟩:=h;exact⟨_,_,_,_,_,_,_,_,_,rfl⟩
def nO (y:V) (o:ab) (w:World) (e:Ending) (w':World):Prop:=∃o',J (fun _=>False) o w o' w'∧∃cs,e= .returned (.tuple #[.agg cs.toArray,.int .i64 0])∧a4 (Fz o' w') w' y cs
def sN (z:Wf o w) (hW:ai o w W m Y aB aF aC cs ds) (k x) (hx:m.sys[k]? =some x) (br bm) (aP:x.bases[br]? =some bm) (hs:small bm.v=true) :
  Calls prog 373 #[π W,ι (k:Nat),ι (br:Nat)] w (nO ⟨(k:Nat),x.th,(br:Nat),x.fl,bm.v⟩ o w):=by
 refine yg ?_;intro u1 aN aq ac O u2 L aa aj Z au;replace O:=au _ _ _ O;clear au;obtain⟨u3,ap,aw,aK,k2,au⟩:=al2 aj aa 3 [ι (br:Nat)];replace O:=au _ _ _ O;replace Z:=au _ _ _ Z;clear au;have an:J Θ o w o u3:=Zb z aK;have aM:=z.BD an;obtain⟨V,aL⟩:∃u,u3.alloc θ=u:=⟨_,rfl⟩;have ak:J Θ o u3 (o.set u3.heap.size (some u3.heap.size)) V:=by rw[←aL];exact ZJ aM _
 obtain⟨G,H⟩:∃n,u3.heap.size=n:=⟨_,rfl⟩;have k8:A V G 307 [ι 0,ι 0,ι 0,ι 0,ι 0,ι 0,ζ]:=by rw[←aL,←H];exact Zh _ _ _
 have af:(o.set u3.heap.size (some u3.heap.size)) G=some G:=by rw[H];exact Zw _ _ _
 have O:A V (w.heap.size) 27 [π W]:=by rw[←aL];exact O.alloc _
 have n0:(o.set u3.heap.size (some u3.heap.size)) (w.heap.size)=none:=by rw[ab.BG _ _ (by rw[aw];omega)];exact z.ge ω
 have Z:A V (η w) 3 [ι (k:Nat)]:=by rw[←aL];exact Z.alloc _
 have n1:(o.set u3.heap.size (some u3.heap.size)) (w.heap.size+1)=none:=by rw[ab.BG _ _ (by rw[aw];omega)];exact z.ge ω
 have k2:A V (w.heap.size+1+1) 3 [ι (br:Nat)]:=by rw[←aL];exact k2.alloc _
 have n2:(o.set u3.heap.size (some u3.heap.size)) (w.heap.size+1+1)=none:=by rw[ab.BG _ _ (by rw[aw];omega)];exact z.ge ω
 have az:=an.same z ak;have h5:=z.BD az;have aD:=hW.kept (az.kp) az.size fun _ _=>Zk;have aO:w.heap.size≤G:=by rw[←H,aw];omega
 have z8:G=w.heap.size+1+1+1:=by rw[←H];exact aw
 generalize o.set u3.heap.size (some u3.heap.size)=o5 at *
 have hP:=te 421 #[ϖ w,π (η w),π (ς w)] (fun _=>False) (sZ ⟨(k:Nat),x.th,(br:Nat),x.fl,bm.v⟩) o5 V h5 (fun _ h=>h.elim) (by
   intro r o w w' h I hs;cases r with
   | error k=>exact h
   | ok l=>exact a4.kept h I hs) (fun l o w h=>a4.agg h) Ψ (by
   have ag:=Yc h5 (.cells #[ι 0,ι 0,ι 0,ι 0,ι 0,ι 0,ζ] 307) (.cells #[ι 0] 33);have ax:=h5.BD ag;refine (vj ax (aD.kept (ag.kp) ag.size fun _ _=>Zk) k x hx br bm aP hs _ _ _ (ag.frozen.BF O n0).1 (ag.frozen.BF Z n1).1 (ag.frozen.BF k2 n2).1).mono ?_;rintro e w9 ⟨aI,rfl,aT,E⟩
   exact⟨_,Zb ax aT,.ok aI,E.et (fun _ _ _=>rfl) (fun g hg=>Nw.fz ax hg),rfl⟩)
 have ad:G < V.heap.size:=k8.lt;clear an ak aM H O n0 Z n1 k2 n2;subst z8;go_enter func373,ntmps373;go_wp2_with fail;refine hP.mono ?_;rintro e w6 ⟨o6,a3,r,hR,he⟩;obtain⟨l,rfl⟩:∃l,r= .ok l:=by
  cases r with
  | error k=>exact hR.elim
  | ok l=>exact⟨l,rfl⟩
 obtain⟨x0,x1,x2,x3,x4,x5,x6,U,c6,rfl⟩:=a4.agg hR;obtain rfl:=he;have ao:A w6 (w.heap.size+1+1+1) 307 [ι 0,ι 0,ι 0,ι 0,ι 0,ι 0,ζ]:=(a3.fr.block _ ad (fun h=>h.elim fun _ h=>h.2)).trans k8;obtain⟨r0,f0,r1,f1,r2,f2,r3,f3,r4,f4,r5,f5,r6,f6,-⟩:=kb6 ao;have HR:=χ hR;have K8:=χ ao;clear hR hP ao;go_wp2_with fail;have hp:A (σ7 w6 (w.heap.size+1+1+1) (ι x0) (ι x1) (ι x2) (ι x3) (ι x4) (ι x5) (.slice x6 U c6)) (w.heap.size+1+1+1) 307 [ι x0,ι x1,ι x2,ι x3,ι x4,ι x5,.slice x6 U c6]:=aW (b:=0) [(0,ι x0),(1,ι x1),(2,ι x2),(3,ι x3),(4,ι x4),(5,ι x5),(6,.slice x6 U c6)] _ _ K8.out;obtain⟨t1,t2,t3⟩:=fq z az a3 ad af aO (aE (S:=(·=w.heap.size+1+1+1)) rfl 0 [(0,ι x0),(1,ι x1),(2,ι x2),(3,ι x3),(4,ι x4),(5,ι x5),(6,.slice x6 U c6)] w6);exact Zl (v:= .tuple #[.agg #[ι x0,ι x1,ι x2,ι x3,ι x4,ι x5,.slice x6 U c6],ι 0]) (by simp[results,results373,go_sem,hp.c 0 rfl,hp.c 1 rfl,hp.c 2 rfl,hp.c 3 rfl,hp.c 4 rfl,hp.c 5 rfl,hp.c 6 rfl]) rfl ⟨o6,t1,_,rfl,a4.kept HR.out t2 t3⟩
end
end
section
def qV:(prog.info? 116).map (fun i=>(i.zero,i.size,i.bytes))=some (some (.pointer none),1,8):=by kernel_rfl
def eu (B W:Nat) (m:aH) (x:Except Int Int) (L:List Nat) (r:Except Int Int) (o:ab) (w:World):Prop:=aT B W m L o w∧r=x
def eu.stays {W m} {x:Except Int Int} {L O} (hL:∀k∈L,k < O):dL O (O+1) (eu (O+2) W m x L):=by exact yQ
def eS:Except Int Int→Int
 | .ok n=>n
 | .error _=>0
def fb (W:Nat) (m:aH) (x:Except Int Int) (L:List Nat) (o:ab) (w:World) (e:Ending) (w':World):Prop:=∃o',J (·∈L) o w o' w'∧aT w.heap.size W m L o' w'∧e= .returned (.tuple #[.int .i64 (eS x),.int .i64 (code x)])
def lL (F:Nat) (caps W m') (x:Except Int Int) (L o w) (z:Wf o w) (hL:∀k∈L,k < w.heap.size) (hF:Λ F) (aG:∀o2 G,Wf o2 G→J Θ o w o2 G→G.heap.size=w.heap.size+2→Calls prog F caps G (bH (·∈L) (.int .i64) (eu (w.heap.size+2) W m' x L) o2 G)) :
  Calls prog 170 #[.func (.func F) #[] caps] w (fb W m' x L o w):=by
 have U:=Yc z (.cells #[ι 0] 3) (.cells #[ι 0] 33);refine (vz F caps (·∈L) (eu (w.heap.size+2) W m' x L) o w z hL (eu.stays hL) hF (aG _ _ (z.BD U) U ξ)).mono ?_;rintro e w1 ⟨o1,ak,r,⟨⟨L',H,h2⟩,h3⟩,he⟩;subst h3;refine⟨o1,ak,⟨L',H,fun k hk=>(h2 k hk).imp id fun h=>by omega⟩,?_⟩;cases r with
 | ok k=>exact he
 | error k=>exact he
def t0 (v w):Calls prog 173 #[v,ι 0] w (μ v w):=by have hR:=cK 0 w;go_enter func173,ntmps173;go_wp2_with (go_at_call 172;refine γ hR ?_);go_ret;exact⟨rfl,rfl⟩
def qd (v w):Calls prog 173 #[v,ι 6] w fun e w'=>e=eA 6∧w=w':=by have hR:=mS 6 w;unfold eA U at *;go_enter func173,ntmps173;go_wp2_with (go_at_call 172;refine γ hR ?_);exact⟨rfl,rfl,rfl⟩
section
variable {o:ab} {w:World} {W Y:Nat} {m:aH} {aB aF aC:Value} {cs:List (Nat×Nat×Nat×Nat)} {ds:List (Nat×Nat)}
def r8 (h:m.most - m.cells.length < 1):cw m=(.error 6,m):=by unfold cw eR Wm.bind;dsimp only;rw[if_pos h]
def xM (h:¬m.most - m.cells.length < 1):cw m=(.ok (m.chs.length:Int),{m with cells:=m.cells ++ List.replicate 1 0,chs:=m.chs ++ [⟨m.cells.length,[],[]⟩]}):=by unfold cw eR Wm.bind;dsimp only;rw[if_neg h]
def Ag {p q:Prop} (k:q) (h:Zq q→p:=by
 intro mq;refine bj [(0,true),(1,true),(2,true),(3,true),(4,true),(5,true),(6,true),(7,true),(8,true),(9,true),(10,false),(11,true),(12,true),(13,false),(14,false),(15,false),(16,false),(17,false),(18,false)] (fun w'=>w'.cell? (κ bw 0)=π W∧w'.cell? (κ W 0)=π Y∧w'.cell? (κ W 1)=some aB) ψ ψ ⟨c0,cA,L⟩ ?_;iterate 10 (refine wpC_t ?_;try go_frame)
 exact mq.u):p:=h ⟨k⟩
def o5 (z:Wf o w) (hW:ai o w W m Y aB aF aC cs ds) (hE:a6 o w) (ah:m.most - m.cells.length < 1) (bw B) (ao:A w bw 27 [aA W]) :
  Calls prog 171 #[π bw] w (bH (·∈wl W Y cs ds) (.int .i64) (eu B W m (.error 6) (wl W Y cs ds)) o w):=by
 have c0:=ao.c 0 rfl;obtain⟨cA,L,-⟩:=kc1 hW.blk;unfold aA at c0 cA;have hN:=fun wx (h:A wx W 113 [aA Y,aB,aF,aC])=>d3 W Y aB aF aC wx h;have hR:=cK 1;have hM:=mK o Y m.most m.cells m.cnt w.drew (z.below (Zj _ _).drew) (hW.ar.below z (Zj _ _).drew) (hE.kept ((tB z (Zj _ _).drew).kp));unfold hl at hM;simp only[ah,if_true] at hM;have hX:=qd;unfold eA U at hX;have bu:=hW.blk;have ac:=ao.lt;have af:=hW.blk.lt
 have bd:=χ (fun w1 (hb:Below w.drew.heap.size w.drew w1)=>(show ∃o',J (·∈wl W Y cs ds) o w o' w1∧aT B W m (wl W Y cs ds) o' w1 from
   ⟨o,Zb z ((Zj _ _).drew.trans hb),_,aI.below ⟨Y,aB,aF,aC,cs,ds,hW,rfl⟩ z ((Zj _ _).drew.trans hb),fun q hq=>.inl hq⟩))
 clear hW ah;go_enter func171,ntmps171;go_wp2_with first
  | (go_at_call 49;refine γ (hN _ bu) ?_)
  | (go_at_call 172;refine γ (hR _) ?_)
 refine Ag ?_;refine xP ?_;intro K I;go_at_call 174;refine δ hM ?_;intro w1 hb;refine I _ _ _ Φ (fun _=>⟨(hb.cell (p:=κ bw 0) ac).trans c0,(hb.cell (p:=κ W 0) af).trans cA,(hb.cell (p:=κ W 1) af).trans L⟩) ?_;clear I K;try go_frame
 iterate 2 (refine wpC_t ?_;try go_frame)
 refine xP ?_;intro K I;go_at_call 173;refine γ (hX _ _) ?_;obtain⟨o9,M,h9⟩:=bd.out _ hb;intro a9 aD;go_wp2_with fail;exact⟨aD,o9,M,.error 6,⟨h9,rfl⟩,rfl⟩
def v0 (z:Wf o w) (hW:ai o w W m Y aB aF aC cs ds) (hE:a6 o w) (ah:¬m.most - m.cells.length < 1) (bw B) (hB:B≤w.heap.size) (ao:A w bw 27 [aA W]) (aK:o bw=none) :
  Calls prog 171 #[π bw] w (bH (·∈wl W Y cs ds) (.int .i64) (eu B W {m with cells:=m.cells ++ List.replicate 1 0,chs:=m.chs ++ [⟨m.cells.length,[],[]⟩]} (.ok (m.chs.length:Int)) (wl W Y cs ds)) o w):=by
 have c0:=ao.c 0 rfl;obtain⟨cA,L,-⟩:=kc1 hW.blk;unfold aA at c0 cA;have hN:=fun wx (h:A wx W 113 [aA Y,aB,aF,aC])=>d3 W Y aB aF aC wx h;have hR:=cK 1;have aV:=z.below (Zj _ _).drew;have hM:=mK o Y m.most m.cells m.cnt w.drew aV (hW.ar.below z (Zj _ _).drew) (hE.kept ((tB z (Zj _ _).drew).kp));unfold hl at hM;simp only[ah,if_false] at hM;have hX:=t0;have bu:=hW.blk;have ac:=ao.lt;have af:=hW.blk.lt;have bW:=hW.lt;have aa:=hW.kept ((tB z (Zj _ _).drew).kp) (Zc _) fun _ _=>Zk;have Z:=hW.nd;have a1:W≠Y:=yU;have ce:=hW.ok.few;have aI:m.cells.length≤65536:=by obtain⟨vl,vc,nl,ys,ha⟩:=hW.ar;exact Zp ha.len ha.most2
 have a9:m.chs.length≤10000000000:=ω;have HK:=χ (fun (w':World) (h:w'.heap[bw]? =w.heap[bw]? ∧w'.heap[W]? =w.heap[W]?)=>(show w'.cell? (κ bw 0)=π W∧w'.cell? (κ W 0)=π Y∧w'.cell? (κ W 1)=some aB from⟨(aY h.1 0).trans c0,(aY h.2 0).trans cA,(aY h.2 _).trans L⟩));have U:=χ aa;have bi:=χ hW;obtain⟨n,hn⟩:∃n,m.chs.length=n:=⟨_,rfl⟩;have bY:n≤65536:=ω;clear hW aa Z bu;have bu:=bi.out.blk;go_enter func171,ntmps171;go_wp2_with first
  | (go_at_call 49;refine γ (hN _ bu) ?_)
  | (go_at_call 172;refine γ (hR _) ?_)
 refine Ag ?_;refine xP ?_;intro K I;go_at_call 174;refine hM.mono ?_;rintro e w1 ⟨o1,c,mm,sq,rq,rfl,ak,aJ,ad,n1,n2,n3,n4⟩;have ae:=aV.BD ak;have bD:=ak.et (K:=(·≠Y)) fun _ h=>h;have aS:w1.heap[bw]? =w.heap[bw]? ∧w1.heap[W]? =w.heap[W]? :=⟨(bD bw ac (fun q hq=>by rw[aK] at hq;cases hq)).1,(bD W af (fun q hq=>by rw[bi.out.own] at hq;cases hq;exact a1)).1⟩;have bR:o1 bw=none:=(bD bw ac (fun q hq=>by rw[aK] at hq;cases hq)).2.trans aK;have E:=ak.size;have a7:=U.out.Cn 1 ak aJ;refine I _ _ _ Φ (fun _=>HK.out w1 aS) ?_;clear I K;try go_frame
 iterate 2 (refine wpC_t ?_;try go_frame)
 refine xP ?_;intro K I;go_at_call 173;refine γ (hX _ _) ?_;refine I _ _ _ Φ (fun _=>HK.out w1 aS) ?_;clear I K;refine xR ?_;intro K I;have aj:=am w1 (.cells #[π c] 116);have a':(w1.alloc (.cells #[π c] 116)).heap[bw]? =w.heap[bw]? ∧(w1.alloc (.cells #[π c] 116)).heap[W]? =w.heap[W]? :=⟨(aj.block _ (Za ac E)).trans aS.1,(aj.block _ (Za af E)).trans aS.2⟩;have aW:(w1.alloc (.cells #[π c] 116)).heap[w1.heap.size]? =some (.cells ([.pointer (some ⟨c,0,none⟩)]:List Value).toArray 116 (0,0)):=Zh w1 116 [π c];have aD:=a7.kept (kB ae aj) aj.size fun _ _=>Zk;have ay:=ad.below ae aj;have ap:=ae.below aj;refine I _ _ _ Φ (fun _=>HK.out _ a') ?_;clear I K;try go_frame
 refine aN rfl (fun K I=>?_);have aE:=aD.rch.row;refine hT _ (by rfl) _ _ 109 116 _ 1 8 underlying109 qV rfl φ φ (by rfl) aB _ _ (by rfl) aE (ν w1) [π c] (by rfl) aW rfl (by intro u hu;rw[List.mem_singleton.1 hu];rfl) (by show (m.chs).length≤_;omega) ?_;intro g5 a0 V H h2 h3 h4;generalize w1.alloc (.cells #[π c] 116)=G at *;have cb:∀q,aB.ownBlock=some q→q≠bw:=fun q hq e=>by have:=aD.rch.own q hq;rw[e,bR] at this;cases this
 have aX:V.heap[bw]? =w.heap[bw]? ∧V.heap[W]? =w.heap[W]? :=
  ⟨(h2.block bw (Za (Za ac E) aj.size) (fun e=>cb bw e.symm rfl)).trans a'.1,(h2.block W (Za (Za af E) aj.size) (fun e=>bq aD.blk aD.rch.row φ e.symm)).trans a'.2⟩
 refine I _ _ _ Φ (fun _=>HK.out _ aX) ?_;clear I K;refine xR ?_;intro K I;refine I _ _ _ Φ (fun _=>HK.out _ aX) ?_;clear I K;refine xR ?_;intro K I;refine I _ _ _ Φ (fun _=>HK.out _ aX) ?_;clear I K;try go_frame
 have bZ:V.cell? (κ W 1)=some aB:=(HK.out _ aX).2.2;have b1:V.frozen? (κ W 1)=false:=by rw[show V.frozen? (κ W 1)=w.frozen? (κ W 1) by simp[World.frozen?,aX.2]];exact bi.out.blk.fz _
 have b0:V.cell? (κ bw 0)=π W:=(HK.out _ aX).1
 have bd:=χ (show ∃o',J (·∈wl W Y cs ds) o w o' (σ V W 1 (.slice (Γ g5) (n+1) a0):World)∧aT B W {m with cells:=m.cells ++ List.replicate 1 0,chs:=m.chs ++ [⟨m.cells.length,[],[]⟩]} (wl W Y cs ds) o' (σ V W 1 (.slice (Γ g5) (n+1) a0)) from by
   have aq:(m.cells ++ List.replicate 1 0).length=m.cells.length+1:=by simp
   have aZ:∀q,w.heap.size≤q→q∉wl W Y cs ds:=fun q hq h=>by have:=bW q h;omega
   obtain⟨t1,t2⟩:=aD.Cu ap (c:=(c,mm,sq,rq)) (x:=⟨m.cells.length,[],[]⟩) H h2 h3 ay (aZ _ n3) (aZ _ n4) ay.ne (by show _ < (m.cells ++ List.replicate 1 0).length;rw[aq];exact Nat.lt_succ_self _) (by show _≤(m.cells ++ List.replicate 1 0).length;rw[aq];show m.chs.length+2*m.cos.length+m.sys.length+1≤_;omega);rw[show (m.chs).length=n from hn] at t1 t2;have ag:J (·∈wl W Y cs ds) o w o1 G:=((Zb (D:=(·=Y)) z (Zj _ _).drew).same z (ak.same aV (Zb ae aj))).more z fun q _ e=>by rw[e];exact gN
   refine⟨_,ag.same z (t1.more ap fun q _ e=>by rw[e];exact eD),_,⟨Y,_,_,aC,_,_,t2,rfl⟩,fun O hq=>?_⟩;unfold wl at hq ⊢;rw[List.flatMap_append,List.flatMap_singleton] at hq;simp only[List.mem_cons,List.mem_append,List.not_mem_nil,or_false] at hq ⊢;have an:w.heap.size≤sq:=n3;have aw:w.heap.size≤rq:=n4;rcases hq with h | h | (h | h | h) | h
   ·exact .inl (.inl h)
   ·exact .inl (.inr (.inl h))
   ·exact .inl (.inr (.inr (.inl h)))
   ·right;rw[h];omega
   ·right;rw[h];omega
   ·exact .inl (.inr (.inr (.inr h))))
 refine xY ?_;clear H h2 h3 h4 aE aW aD ay a7 aJ ad aX a' aS L cA c0 hM;go_wp2_with fail;go_ret;obtain⟨o9,M,h9⟩:=bd.out;exact⟨o9,M,.ok (n:Int),⟨h9,by rw[hn]⟩,rfl⟩
end
section
end
section
variable {o:ab} {w:World} {W Y:Nat} {m:aH} {aB aF aC:Value} {cs:List (Nat×Nat×Nat×Nat)} {ds:List (Nat×Nat)}
def ta {o w W Y m aB aF aC cs ds} (z:Wf o w) (hW:ai o w W m Y aB aF aC cs ds) (hE:a6 o w) :
  Calls prog 132 #[π W] w (fb W (cw m).2 (cw m).1 (wl W Y cs ds) o w):=by
 obtain⟨u1,aN,aq,ac,O⟩:=al1 w 27 [π W];have n0:o (w.heap.size)=none:=z.ge ω;have an:J Θ o w o u1:=Zb z ac;have aM:=z.BD an;have A:=hW.kept (an.kp) ac.size fun _ _=>Zk;have G:=hE.kept (an.kp)
 have I:=lL 171 #[ϖ w] W (cw m).2 (cw m).1 (wl W Y cs ds) o u1 aM A.lt Ψ (fun o3 E ax ag aT=>by
   by_cases ah:m.most - m.cells.length < 1
   ·rw[r8 ah]
    exact o5 ax (A.kept (ag.kp) ag.size fun _ _=>Zk) (G.kept (ag.kp)) ah _ _ (ag.frozen.BF O n0).1
   ·rw[xM ah]
    exact v0 ax (A.kept (ag.kp) ag.size fun _ _=>Zk) (G.kept (ag.kp)) ah _ _ ω (ag.frozen.BF O n0).1 (ag.frozen.BF O n0).2)
 have a8:=ac.size;have HT:=χ an;clear an aM A O n0 G;go_enter func132,ntmps132;go_wp2_with fail;refine I.mono ?_;rintro e M ⟨o4,ao,⟨L',H,h2⟩,rfl⟩;have hF:fb W (cw m).2 (cw m).1 (wl W Y cs ds) o w (.returned (.tuple #[ι (eS (cw m).1),ι (code (cw m).1)])) M:=
  ⟨o4,(HT.out.more z fun _ _ h=>h.elim).same z ao,⟨L',H,fun q hq=>(h2 q hq).imp id fun h=>Zp a8 h⟩,rfl⟩
 generalize eS (cw m).1=r1 at hF ⊢;generalize code (cw m).1=r2 at hF ⊢;clear I ao H h2;go_wp2_with fail
 first
  | (go_ret2;exact hF)
  | exact Zl (v:= .tuple #[ι r1,ι r2]) (by simp[results,results132,go_sem]) rfl hF
end
end
section
def h {P T K an} {Z:IntKind} (U:P.underlying T=some (.map K an)) (I:P.underlying K=some (.int Z)) {O w B m z} {es:Array MapEntry} (i v) (hb:Below B O w) (hm:B≤m) (M:w.heap[m]? =some (.map es z)) (hf:Instr.findNow (.int Z) (.int Z i) es.toList 0=some none) :
  ∃w',(Instr.mapUpdate T (.map (some m)) (.int Z i) v).run P w= .ok () w'∧w'.heap[m]? =some (.map (es.push ⟨.int Z i,v,z⟩) (z+1))∧Below B O w':=
 ⟨_,i8 U I M hf,kw (aO M) _,qU hb hm _⟩
def iL:Nat→List (Int×Nat)→List MapEntry
 | _,[]=>[]
 | n,p :: r=>⟨.int .i64 p.1,.func (.func p.2) #[] #[],n⟩ :: iL (n+1) r
def H (w:World) (m:Nat) (l:List (Int×Nat)):Prop:=∃z,w.heap[m]? =some (.map (iL 0 l).toArray z)
def H.below {w w' m l} (h:H w m l) (hb:Below (ν w) w w'):H w' m l:=by obtain⟨c,h⟩:=h;exact⟨c,(hb.block m (aO h)).trans h⟩
def H.look {P T K an} (U:P.underlying T=some (.map K an)) (I:P.underlying K=some (.int .i64)) {w m l} (h:H w m l) {i} {f j:Nat} (hf:Instr.findNow (.int .i64) (ι i) (iL 0 l) 0=some (some (j,.func (.func f) #[] #[]))) :
  (Instr.lookup T (.map (some m)) (ι i) true).run P w= .ok (.tuple #[.func (.func f) #[] #[],Υ]) w:=by obtain⟨c,h⟩:=h;exact (f3 U I h hf).2
def jT (k n a l c) (hk:k=0) (hn:n=0) (hl:l=0) (w):Calls prog 302 #[.agg #[ι k,ι n,.slice a l c]] w (ϑ (.bool true) w):=by subst hk hn hl;have hb:=am w (.cells #[ι 0,ι 0,.slice a 0 c] 86);go_enter func302,ntmps302;go_wp2_with fail;go_ret;exact⟨rfl,hb⟩
def iu:List (Int×Nat):=[(5,274),(6,275),(7,276),(8,277),(13,278)]
def ym {p q:Prop} (k:q) (h:Zq q→p:=by
 intro mq;have am:=@run_makeMap prog;have az:=dF w (.map #[] 0);have A:=ZP w (.map #[] 0);revert am az A
 exact mq.u):p:=h ⟨k⟩
def pH (w):Calls prog 253 #[] w fun e w'=>e= .returned (.map (some w.heap.size))∧H w' (ν w) iu∧Below (ν w) w w':=by refine ym ?_;intro am az A;obtain⟨w1,ay,O,af⟩:=h (P:=prog) underlying392 underlying83 5 (.func (.func 274) #[] #[]) az (Zc _) A rfl;obtain⟨G,aK,z,aa⟩:=h (P:=prog) underlying392 underlying83 6 (.func (.func 275) #[] #[]) af (Zc _) O rfl;obtain⟨E,a9,J,ac⟩:=h (P:=prog) underlying392 underlying83 7 (.func (.func 276) #[] #[]) aa (Zc _) z rfl;obtain⟨M,aq,I,ah⟩:=h (P:=prog) underlying392 underlying83 8 (.func (.func 277) #[] #[]) ac (Zc _) J rfl;obtain⟨V,ak,aj,ai⟩:=h (P:=prog) underlying392 underlying83 13 (.func (.func 278) #[] #[]) ah (Zc _) I rfl;have hF:H V (ν w) iu:=⟨_,aj⟩;clear A O z J I aj az af aa ac ah;go_enter func253,ntmps253;go_wp2_with fail;go_ret;exact⟨rfl,hF,ai⟩
section
variable {o:ab} {w:World} {W Y:Nat} {m:aH} {aB aF aC:Value} {cs:List (Nat×Nat×Nat×Nat)} {ds:List (Nat×Nat)}
def yv {p q:Prop} (k:q) (h:Zq q→p:=by
 intro mq;have af:=am w (.cells #[ι b.kd,ι b.n,ι b.v.kd,ι b.v.n,.slice av b.v.l.length cv,.slice aD b.wr.length cw,.slice an b.nk.length cn] 194);have Z:=Zh w 194 [ι b.kd,ι b.n,ι b.v.kd,ι b.v.n,.slice av b.v.l.length cv,.slice aD b.wr.length cw,.slice an b.nk.length cn];revert af Z
 exact mq.u):p:=h ⟨k⟩
def Ah {p q:Prop} (k:q) (h:Zq q→p:=by
 intro mq;have HS:=χ (fun wx (hb:Below (w.alloc (ρ b av cv aD cw an cn)).heap.size (w.alloc (ρ b av cv aD cw an cn)) wx)=>(show wx.cell? (κ (ν w) 1)=ι b.n∧wx.cell? (κ (ν w) 2)=ι b.v.kd∧wx.cell? (κ (ν w) 3)=ι b.v.n∧wx.cell? (κ (ν w) 4)=some (.slice av b.v.l.length cv)∧wx.cell? (κ W 1)=some (.slice ar I cr) from⟨(hb.cell (p:=κ (ν w) 1) Z.lt).trans (Z.c 1 rfl),(hb.cell (p:=κ (ν w) 2) Z.lt).trans (Z.c 2 rfl),(hb.cell (p:=κ (ν w) 3) Z.lt).trans (Z.c 3 rfl),(hb.cell (p:=κ (ν w) 4) Z.lt).trans (Z.c 4 rfl),(hb.cell (p:=κ W 1) a8).trans L⟩));revert HS
 exact mq.u):p:=h ⟨k⟩
def yV {p:Prop} (h:p:=by
 go_wp2_with fail;go_ret
 exact⟨rfl,af.trans ((Below.trans (Zj _ _).drew ac).mono af.size)⟩):p:=h
def u4 (hW:ai o w W m Y aB aF aC cs ds) (b:bI) (av aD an cv cw cn) (aw:0≤b.n) (aN:b.n < m.chs.length) (hv:right b.v=true) (hV:aG (ο w) w b.v (.agg (υ b.v av cv))) :
  Calls prog 274 #[π W,.agg (ρ b av cv aD cw an cn)] w (ϑ (.bool true) w):=by
 refine yv ?_;intro af Z;obtain⟨ar,cr,rfl,-⟩:=hW.rch.row.form;have L:=(hW.blk.alloc (ρ b av cv aD cw an cn)).c 1 rfl;have a8:W < (w.alloc (ρ b av cv aD cw an cn)).heap.size:=(hW.blk.alloc (ρ b av cv aD cw an cn)).lt;obtain⟨I,az⟩:∃n,m.chs.length=n:=⟨_,rfl⟩;rw[az] at L aN;clear az;have HC:=χ (fun wx (hb:Below (ν w) w wx)=>fQ b.v _ wx ((hV.et fun q hq i=>hb.cell (p:=κ q i) hq).more fun q hq=>Za hq hb.size));rw[hv] at HC;clear hV hv;clear hW;refine Ah ?_;intro HS;go_enter func274,ntmps274;have aV:=HS.out _ (Zj _ (w.alloc (ρ b av cv aD cw an cn))).drew;go_wp2_with fail;go_region_held3 (fun w'=>w'.cell? (κ (ν w) 1)=ι b.n∧w'.cell? (κ (ν w) 2)=ι b.v.kd∧w'.cell? (κ (ν w) 3)=ι b.v.n∧w'.cell? (κ (ν w) 4)=some (.slice av b.v.l.length cv)∧w'.cell? (κ W 1)=some (.slice ar I cr))
   (first | with_reducible exact aV | with_reducible exact a5)
   (first
     | (go_at_call 122;(refine δ (HC.out _ af.drew) ?_;intro E ac;have a5:=HS.out E ((Zj _ _).drew.trans ac);dsimp only)))
 exact yV
def rS (hW:ai o w W m Y aB aF aC cs ds) (b:bI) (av aD an cv cw cn) (aw:0≤b.n) (aN:b.n < m.chs.length) (hz:cL b.v=true) :
  Calls prog 275 #[π W,.agg (ρ b av cv aD cw an cn)] w (ϑ (.bool true) w):=by
 refine yv ?_;intro af Z;obtain⟨ar,cr,rfl,-⟩:=hW.rch.row.form;have L:=(hW.blk.alloc (ρ b av cv aD cw an cn)).c 1 rfl;have a8:W < (w.alloc (ρ b av cv aD cw an cn)).heap.size:=(hW.blk.alloc (ρ b av cv aD cw an cn)).lt;obtain⟨I,az⟩:∃n,m.chs.length=n:=⟨_,rfl⟩;rw[az] at L aN;clear az;have HC:=χ (fun (wx:World)=>jT b.v.kd b.v.n av b.v.l.length cv (by simp[cL] at hz;exact hz.1.1) (by simp[cL] at hz;exact hz.1.2) (by simp[cL] at hz;rw[hz.2];rfl) wx);clear hz;clear hW;refine Ah ?_;intro HS;go_enter func275,ntmps275;have aV:=HS.out _ (Zj _ (w.alloc (ρ b av cv aD cw an cn))).drew;go_wp2_with fail;go_region_held3 (fun w'=>w'.cell? (κ (ν w) 1)=ι b.n∧w'.cell? (κ (ν w) 2)=ι b.v.kd∧w'.cell? (κ (ν w) 3)=ι b.v.n∧w'.cell? (κ (ν w) 4)=some (.slice av b.v.l.length cv)∧w'.cell? (κ W 1)=some (.slice ar I cr))
   (first | with_reducible exact aV | with_reducible exact a5)
   (first
     | (go_at_call 302;(refine δ (HC.out _) ?_;intro E ac;have a5:=HS.out E ((Zj _ _).drew.trans ac);dsimp only)))
 exact yV
def Ai {p q:Prop} (k:q) (h:Zq q→p:=by
 intro mq;have aO:(w.alloc (.cells #[ι b.kd,ι 0,ι b.v.kd,ι b.v.n,.slice av b.v.l.length cv,.slice aD b.wr.length cw,.slice an b.nk.length cn] 194)).cell? (κ (ν w) 1)=ι 0∧(w.alloc (.cells #[ι b.kd,ι 0,ι b.v.kd,ι b.v.n,.slice av b.v.l.length cv,.slice aD b.wr.length cw,.slice an b.nk.length cn] 194)).cell? (κ (ν w) 2)=ι b.v.kd∧(w.alloc (.cells #[ι b.kd,ι 0,ι b.v.kd,ι b.v.n,.slice av b.v.l.length cv,.slice aD b.wr.length cw,.slice an b.nk.length cn] 194)).cell? (κ (ν w) 3)=ι b.v.n∧(w.alloc (.cells #[ι b.kd,ι 0,ι b.v.kd,ι b.v.n,.slice av b.v.l.length cv,.slice aD b.wr.length cw,.slice an b.nk.length cn] 194)).cell? (κ (ν w) 4)=some (.slice av b.v.l.length cv):=⟨Z.c 1 rfl,Z.c 2 rfl,Z.c 3 rfl,Z.c 4 rfl⟩;revert aO
 exact mq.u):p:=h ⟨k⟩
def Aj {p q:Prop} (k:q) (h:Zq q→p:=by
 intro mq;rw[hn];have af:=am w (.cells #[ι b.kd,ι 0,ι b.v.kd,ι b.v.n,.slice av b.v.l.length cv,.slice aD b.wr.length cw,.slice an b.nk.length cn] 194);have Z:=Zh w 194 [ι b.kd,ι 0,ι b.v.kd,ι b.v.n,.slice av b.v.l.length cv,.slice aD b.wr.length cw,.slice an b.nk.length cn];revert af Z
 exact mq.u):p:=h ⟨k⟩
def wq (b:bI) (av aD an cv cw cn) (hn:b.n=0) (hv:right b.v=true) (hV:aG (ο w) w b.v (.agg (υ b.v av cv))) :
  Calls prog 276 #[π W,.agg (ρ b av cv aD cw an cn)] w (ϑ (.bool true) w):=by refine Aj ?_;intro af Z;clear hn;have HC:=χ (fun wx (hb:Below (ν w) w wx)=>fQ b.v _ wx ((hV.et fun q hq i=>hb.cell (p:=κ q i) hq).more fun q hq=>Za hq hb.size));rw[hv] at HC;clear hV hv;refine Ai ?_;intro aO;go_enter func276,ntmps276;obtain⟨s1,s2,s3,s4⟩:=aO;go_wp2_with (go_at_call 122;refine δ (HC.out _ af) ?_;intro E ac);go_ret;exact⟨rfl,af.trans (ac.mono af.size)⟩
def uy (b:bI) (av aD an cv cw cn) (hn:b.n=0) (hz:cL b.v=true) :
  Calls prog 277 #[π W,.agg (ρ b av cv aD cw an cn)] w (ϑ (.bool true) w):=by refine Aj ?_;intro af Z;clear hn;have HC:=χ (fun (wx:World)=>jT b.v.kd b.v.n av b.v.l.length cv (by simp[cL] at hz;exact hz.1.1) (by simp[cL] at hz;exact hz.1.2) (by simp[cL] at hz;rw[hz.2];rfl) wx);clear hz;refine Ai ?_;intro aO;go_enter func277,ntmps277;obtain⟨s1,s2,s3,s4⟩:=aO;go_wp2_with (go_at_call 302;refine δ (HC.out _) ?_;intro E ac);go_ret;exact⟨rfl,af.trans (ac.mono af.size)⟩
def vE (hW:ai o w W m Y aB aF aC cs ds) (b:bI) (av aD an cv cw cn) (aw:0≤b.n) (aN:b.n < m.cos.length) (hz:cL b.v=true) :
  Calls prog 278 #[π W,.agg (ρ b av cv aD cw an cn)] w (ϑ (.bool true) w):=by
 refine yv ?_;intro af Z;obtain⟨ar,cr,rfl,-⟩:=hW.rco.row.form;have L:=(hW.blk.alloc (ρ b av cv aD cw an cn)).c 2 rfl;have a8:W < (w.alloc (ρ b av cv aD cw an cn)).heap.size:=(hW.blk.alloc (ρ b av cv aD cw an cn)).lt;obtain⟨I,az⟩:∃n,m.cos.length=n:=⟨_,rfl⟩;rw[az] at L aN;clear az;have HC:=χ (fun (wx:World)=>jT b.v.kd b.v.n av b.v.l.length cv (by simp[cL] at hz;exact hz.1.1) (by simp[cL] at hz;exact hz.1.2) (by simp[cL] at hz;rw[hz.2];rfl) wx);clear hz;clear hW;have HS:=χ (fun wx (hb:Below (w.alloc (ρ b av cv aD cw an cn)).heap.size (w.alloc (ρ b av cv aD cw an cn)) wx)=>(show wx.cell? (κ (ν w) 1)=ι b.n∧wx.cell? (κ (ν w) 2)=ι b.v.kd∧wx.cell? (κ (ν w) 3)=ι b.v.n∧wx.cell? (κ (ν w) 4)=some (.slice av b.v.l.length cv)∧wx.cell? (κ W 2)=some (.slice ar I cr) from⟨(hb.cell (p:=κ (ν w) 1) Z.lt).trans (Z.c 1 rfl),(hb.cell (p:=κ (ν w) 2) Z.lt).trans (Z.c 2 rfl),(hb.cell (p:=κ (ν w) 3) Z.lt).trans (Z.c 3 rfl),(hb.cell (p:=κ (ν w) 4) Z.lt).trans (Z.c 4 rfl),(hb.cell (p:=κ W 2) a8).trans L⟩));go_enter func278,ntmps278;have aV:=HS.out _ (Zj _ (w.alloc (ρ b av cv aD cw an cn))).drew;go_wp2_with fail;go_region_held3 (fun w'=>w'.cell? (κ (ν w) 1)=ι b.n∧w'.cell? (κ (ν w) 2)=ι b.v.kd∧w'.cell? (κ (ν w) 3)=ι b.v.n∧w'.cell? (κ (ν w) 4)=some (.slice av b.v.l.length cv)∧w'.cell? (κ W 2)=some (.slice ar I cr))
   (first | with_reducible exact aV | with_reducible exact a5)
   (first
     | (go_at_call 302;(refine δ (HC.out _) ?_;intro E ac;have a5:=HS.out E ((Zj _ _).drew.trans ac);dsimp only)))
 exact yV
end
def ZT:=@H.look
end
section
def rO (x w):Calls prog 303 #[ι x] w (μ (.bool false) w):=by go_enter func303,ntmps303;go_wp2_with fail;go_ret;exact⟨by simp,rfl⟩
def jO (x y w):Calls prog 279 #[ι x,ι y] w (μ (.bool (decide (x < y))) w):=by go_enter func279,ntmps279;go_wp2_with (go_at_call 303;refine γ (rO _ _) ?_);go_ret;exact⟨rfl,rfl⟩
def vw (l a cap w) (hl:aU dB (ο w) w 1 l a) (hs:l.Pairwise (· < ·)) (aI:l.length≤1000000) (n) (hn:n∈l) :
  Calls prog 254 #[.slice a l.length cap,ι n] w fun e w'=>∃i:Nat,e= .returned (.tuple #[ι (i:Nat),Υ])∧w=w':=by
 obtain⟨p,hp⟩:=ZI.1 hn;have aY:=(Ze.1 hp).1;obtain⟨g,U,V,rfl,-⟩:=hl p n hp
 have HC:=χ (fun (j:Nat) (hj:j < l.length)=>(show w.cell? (κ g (U+j))=some (.int .i64 l[j]) from by
   obtain⟨g',J,cs,e,-,-,hc,rfl,-⟩:=hl j l[j] (Zg hj);injection e with e;injection e with e1 e2 _;subst e1 e2;have:=hc 0 ω
   simpa using this))
 have HS:=χ (fun (i j:Nat) (hi:i < l.length) (hj:j < l.length) (h:i < j)=>Yz.1 hs i j hi hj h);have I:l[p]=n:=(Ze.1 hp).2;have HP:=χ I;clear hl hs hn hp I;go_enter func254,ntmps254;go_wp2_with fail;go_loopw [7,8,9] (fun G E _ wr=>∃i j:Nat,G= .int .i64 (i:Nat)∧E= .int .i64 (j:Nat)∧i≤p∧p≤j∧j≤l.length∧wr=w) (fun G E _ _=>(intOf E).toNat - (intOf G).toNat)
 case atStart=>exact⟨0,l.length,rfl,rfl,Z2 _,Yx aY,Zc _,rfl⟩
 case round=>
  obtain⟨i,j,rfl,rfl,hi,hj,A,rfl⟩:=hrel
  by_cases ad:i < j
  ·have hm:(i+j) / 2 < l.length:=ω
   have z:=HC.out ((i+j) / 2) hm;obtain⟨y,hy⟩:∃y,l[(i+j) / 2]=y:=⟨_,rfl⟩;rw[hy] at z;have Z:=χ hy;clear hy
   by_cases M:y < n
   ·have L:(i+j) / 2 < p:=by
     rcases Nat.lt_trichotomy ((i+j) / 2) p with h | h | h
     ·exact h
     ·have H:=Z.out
      have h2:=HP.out;simp only[h] at H;omega
     ·have H:=HS.out p _ aY hm h
      rw[Z.out,HP.out] at H;omega
    go_wp2_with (first | (go_at_call 279;refine γ (jO _ _ _) ?_) | (go_at_call 280;refine γ (isNaN_int _ _) ?_));go_roundw
    case' rel=>exact⟨(i+j) / 2+1,j,by go_num,rfl,ω,hj,A,trivial⟩
    case' measure=>simp[intOf];omega
   ·have L:p≤(i+j) / 2:=by
     rcases ZN ((i+j) / 2) p with h | h
     ·have H:=HS.out _ p hm aY h
      rw[Z.out,HP.out] at H;omega
     ·exact h
    go_wp2_with (first | (go_at_call 279;refine γ (jO _ _ _) ?_) | (go_at_call 280;refine γ (isNaN_int _ _) ?_));go_roundw
    case' rel=>exact⟨i,(i+j) / 2,rfl,by go_num,hi,L,ω,trivial⟩
    case' measure=>simp[intOf];omega
  ·obtain rfl:i=p:=ω
   have z:=HC.out i aY;rw[HP.out] at z;go_wp2_with (first | (go_at_call 279;refine γ (jO _ _ _) ?_) | (go_at_call 280;refine γ (isNaN_int _ _) ?_));go_ret2;exact⟨i,rfl,rfl⟩
section
variable {o:ab} {w:World} {W Y:Nat} {m:aH} {aB aF aC:Value} {cs:List (Nat×Nat×Nat×Nat)} {ds:List (Nat×Nat)}
def ie {m}:∀{l:List Int} {last:Int},eN m last l=true→(∀x∈l,last < x∧x < m)∧l.Pairwise (· < ·)
 | [],_,_=>⟨(fun _ h=>by cases h),Yr⟩
 | n :: r,last,h=>by
   simp only[eN,Bool.and_eq_true,decide_eq_true_eq] at h
   obtain⟨H,h2⟩:=ie h.2
   refine⟨fun x hx=>?_,List.Pairwise.cons (fun x hx=>(H x hx).1) h2⟩
   rcases ZG.1 hx with rfl | hx
   ·exact h.1
   ·exact⟨Int.lt_trans h.1.1 (H x hx).1,(H x hx).2⟩
def m4 (hW:ai o w W m Y aB aF aC cs ds) (l a cap) (hl:aU dB (ο w) w 1 l a) (aI:l.length≤1000000) (hi:eN m.cos.length (-1) l=true) :
  Calls prog 227 #[π W,.slice a l.length cap] w (μ (.bool true) w):=by
 obtain⟨ar,cr,rfl,-⟩:=hW.rco.row.form;have cW:=hW.blk.c 2 rfl;obtain⟨I,az⟩:∃n,m.cos.length=n:=⟨_,rfl⟩;rw[az] at cW hi;obtain⟨hb,hp⟩:=ie hi;have HL:=χ hl;have HB:=χ hb;have HP:=χ hp;clear hl hb hp hi hW az;go_enter func227,ntmps227;go_wp2_with fail;go_loopw [5,7,10] (fun vl _ ix wr=>∃k:Nat,ix= .int .i64 (k:Nat)∧k≤l.length∧wr=w∧vl= .int .i64 (if h:0 < k∧k≤l.length then l[k - 1]'(by omega) else -1)) (fun _ _ ix _=>l.length - (intOf ix).toNat)
 case atStart=>exact⟨0,rfl,Z2 _,rfl,rfl⟩
 case round=>
  obtain⟨k,rfl,hk,rfl,rfl⟩:=hrel
  by_cases ad:k < l.length
  ·obtain⟨g,U,V,rfl,-,-,hc,rfl,-⟩:=HL.out k l[k] (Zg ad)
   have cx:=hc 0 ω;rw[Nat.add_zero,Nat.mul_one] at cx;obtain⟨H,h2⟩:=HB.out l[k] (Z8 ad);have an:(if h:0 < k∧k≤l.length then l[k - 1]'(by omega) else (-1:Int)) < l[k]:=by
     split
     ·exact Yz.1 HP.out (k - 1) k ω ad ω
     ·exact H
   generalize (if h:0 < k∧k≤l.length then l[k - 1]'(by omega) else (-1:Int))=last at an ⊢;obtain⟨x,hx⟩:∃x,l[k]=x:=⟨_,rfl⟩;rw[hx] at cx H h2 an;have HX:=χ hx;have d1:decide (x≤last)=false:=Zn ω;have d2:decide ((I:Int)≤x)=false:=Zn ω;have L:decide (k < l.length)=true:=Zy ad;clear hx hc H h2 an;go_wp2_with fail;go_roundw
   case' rel=>exact⟨k+1,by go_num,ω,trivial,by rw[dif_pos ⟨ω,ω⟩];simp only[Nat.add_sub_cancel];rw[HX.out]⟩
   case' measure=>simp[intOf];omega
  ·have L:decide (k < l.length)=false:=Zn ad
   obtain rfl:k=l.length:=ω;generalize (if h:0 < l.length∧l.length≤l.length then l[l.length - 1]'(by omega) else (-1:Int))=last;go_wp2_with fail;go_ret;exact⟨rfl,rfl⟩
end
end
section
section
variable {o:ab} {w:World} {W Y:Nat} {m:aH} {aB aF aC:Value} {cs:List (Nat×Nat×Nat×Nat)} {ds:List (Nat×Nat)}
def sB (z:Wf o w) (hW:ai o w W m Y aB aF aC cs ds) (b conds) (hb:dt m conds b=true) (av aD an cv cw cn) (hV:aG (ο w) w b.v (.agg (υ b.v av cv))) :
  ∃(f j:Nat),Instr.findNow (.int .i64) (ι b.kd) (iL 0 iu) 0=some (some (j,.func (.func f) #[] #[]))∧(∀(args:Array Value) (w:World),(callFunc f args).run prog w= .ok (.enter f args) w) ∧
   ∀wx,Below (ν w) w wx→Calls prog f #[π W,.agg (ρ b av cv aD cw an cn)] wx (ϑ (.bool true) wx):=by
 have hk:∀wx,Below (ν w) w wx→ai o wx W m Y aB aF aC cs ds:=fun wx aj=>hW.kept (kB z aj) aj.size fun _ _=>Zk;have hv:∀wx,Below (ν w) w wx→aG (ο wx) wx b.v (.agg (υ b.v av cv)):=fun wx aj=>(hV.et fun q hq i=>aj.cell (p:=κ q i) hq).more fun q hq=>Za hq aj.size;unfold dt at hb;simp only[Bool.and_eq_true] at hb;obtain⟨⟨⟨⟨hb,-⟩,-⟩,-⟩,-⟩:=hb
 by_cases h5:b.kd=5
 ·rw[if_pos h5] at hb
  simp only[Bool.and_eq_true,decide_eq_true_eq] at hb;exact⟨274,0,by rw[h5];rfl,fun _ _=>by kernel_rfl,fun wx aj=>u4 (hk wx aj) b av aD an cv cw cn hb.1.1 hb.1.2 hb.2 (hv wx aj)⟩
 rw[if_neg h5] at hb
 by_cases h6:b.kd=6
 ·rw[if_pos h6] at hb
  simp only[Bool.and_eq_true,decide_eq_true_eq] at hb;exact⟨275,1,by rw[h6];rfl,fun _ _=>by kernel_rfl,fun wx aj=>rS (hk wx aj) b av aD an cv cw cn hb.1.1 hb.1.2 hb.2⟩
 rw[if_neg h6] at hb
 by_cases h7:b.kd=7
 ·rw[if_pos h7] at hb
  simp only[Bool.and_eq_true,beq_iff_eq] at hb;exact⟨276,2,by rw[h7];rfl,fun _ _=>by kernel_rfl,fun wx aj=>wq b av aD an cv cw cn hb.1 hb.2 (hv wx aj)⟩
 rw[if_neg h7] at hb
 by_cases M:b.kd=8
 ·rw[if_pos M] at hb
  simp only[Bool.and_eq_true,beq_iff_eq] at hb;exact⟨277,3,by rw[M];rfl,fun _ _=>by kernel_rfl,fun wx aj=>uy b av aD an cv cw cn hb.1 hb.2⟩
 rw[if_neg M] at hb
 by_cases O:b.kd=13
 ·rw[if_pos O] at hb
  simp only[Bool.and_eq_true,decide_eq_true_eq] at hb;exact⟨278,4,by rw[O];rfl,fun _ _=>by kernel_rfl,fun wx aj=>vE (hk wx aj) b av aD an cv cw cn hb.1.1 hb.1.2 hb.2⟩
 rw[if_neg O] at hb;cases hb
def k2 (z:Wf o w) (hW:ai o w W m Y aB aF aC cs ds) (b bs) (hB:bh (ο w) w b bs) (conds ay cc) (I:aU dB (ο w) w 1 conds ay) (bl:conds.Pairwise (· < ·)) (aq:conds.length≤1000000) (hb:dt m conds b=true) (hS:c7 b) :
  Calls prog 228 #[π W,.agg bs.toArray,.slice ay conds.length cc] w (ϑ (.bool true) w):=by
 obtain⟨av,aD,an,cv,cw,cn,rfl,hV,bB,aP,-⟩:=hB;obtain⟨f,j,aJ,bo,aN⟩:=sB z hW b conds hb av aD an cv cw cn hV;have az:b.wr.length≤32∧b.nk.length≤32∧(∀c∈b.wr,∀v∈c.args,right v=true)∧∀n∈b.nk,n∈conds:=by unfold dt at hb;simp only[Bool.and_eq_true,decide_eq_true_eq,List.all_eq_true,List.contains_iff_mem] at hb;exact⟨hb.1.1.1.2,hb.1.1.2,hb.1.2,hb.2⟩
 obtain⟨ao,aA,aE,aj⟩:=az;refine yv ?_;intro af Z;have HK:=χ Z;have a3:=Z.lt;have L:=fun wx=>pH wx;have HF:=χ aN;have HL:=χ (fun wx h=>ZT (P:=prog) underlying392 underlying83 (w:=wx) (m:=w.heap.size+1) (l:=iu) h aJ);have bP:=χ bB;have a8:=χ aP;have Hwr:=χ aE;have Hnk:=χ aj;have a4:=χ I;have bu:=χ bl;have aV:(w.alloc (ρ b av cv aD cw an cn)).drew.cell? (κ (ν w) 0)=ι b.kd:=Z.c 0 rfl;have ax:(w.alloc (ρ b av cv aD cw an cn)).drew.heap.size=w.heap.size+1:=by show (w.alloc _).heap.size=_;simp
 have aY:=a3;clear aJ aN bB aP aE aj I bl Z hV hb hW;go_enter func228,ntmps228;go_wp2_with fail;go_region_held3 (fun w'=>w'.cell? (κ (ν w) 0)=ι b.kd)
   (first | with_reducible exact aV | with_reducible exact a5)
   (first
     | (go_at_call 253;(refine (L _).mono ?_;rintro e E ⟨rfl,a7,ac⟩;rw[ax] at a7;have bC:=HL.out E a7;have a6:=(Zj _ _).drew.trans ac;have a5:E.cell? (κ (ν w) 0)=ι b.kd:=(ac.cell (p:=κ (ν w) 0) aY).trans aV;dsimp only)))
 have aM:=af.trans (a6.mono af.size);have k3:=Z6 HK.out a6;obtain⟨-,e1,e2,e3,e4,e5,e6,-⟩:=kc6 k3;have d1:decide ((32:Int) < (b.wr.length:Int))=false:=Zn ω;have d2:decide ((32:Int) < (b.nk.length:Int))=false:=Zn ω;have ag:=χ k3;clear k3;go_wp2_with
  (refine (HF.out _ aM).mono ?_
   rintro e M ⟨rfl,ah⟩;have U:=aM.trans (ah.mono aM.size);have k4:=Z6 ag.out ah;have g5:=k4.c 5 rfl
   have g6:=k4.c 6 rfl)
 have bq:=χ k4;clear k4 e1 e2 e3 e4 e5 e6 d1 d2 aV a5 bC;go_loopw [10,12,48] (fun _ _ ix wr=>∃k:Nat,ix= .int .i64 (k:Nat)∧k≤b.wr.length∧Below (ν M) M wr) (fun _ _ ix _=>b.wr.length - (intOf ix).toNat)
 case atStart=>exact⟨0,rfl,Z2 _,Zj _ _⟩
 case round=>
  obtain⟨k,rfl,hk,hbr⟩:=hrel
  by_cases ad:k < b.wr.length
  ·obtain⟨gw,ow,V,rfl,aI,-,hc,a1,c1,rfl,hA,-⟩:=bP.out k b.wr[k] (Zg ad)
   have O:=U.trans (hbr.mono U.size);have x0:=(O.cell (p:=κ gw (ow+k*2)) aI).trans (hc 0 ω);have x1:=(O.cell (p:=κ gw (ow+k*2+1)) aI).trans (hc 1 ω);have bN:=Hwr.out b.wr[k] (Z8 ad);have aK:=(hS.2.1 b.wr[k] (Z8 ad)).2;generalize b.wr[k]=c at *;have aS:decide (k < b.wr.length)=true:=Zy ad;have HA:=χ hA;have aX:=χ bN;have aL:=am wr (.cells #[ι c.fn,.slice a1 c.args.length c1] 242);have bf:=O.trans (aL.mono O.size);have aO:=hbr.trans (aL.mono hbr.size);clear hA bN hc;go_wp2_with fail;generalize wr.alloc (.cells #[ι c.fn,.slice a1 c.args.length c1] 242)=wn at *;go_loopw [12,55] (fun _ ix wi=>∃j:Nat,ix= .int .i64 (j:Nat)∧j≤c.args.length∧Below (ν wn) wn wi) (fun _ ix _=>c.args.length - (intOf ix).toNat)
   case atStart=>exact⟨0,rfl,Z2 _,Zj _ _⟩
   case round=>
    obtain⟨j,rfl,hj,ak⟩:=hrel
    by_cases J:j < c.args.length
    ·obtain⟨ga,oa,V,rfl,aw,-,ae,v0,v1,v2,rfl,aa⟩:=HA.out j c.args[j] (Zg J)
     have ap:=bf.trans (ak.mono bf.size);have y0:=(ap.cell (p:=κ ga (oa+j*3)) aw).trans (ae 0 ω);have y1:=(ap.cell (p:=κ ga (oa+j*3+1)) aw).trans (ae 1 ω);have y2:=(ap.cell (p:=κ ga (oa+j*3+2)) aw).trans (ae 2 ω);have a0:=aX.out c.args[j] (Z8 J);generalize c.args[j]=v at *;obtain⟨a9,c9,G,-⟩:=aa.three;injection G with G;injection G with G;injection G with q0 G;injection G with q1 G;injection G with q2 _;subst q0 q1 q2;have aG:decide (j < c.args.length)=true:=Zy J;have aW:=am wr (.cells #[ι v.kd,ι v.n,.slice a9 v.l.length c9] 86);have aR:=ap.trans (aW.mono ap.size);have hC:=fQ v _ _ ((aa.et (w':=wr.alloc (υ v a9 c9)) fun q hq i=>aR.cell (p:=κ q i) hq).more fun q hq=>Za hq aR.size);rw[a0] at hC;have aQ:=ak.trans (aW.mono ak.size);clear aa ae;go_wp2_with (go_at_call 122;refine δ hC ?_;intro w9 aT);go_roundw
     case' rel=>exact⟨j+1,by go_num,ω,aQ.trans (aT.mono aQ.size)⟩
     case' measure=>simp[intOf];omega
    ·have aG:decide (j < c.args.length)=false:=Zn J
     obtain rfl:j=c.args.length:=ω;go_wp2_with fail;go_roundw
     case' rel=>exact⟨k+1,by go_num,ω,aO.trans (ak.mono aO.size)⟩
     case' measure=>simp[intOf];omega
  ·have aS:decide (k < b.wr.length)=false:=Zn ad
   have O:=U.trans (hbr.mono U.size);have k5:=Z6 bq.out hbr;have ba:=k5.c 6 rfl;clear k5;go_wp2_with fail;go_loopw [14,15,16,67] (fun _ _ _ ix wi=>∃j:Nat,ix= .int .i64 (j:Nat)∧j≤b.nk.length∧wi=wr) (fun _ _ _ ix _=>b.nk.length - (intOf ix).toNat)
   case atStart=>exact⟨0,rfl,Z2 _,rfl⟩
   case round=>
    obtain⟨j,rfl,hj,rfl⟩:=hrel
    by_cases J:j < b.nk.length
    ·obtain⟨ga,oa,V,rfl,aw,-,ae,rfl,-⟩:=a8.out j b.nk[j] (Zg J)
     have y0:=(O.cell (p:=κ ga (oa+j*1)) aw).trans (ae 0 ω);rw[Nat.mul_one] at y0;have aZ:=Hnk.out b.nk[j] (Z8 J);generalize b.nk[j]=n at *;have aG:decide (j < b.nk.length)=true:=Zy J;have a':=vw conds ay cc wr (a4.out.et (fun g hg q=>O.cell (p:=κ g q) hg) (fun g hg=>Za hg O.size) fun _ _ h=>h) bu.out aq n aZ;clear ae;go_wp2_with (go_at_call 254;refine a'.mono ?_;rintro e w9 ⟨i9,rfl,rfl⟩);go_roundw
     case' rel=>exact⟨j+1,by go_num,ω,trivial⟩
     case' measure=>simp[intOf];omega
    ·have aG:decide (j < b.nk.length)=false:=Zn J
     obtain rfl:j=b.nk.length:=ω;go_wp2_with fail;go_ret;exact⟨rfl,O⟩
end
end
end Go.Proofs.YtmchabopafimeaaGreatDoor
