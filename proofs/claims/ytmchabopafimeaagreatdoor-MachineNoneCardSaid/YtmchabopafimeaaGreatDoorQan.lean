import Derived.Test.YtmchabopafimeaaGreatDoorQam
namespace Go.Proofs.YtmchabopafimeaaGreatDoor
set_option maxRecDepth 100000
set_option maxHeartbeats 16000000
set_option linter.all false
open Go.RowKit Go.Sort Tryz
section
section
variable {o o':ab} {w w':World} {p W:Nat} {m:bP} {aD av:Option Addr} {cx cv:Nat} {K:Nat→Prop} {wm wm':aH} {L:List Nat}
def lF (hE:a6 o w) (p kd) (a4:w.cell? (κ p 10)=ι kd):Calls prog 341 #[π p] w (μ (ι (sd (!(kd == 5)))) w):=by
 by_cases h5:kd=5
 ·subst h5
  have hC:=ii o true w hE;have e1:sd true=1:=rfl;rw[e1] at hC;clear hE;go_enter func341,ntmps341;go_wp2_with (go_at_call 358;refine γ hC ?_);go_ret;exact⟨rfl,rfl⟩
 ·have hC:=ii o false w hE
  have e1:sd false=2:=rfl;rw[e1] at hC;have e2:(kd == 5)=false:=by simpa using h5
  rw[e2];clear hE;go_enter func341,ntmps341;go_wp2_with (go_at_call 358;refine γ hC ?_);go_ret;exact⟨rfl,rfl⟩
def b9 (B W:Nat) (wm':aH) (L:List Nat) (r:Option V) (bo:Nat) (l:List Value) (o:ab) (w:World):Prop:=aT B W wm' L o w∧∃b,FR (Fz o w) w r l b∧A w bo 4 [.bool b]∧o bo=some bo
def Aw {p q:Prop} (k:q) (h:Zq q→p:=by
 intro mq;have F1:=aE (S:=fun k=>k=n4∨k=bo) (g:=n4) (.inl rfl) 0 [(0,ι x0),(1,ι x1),(2,ι x2),(3,ι x3),(4,ι x4),(5,ι x5),(6,.slice xa xn xc)] E;have F2:Fr (fun k=>k=n4∨k=bo) ((σ7 E n4 (ι x0) (ι x1) (ι x2) (ι x3) (ι x4) (ι x5) (.slice xa xn xc):World)) (σ ((σ7 E n4 (ι x0) (ι x1) (ι x2) (ι x3) (ι x4) (ι x5) (.slice xa xn xc):World)) bo 0 (.bool xb)):=Z4 (q:=κ bo 0) (.inl (.inr rfl));have h4:Fr (fun k=>k=n4∨k=bo) E (a3 (σ ((σ7 E n4 (ι x0) (ι x1) (ι x2) (ι x3) (ι x4) (ι x5) (.slice xa xn xc):World)) bo 0 (.bool xb)) n4 0 [(0,ι x0),(1,ι x1),(2,ι x2),(3,ι x3),(4,ι x4),(5,ι x5),(6,.slice xa xn xc)]):=(F1.same F2).same (aE (S:=fun k=>k=n4∨k=bo) (g:=n4) (.inl rfl) 0 [(0,ι x0),(1,ι x1),(2,ι x2),(3,ι x3),(4,ι x4),(5,ι x5),(6,.slice xa xn xc)] _);have B1:A ((σ7 E n4 (ι x0) (ι x1) (ι x2) (ι x3) (ι x4) (ι x5) (.slice xa xn xc):World)) bo 4 [Δ]:=((aE (S:=(·=n4)) (g:=n4) rfl 0 [(0,ι x0),(1,ι x1),(2,ι x2),(3,ι x3),(4,ι x4),(5,ι x5),(6,.slice xa xn xc)] E).block bo HX.2.1.2.1.lt ay).trans HX.2.1.2.1;have B2:A (σ ((σ7 E n4 (ι x0) (ι x1) (ι x2) (ι x3) (ι x4) (ι x5) (.slice xa xn xc):World)) bo 0 (.bool xb)) bo 4 [.bool xb]:=B1.set 0 _;have B3:A (a3 (σ ((σ7 E n4 (ι x0) (ι x1) (ι x2) (ι x3) (ι x4) (ι x5) (.slice xa xn xc):World)) bo 0 (.bool xb)) n4 0 [(0,ι x0),(1,ι x1),(2,ι x2),(3,ι x3),(4,ι x4),(5,ι x5),(6,.slice xa xn xc)]) bo 4 [.bool xb]:=((aE (S:=(·=n4)) (g:=n4) rfl 0 [(0,ι x0),(1,ι x1),(2,ι x2),(3,ι x3),(4,ι x4),(5,ι x5),(6,.slice xa xn xc)] _).block bo B2.lt ay).trans B2
 have A1:A ((σ7 E n4 (ι x0) (ι x1) (ι x2) (ι x3) (ι x4) (ι x5) (.slice xa xn xc):World)) n4 307 [ι x0,ι x1,ι x2,ι x3,ι x4,ι x5,.slice xa xn xc]:=aW (b:=0) [(0,ι x0),(1,ι x1),(2,ι x2),(3,ι x3),(4,ι x4),(5,ι x5),(6,.slice xa xn xc)] _ _ HX.2.1.2.2;have A2:A (σ ((σ7 E n4 (ι x0) (ι x1) (ι x2) (ι x3) (ι x4) (ι x5) (.slice xa xn xc):World)) bo 0 (.bool xb)) n4 307 [ι x0,ι x1,ι x2,ι x3,ι x4,ι x5,.slice xa xn xc]:=((Z4 (S:=(·=bo)) (q:=κ bo 0) (.inl rfl)).block n4 A1.lt ay.symm).trans A1;have Y:A ((σ7 (σ (σ7 E n4 (ι x0) (ι x1) (ι x2) (ι x3) (ι x4) (ι x5) (.slice xa xn xc)) bo 0 (.bool xb)) n4 (ι x0) (ι x1) (ι x2) (ι x3) (ι x4) (ι x5) (.slice xa xn xc):World)) n4 307 [ι x0,ι x1,ι x2,ι x3,ι x4,ι x5,.slice xa xn xc]:=aW (b:=0) [(0,ι x0),(1,ι x1),(2,ι x2),(3,ι x3),(4,ι x4),(5,ι x5),(6,.slice xa xn xc)] _ _ A2;obtain⟨o',g1,g2,g3⟩:=HX.1;obtain⟨o2,t1,t2⟩:=ak.out _ _ _ _ _ g1 g2 g3 h4 B3;revert F1 F2 h4 B1 B2 B3 A1 A2 Y o' g1 g2 g3 o2 t1 t2
 exact mq.u):p:=h ⟨k⟩
def Ax {p q:Prop} (k:q) (h:Zq q→p:=by
 intro mq;have an:=ZJ z (.cells #[ι 0,ι 0,ι 0,ι 0,ι 0,ι 0,ζ] 307);have aU:(o.set (ν w) (some w.heap.size)) w.heap.size=some w.heap.size:=Zw _ _ _;have O:=Zh w 307 [ι 0,ι 0,ι 0,ι 0,ι 0,ι 0,ζ];have hL:=hI.lt;have ae:=z.BD an;have ap:=an.kp;have aJ:=hI.kept ap an.size fun _ _=>Zk;have aP:=hE.kept ap;have aj:=hP.kept ap an.size trivial;have m1:=ao.alloc θ;have m2:=a1.alloc θ;have m3:=aC.alloc θ;have q1:(o.set (ν w) (some w.heap.size)) bw=none:=by rw[ab.BG _ _ (by have:=ao.lt;omega)];exact n1
 have q2:(o.set (ν w) (some w.heap.size)) bp=none:=by rw[ab.BG _ _ (by have:=a1.lt;omega)];exact n2
 have q3:(o.set (ν w) (some w.heap.size)) bo=some bo:=by rw[ab.BG _ _ (by have:=aC.lt;omega)];exact n3
 have aa:w.heap.size∉L:=fun h=>by have:=hL _ h;omega
 have ay:bo≠w.heap.size:=by have:=aC.lt;omega
 have l1:bw≠w.heap.size:=by have:=ao.lt;omega
 have l2:bp≠w.heap.size:=by have:=a1.lt;omega
 have l3:p≠w.heap.size:=by have:=hP.blk.lt;omega
 revert an aU O hL ae ap aJ aP aj m1 m2 m3 q1 q2 q3 aa ay l1 l2 l3
 exact mq.u):p:=h ⟨k⟩
def Ay {p q:Prop} (k:q) (h:Zq q→p:=by
 intro mq;have aB:=χ (fun (w':World) (h:∀b∈[bw,bp,p],w'.heap[b]? =w1.heap[b]?)=>(show w'.cell? (κ bw 0)=π W∧w'.cell? (κ bp 0)=π p∧w'.cell? (κ p 11)=ι m.n from⟨(Zd (w:=w1) (h bw ξ)).trans c0,(Zd (w:=w1) (h bp ξ)).trans c1,(Zd (w:=w1) (h p ξ)).trans c2⟩));revert aB
 exact mq.u):p:=h ⟨k⟩
def za {p:Prop} (h:p:=by
 intro b hb;simp only[List.mem_cons,List.not_mem_nil,or_false] at hb;rcases iq hb with rfl | rfl | rfl
 ·exact m1.lt
 ·exact m2.lt
 ·exact aj.blk.lt):p:=h
def Az {p:Prop} (h:p:=by
 rintro e E ⟨o',ag,⟨L',g1,g2⟩,cs,b,rfl,hF⟩;obtain⟨x0,x1,x2,x3,x4,x5,xa,xn,xc,rfl⟩:=hF.agg;have U:=aq.same ae ag
 exact⟨x0,x1,x2,x3,x4,x5,xa,xn,xc,b,rfl,χ ⟨⟨o',U,⟨L',g1,fun k hk=>(g2 k hk).imp id fun h=>Zp hb.size h⟩,hF⟩,Z o' E U,U.size⟩⟩):p:=h
def AA {p:Prop} (h:p:=by
 intro o' E U;refine⟨fun b hb=>?_,?_,?_⟩
 ·simp only[List.mem_cons,List.not_mem_nil,or_false] at hb
  rcases iq hb with rfl | rfl | rfl
  ·exact (U.frozen b m1.lt (fun q hq=>by rw[q1] at hq;cases hq)).1
  ·exact (U.frozen b m2.lt (fun q hq=>by rw[q2] at hq;cases hq)).1
  ·exact (ZO (K:=(·=b)) U (fun q e=>by rw[e];exact af) b aj.blk.lt (fun q hq=>by rw[aj.own] at hq;cases hq;rfl)).1
 ·exact (ZO (K:=(·=bo)) U (fun q e=>by rw[e];exact V) bo m3.lt (fun q hq=>by rw[q3] at hq;cases hq;rfl)).1.trans m3
 ·rw[←bc]
  exact (ZO (K:=(·=w.heap.size)) U (fun q e=>by rw[e];exact aa) _ ω (fun q hq=>by rw[aU] at hq;cases hq;rfl)).1.trans O):p:=h
def lA (z:Wf o w) (hI:aI o w W wm L) (hE:a6 o w) (hP:a9 o w p m) (af:p∉L) {r} (h:eG m.n (!(m.kd == 5)) 0 wm=(.ok r,wm')) (bw bp bo B) (hB:B≤w.heap.size) (ao:A w bw 27 [aA W]) (a1:A w bp 293 [aA p]) (aC:A w bo 4 [Δ]) (n1:o bw=none) (n2:o bp=none) (n3:o bo=some bo) (V:bo∉L) (aL:bo≠p) :
  Calls prog 339 #[π bw,π bp,π bo] w fun e w'=>∃o',J (fun k=>k∈L∨k=bo) o w o' w'∧∃l,e= .returned (.tuple #[.agg l.toArray,ι 0])∧b9 B W wm' L r bo l o' w':=by
 obtain⟨aD,cx,av,cv,hP⟩:=hP;refine Ax ?_;intro an aU O hL ae ap aJ aP aj m1 m2 m3 q1 q2 q3 aa ay l1 l2 l3;have d1:bw≠bo:=by rintro rfl;rw[n1] at n3;cases n3
 have d2:bp≠bo:=by rintro rfl;rw[n2] at n3;cases n3
 have d3:p≠bo:=fun e=>aL e.symm;have aS:=an;have a8:(w.alloc θ).heap.size=w.heap.size+1:=by simp
 clear ao a1 aC hI hE hP n1 n2 n3;generalize o.set (ν w) (some w.heap.size)=o4 at *;obtain⟨n4,bc⟩:∃n,w.heap.size=n:=⟨_,rfl⟩
 have ak:=χ (fun E M o' (l:List Value) (b:Bool) (H:J (·∈L) o4 (w.alloc θ) o' E) (h2:aT (w.alloc θ).heap.size W wm' L o' E) (h3:FR (Fz o' E) E r l b) (h4:Fr (fun k=>k=n4∨k=bo) E M) (h5:A M bo 4 [.bool b])=>
   (show ∃o',J (fun k=>k∈L∨k=bo) o w o' M∧b9 B W wm' L r bo l o' M from by
     have ax:=ae.BD H;have ob:o' bo=some bo:=H.owned m3.lt q3 V;have on:o' n4=some n4:=by rw[←bc];exact H.owned ω aU aa
     have h6:J (fun k=>k=n4∨k=bo) o' E o' M:=Z9 ax h4 fun x _ hx=>by
       rcases hx with rfl | rfl
       ·exact⟨x,on,.inl rfl⟩
       ·exact⟨x,ob,.inr rfl⟩
     have I:aM (fun k=>¬(k=n4∨k=bo)) o' E o' M:=h6.et fun _ h=>h;obtain⟨L',g1,g2⟩:=h2;refine⟨o',(((aS.more z fun _ _ h=>h.elim).same z (H.more ae fun _ _ h=>.inl h))).trans z h6 fun k hk e=>?_,⟨L',g1.kept I h6.size fun k hk=>?_,fun k hk=>(g2 k hk).imp id fun h=>by omega⟩,b,h3.kept I h6.size,h5,ob⟩
     ·rcases e with rfl | rfl
      ·omega
      ·exact .inr rfl
     ·rintro (rfl | rfl)
      ·rcases g2 _ hk with h | h
       ·exact aa (bc ▸ h)
       ·omega
      ·rcases g2 _ hk with h | h
       ·exact V h
       ·have:=m3.lt
        omega))
 have Z:∀(o':ab) (E:World),J (·∈L) o4 (w.alloc θ) o' E→(∀b∈[bw,bp,p],E.heap[b]? =(w.alloc θ).heap[b]?)∧A E bo 4 [Δ]∧A E n4 307 [ι 0,ι 0,ι 0,ι 0,ι 0,ι 0,ζ]:=AA;rw[bc] at ay l1 l2 l3;have c0:=m1.c 0 rfl;have c1:=m2.c 0 rfl;have c2:=aj.blk.c 11 rfl;have a4:=aj.blk.c 10 rfl;unfold aA at c0 c1;have ad:∀b∈[bw,bp,p],b < (w.alloc θ).heap.size:=za;have az:∀b∈[bw,bp,p],b≠n4∧b≠bo:=by
  intro b hb;simp only[List.mem_cons,List.not_mem_nil,or_false] at hb;rcases hb with rfl | rfl | rfl
  ·exact⟨l1,d1⟩
  ·exact⟨l2,d2⟩
  ·exact⟨l3,d3⟩
 clear aS an ap l1 l2 l3 d1 d2 d3 O aa V aL;go_enter func339,ntmps339;go_wp2_with fail;generalize w.alloc θ=w1 at *;have hC:∀G:World,Below (ν w1) w1 G→Calls prog 341 #[π p] G (μ (ι (sd (!(m.kd == 5)))) G):=fun G hb=>by have I:=(tB ae hb).kp;exact lF (aP.kept I) p m.kd ((aj.kept I hb.size trivial).blk.c 10 rfl)
 have hA:∀G:World,Below (ν w1) w1 G→Calls prog 340 #[π W,ι m.n,ι (sd (!(m.kd == 5))),ι 0] G fun e E=>∃(x0 x1 x2 x3 x4 x5:Int) (xa:Option Addr) (xn xc:Nat) (xb:Bool),e= .returned (.tuple #[.agg #[ι x0,ι x1,ι x2,ι x3,ι x4,ι x5,.slice xa xn xc],.bool xb,ι 0]) ∧
   Hid ((∃o',J (·∈L) o4 w1 o' E∧aT (ν w1) W wm' L o' E∧FR (Fz o' E) E r [ι x0,ι x1,ι x2,ι x3,ι x4,ι x5,.slice xa xn xc] xb)∧((∀b∈[bw,bp,p],E.heap[b]? =w1.heap[b]?)∧A E bo 4 [Δ]∧A E n4 307 [ι 0,ι 0,ι 0,ι 0,ι 0,ι 0,ζ])∧w1.heap.size≤E.heap.size):=by
  intro G hb;have aq:J (·∈L) o4 w1 o4 G:=Zb ae hb;have I:=(tB ae hb).kp;refine (nA (ae.BD aq) (aJ.kept I hb.size fun _ _=>Zk) (aP.kept I) (i:=0) h).mono ?_;exact Az
 refine Ay ?_;intro aB;have bh:∀b∈[bw,bp,p],w1.drew.heap[b]? =w1.heap[b]? :=fun _ _=>rfl;have HA:=χ hA;have HC:=χ hC;have HS:=χ (fun G (hb:Below (ν w1) w1 G) b (h:b∈[bw,bp,p])=>(hb.block b (ad b h):G.heap[b]? =w1.heap[b]?));have a0:=χ ad;have ac:=χ az;generalize sd (!(m.kd == 5))=sv at *;clear hA hC ad az Z aj aP aJ ae h m1 m2 m3 q1 q2 q3 aU a4;go_region_held3 (fun w'=>w'.cell? (κ bw 0)=π W∧w'.cell? (κ bp 0)=π p∧w'.cell? (κ p 11)=ι m.n)
   (first | with_reducible exact aB.out _ bh | with_reducible exact aB.out _ a' | with_reducible exact aB.out _ a5 | with_reducible exact aB.out _ aZ | with_reducible exact aB.out _ aX)
   (first
     | (go_at_call 341;(refine γ (HC.out _ (Zj _ _).drew) ?_;have hb:=(Zj (ν w1) w1).drew;have a':=HS.out _ hb;dsimp only))
     | (go_at_call 340;(refine (HA.out _ hb).mono ?_;rintro e E ⟨x0,x1,x2,x3,x4,x5,xa,xn,xc,xb,rfl,aQ⟩;have HX:=aQ.out;have ah:=HX.2.1.2.2;have aK:=HX.2.1.2.1;have a5:=HX.2.1.1;have aG:∀b∈[bw,bp,p],b < E.heap.size:=fun b aw=>Za (a0.out b aw) HX.2.2;have aZ:∀b∈[bw,bp,p],((σ7 E n4 (ι x0) (ι x1) (ι x2) (ι x3) (ι x4) (ι x5) (.slice xa xn xc):World)).heap[b]? =w1.heap[b]? :=fun b aw=>((aE (S:=(·=n4)) rfl 0 [(0,ι x0),(1,ι x1),(2,ι x2),(3,ι x3),(4,ι x4),(5,ι x5),(6,.slice xa xn xc)] E).block b (aG b aw) (ac.out b aw).1).trans (a5 b aw);have aX:∀b∈[bw,bp,p],(σ ((σ7 E n4 (ι x0) (ι x1) (ι x2) (ι x3) (ι x4) (ι x5) (.slice xa xn xc):World)) bo 0 (.bool xb):World).heap[b]? =w1.heap[b]? :=fun b aw=>(((aE (S:=fun k=>k=n4∨k=bo) (.inl rfl) 0 [(0,ι x0),(1,ι x1),(2,ι x2),(3,ι x3),(4,ι x4),(5,ι x5),(6,.slice xa xn xc)] E).same (Z4 (q:=κ bo 0) (.inl (.inr rfl)))).block b (aG b aw) (fun h=>h.elim (ac.out b aw).1 (ac.out b aw).2)).trans (a5 b aw);have e0:=Zz ah 0 rfl;have f0:=ZD ah 0;have e1:=Zz ah 1 rfl;have f1:=ZD ah 1;have e2:=Zz ah 2 rfl;have f2:=ZD ah 2;have e3:=Zz ah 3 rfl;have f3:=ZD ah 3;have e4:=Zz ah 4 rfl;have f4:=ZD ah 4;have e5:=Zz ah 5 rfl;have f5:=ZD ah 5;have e6:=Zz ah 6 rfl;have f6:=ZD ah 6;have am:=Zz aK 0 rfl;have ai:=ZD aK 0;clear ah aK;dsimp only)))
 go_wp2_with fail;refine Aw ?_;intro F1 F2 h4 B1 B2 B3 A1 A2 Y o' g1 g2 g3 o2 t1 t2;exact Zl (v:= .tuple #[.agg #[ι x0,ι x1,ι x2,ι x3,ι x4,ι x5,.slice xa xn xc],ι 0]) (by simp[results,results339,go_sem,A.c Y 0 rfl,A.c Y 1 rfl,A.c Y 2 rfl,A.c Y 3 rfl,A.c Y 4 rfl,A.c Y 5 rfl,A.c Y 6 rfl]) rfl ⟨o2,t1,_,rfl,t2⟩
def dE (ok w):a4 ok w bL (bu bL none 0):=⟨none,0,rfl,e6 _ _,by show ag 0;unfold ag;omega,by show ag 0;unfold ag;omega,by show ag 0;unfold ag;omega,by show ag 0;unfold ag;omega⟩
def b'.entry (h:b' o w p m aD cx av cv) (z:Wf o w) (e ea ec) (he:a4 (Fz o w) w e (bu e ea ec)) (a):J (·=p) o w o (a3 w p 0 [(0,ι e.sy),(1,ι e.th),(2,ι e.br),(3,ι e.fl),(4,ι e.v.kd),(5,ι e.v.n),(6,.slice ea e.v.l.length ec),(7,ι a)])∧b' o (a3 w p 0 [(0,ι e.sy),(1,ι e.th),(2,ι e.br),(3,ι e.fl),(4,ι e.v.kd),(5,ι e.v.n),(6,.slice ea e.v.l.length ec),(7,ι a)]) p {m with ent:=e,at_:=a} ea ec av cv:=by have U:J (·=p) o w o (a3 w p 0 [(0,ι e.sy),(1,ι e.th),(2,ι e.br),(3,ι e.fl),(4,ι e.v.kd),(5,ι e.v.n),(6,.slice ea e.v.l.length ec),(7,ι a)]):=Z9 z (aE (S:=(·=p)) rfl 0 _ w) fun x _ hx=>⟨p,by rw[hx];exact h.own,rfl⟩;have I:=U.et (K:=(·≠p)) fun _ h=>h;exact⟨U,aW (b:=0) [(0,ι e.sy),(1,ι e.th),(2,ι e.br),(3,ι e.fl),(4,ι e.v.kd),(5,ι e.v.n),(6,.slice ea e.v.l.length ec),(7,ι a)] _ _ h.blk,h.own,he.kept I U.size,h.v.kept I U.size⟩
def AB {p:Prop} (h:p:=by
 obtain⟨L',H,h2⟩:=iq hS;refine⟨o1,an.same z (aq.more (z.BD an) fun _ _ h=>.inr h),⟨L',H.kept (aq.et (K:=(·≠p)) fun _ h=>h) aq.size fun k hk=>?_,fun k hk=>(h2 k hk).imp id fun h=>by omega⟩,hP,rfl⟩;rintro rfl;rcases h2 k hk with h | h
 ·exact af h
 ·omega):p:=h
def be.BY {w1 G o1 m1 b B} (z:Wf o w) (an:J (fun k=>k∈L∨k=p) o w o1 w1) (hB:w.heap.size≤B) (af:p∉L) (aQ:p < w.heap.size) (hS:aT B W wm' L o1 w1) (aq:J (·=p) o1 w1 o1 G) (hP:a9 o1 G p m1):be W p m1 wm' L b o w (.returned (.bool b)) G:=by exact AB
def b9.stays {B O bo r} (hL:∀k∈L,k < O) (hz:O < B) (aC:bo < O):∀(l:List Value) (o1:ab) (w1 G:World),b9 B W wm' L r bo l o1 w1→aM (·≠O) o1 w1 o1 G→w1.heap.size≤G.heap.size→b9 B W wm' L r bo l o1 G:=by
 rintro l o1 w1 G ⟨⟨L',H,h2⟩,b,h3,h4,h5⟩ I hs;refine⟨⟨L',H.kept I hs fun k hk=>?_,h2⟩,b,h3.kept I hs,(I.blk h4 h5 ω).1,h5⟩;rcases h2 k hk with h | h
 ·have:=hL k h
  omega
 ·omega
def b9.agg {B bo r}:∀(l:List Value) (o:ab) (w:World),b9 B W wm' L r bo l o w→dG l:=fun l o w h=>by
 obtain⟨-,b,h3,-⟩:=h
 obtain⟨x0,x1,x2,x3,x4,x5,xa,xn,xc,rfl⟩:=h3.agg
 exact⟨x0,x1,x2,x3,x4,x5,xa,xn,xc,rfl⟩
def AC {p q:Prop} (k:q) (h:Zq q→p:=by
 intro mq;have aM:=z.below b2;obtain⟨wx,ac⟩:∃u,G.alloc (.cells #[Δ] 4)=u:=⟨_,rfl⟩;obtain⟨E,ax⟩:∃u,wx.setCell ⟨w.heap.size+1+1,0,none⟩ (.bool false)=u:=⟨_,rfl⟩;have zx:wx.heap.size=w.heap.size+1+1+1:=by rw[←ac];simp[z2]
 have O:A wx (ν w) 293 [aA p]:=by rw[←ac];exact O.alloc _
 have Z:A wx (η w) 27 [aA W]:=by rw[←ac];exact Z.alloc _
 have k2:A wx (w.heap.size+1+1) 4 [Δ]:=by rw[←ac,←z2];exact Zh G _ _
 have bo:J Θ o G (o.set (w.heap.size+1+1) (some (w.heap.size+1+1))) wx:=by rw[←ac,←z2];exact ZJ aM _
 obtain⟨cX,gX,-⟩:=kb0 k2;have U:Fr (·=w.heap.size+1+1) wx E:=by rw[←ax];exact Z4 (q:=κ (w.heap.size+1+1) 0) (.inl rfl)
 have z3:E.heap.size=w.heap.size+1+1+1:=by rw[←ax];simpa using zx
 replace O:A E (ν w) 293 [aA p]:=(U.block _ O.lt ω).trans O;replace Z:A E (η w) 27 [aA W]:=(U.block _ Z.lt ω).trans Z;replace k2:A E (w.heap.size+1+1) 4 [Δ]:=by rw[←ax];exact k2.set 0 _
 have ak:J Θ o G (o.set (w.heap.size+1+1) (some (w.heap.size+1+1))) E:=bo.trans aM (Z9 (D:=(·=w.heap.size+1+1)) (aM.BD bo) U fun x _ hx=>⟨w.heap.size+1+1,by rw[hx];exact Zw _ _ _,rfl⟩) fun k hk e=>by omega
 clear bo U zx;have n0:(o.set (w.heap.size+1+1) (some (w.heap.size+1+1))) w.heap.size=none:=by rw[ab.BG _ _ ω];exact z.ge (Zc _)
 have n1:(o.set (w.heap.size+1+1) (some (w.heap.size+1+1))) (w.heap.size+1)=none:=by rw[ab.BG _ _ ω];exact z.ge ω
 have n2:(o.set (w.heap.size+1+1) (some (w.heap.size+1+1))) (w.heap.size+1+1)=some (w.heap.size+1+1):=Zw _ _ _;revert aM wx ac E ax cX gX z3 O Z k2 ak n0 n1 n2
 exact mq.u):p:=h ⟨k⟩
def AD {p q:Prop} (k:q) (h:Zq q→p:=by
 intro mq;have c0:=k5.c 0 rfl;have ah:=bp.blk;obtain⟨e0,f0,e1,f1,e2,f2,e3,f3,e4,f4,e5,f5,e6,f6,e7,f7,-⟩:=kb7 ah;have aO:=k5.lt;have a1:w.heap.size≠p:=ω;have aB:=χ (fun (w':World) (h:w'.heap[w.heap.size]? =V.heap[w.heap.size]?)=>(show w'.cell? (κ (ν w) 0)=π p from (Zd (w:=V) h).trans c0));have aV:V.drew.heap[w.heap.size]? =V.heap[w.heap.size]? :=rfl;have an:∀w':World,w'.drew.heap=w'.heap:=fun _=>rfl;have aN:((σ7 V p (ι 0) (ι 0) (ι 0) (ι 0) (ι 0) (ι 0) (.slice none 0 0):World)).heap[w.heap.size]? =V.heap[w.heap.size]? :=(aE (S:=(·=p)) rfl 0 [(0,ι 0),(1,ι 0),(2,ι 0),(3,ι 0),(4,ι 0),(5,ι 0),(6,ζ)] V).block _ aO a1;have a5:(σ ((σ7 V p (ι 0) (ι 0) (ι 0) (ι 0) (ι 0) (ι 0) (.slice none 0 0):World)) p 7 (ι 6):World).heap[w.heap.size]? =V.heap[w.heap.size]? :=(aE (S:=(·=p)) rfl 0 [(0,ι 0),(1,ι 0),(2,ι 0),(3,ι 0),(4,ι 0),(5,ι 0),(6,ζ),(7,ι 6)] V).block _ aO a1;have aS:((σ7 V p (ι 0) (ι 0) (ι 0) (ι 0) (ι 0) (ι 0) (.slice none 0 0):World)).drew.heap[w.heap.size]? =V.heap[w.heap.size]? :=by rw[an];exact aN
 have a':(σ ((σ7 V p (ι 0) (ι 0) (ι 0) (ι 0) (ι 0) (ι 0) (.slice none 0 0):World)) p 7 (ι 6):World).drew.heap[w.heap.size]? =V.heap[w.heap.size]? :=by rw[an];exact a5
 have bl:=χ bp;revert c0 ah e0 f0 e1 f1 e2 f2 e3 f3 e4 f4 e5 f5 e6 f6 e7 f7 aO a1 aB aV an aN a5 aS a' bl
 exact mq.u):p:=h ⟨k⟩
def AE {p q:Prop} (k:q) (h:Zq q→p:=by
 intro mq;have F6:=aE (S:=(·=p)) (g:=p) rfl 0 [(0,ι 0),(1,ι 0),(2,ι 0),(3,ι 0),(4,ι 0),(5,ι 0),(6,ζ),(7,ι 6)] V;have e6:a3 V p 0 [(0,ι 0),(1,ι 0),(2,ι 0),(3,ι 0),(4,ι 0),(5,ι 0),(6,ζ),(7,ι 6)]=(σ8 V p (ι 0) (ι 0) (ι 0) (ι 0) (ι 0) (ι 0) (.slice none 0 0) (ι 6):World):=rfl;obtain⟨s1,s2⟩:=bl.out.entry aL bL none 0 (dE _ _) 6;have bc:a3 V p 0 [(0,ι bL.sy),(1,ι bL.th),(2,ι bL.br),(3,ι bL.fl),(4,ι bL.v.kd),(5,ι bL.v.n),(6,.slice none bL.v.l.length 0),(7,ι 6)]=(σ8 V p (ι 0) (ι 0) (ι 0) (ι 0) (ι 0) (ι 0) (.slice none 0 0) (ι 6):World):=rfl;rw[e6] at F6;rw[bc] at s1 s2;clear e6 bc;revert F6 s1 s2
 exact mq.u):p:=h ⟨k⟩
def zb {p q:Prop} (k:q) (h:Zq q→p:=by
 intro mq;have ag:J Θ o w o3 E:=(Zb z b2).same z ak;have aw:=z.BD ag;have aU:=ag.kp;have ba:=hI.kept aU ag.size fun _ _=>Zk;have aY:=hE.kept aU;have ad:=hP.kept aU ag.size trivial;have hL:=hI.lt;have aQ:=hP.lt;revert ag aw aU ba aY ad hL aQ
 exact mq.u):p:=h ⟨k⟩
def pO (z:Wf o w) (hI:aI o w W wm L) (hE:a6 o w) (hP:a9 o w p m) (af:p∉L) {e} (h:eG m.n (!(m.kd == 5)) 0 wm=(.ok (some e),wm')):Calls prog 305 #[π p,π W] w (be W p {m with ent:=e,at_:=3} wm' L false o w):=by
 obtain⟨w1,ae,z1,b1,O⟩:=al1 w 293 [aA p];obtain⟨G,ap,z2,b2,Z,au⟩:=al2 b1 z1 27 [aA W];replace O:=au _ _ _ O;clear au;refine AC ?_;intro aM wx ac E ax cX gX z3 O Z k2 ak n0 n1 n2;generalize o.set (w.heap.size+1+1) (some (w.heap.size+1+1))=o3 at *;refine zb ?_;intro ag aw aU ba aY ad hL aQ;have aG:=j' 339 #[π (η w),ϖ w,π (ς w)] (fun k=>k∈L∨k=w.heap.size+1+1) (b9 (η E) W wm' L (some e) (w.heap.size+1+1)) o3 E aw
   (fun k hk=>by rcases hk with h | h;· have:=hL k h;omega
                 ·omega)
   (b9.stays (fun k hk=>by have:=hL k hk;omega) ω ω) b9.agg Ψ
   (fun o2 M aK ao aZ=>by
     have aa:=ao.kp
     exact lA aK (ba.kept aa ao.size fun _ _=>Zk) (aY.kept aa) (ad.kept aa ao.size trivial) af h _ _ _ _ ω (aa.BF Z n1).1 (aa.BF O n0).1 (aa.blk k2 n2 trivial).1 (aa.BF Z n1).2 (aa.BF O n0).2 (aa.blk k2 n2 trivial).2 (fun h=>by have:=hL _ h;omega) ω)
 have bF:=χ ag;have aW:=χ ad;have a0:=χ O;clear hE aY hI ba hP ad h Z k2 n1 n2 ag aU ak O;unfold aA at *;go_enter func305,ntmps305;go_wp2_with fail;refine aG.mono ?_;rintro e1 M ⟨o4,ao,l,rfl,aR,b,Y,aj,I⟩;obtain⟨rfl,ea,ec,rfl,aJ⟩:=Y;have aJ:a4 (Fz o4 M) M e (bu e ea ec):=⟨ea,ec,rfl,aJ⟩;have aK:=aw.BD ao
 have aq:=aW.out.kept (ao.et (K:=(·=p)) fun q e=>by
  rw[e];rintro (h | h)
  ·exact af h
  ·omega) ao.size rfl
 have ai:=am M (.cells #[ι e.sy,ι e.th,ι e.br,ι e.fl,ι e.v.kd,ι e.v.n,.slice ea e.v.l.length ec] 307);have bb:=(tB aK ai).kp;have aF:=(bb.blk aj I trivial).1;have bi:=Zh M 307 [ι e.sy,ι e.th,ι e.br,ι e.fl,ι e.v.kd,ι e.v.n,.slice ea e.v.l.length ec];obtain⟨aD,cx,av,cv,bp⟩:=aq.kept bb ai.size trivial;have aC:aT (η E) W wm' L o4 (M.alloc (ε e.sy e.th e.br e.fl e.v ea ec)):=by obtain⟨L',H,h2⟩:=aR;exact⟨L',H.kept bb ai.size fun _ _=>Zk,h2⟩
 have a7:=aJ.kept bb ai.size;have az:=ao.same aw (Zb aK ai);have aL:=aK.below ai;have k5:A (M.alloc (ε e.sy e.th e.br e.fl e.v ea ec)) (ν w) 293 [π p]:=(az.frozen (ν w) a0.out.lt (fun q hq=>by rw[n0] at hq;cases hq)).1.trans a0.out;have bf:=ao.size;clear aq aR aJ bb ai aj ao;unfold bu;go_upto_region 3 with fail;generalize M.alloc (ε e.sy e.th e.br e.fl e.v ea ec)=V at *;refine AD ?_;intro c0 ah e0 f0 e1 f1 e2 f2 e3 f3 e4 f4 e5 f5 e6 f6 e7 f7 aO a1 aB aV an aN a5 aS a' bl;have bn:=χ bi;have a8:=χ aF;have bg:=χ k5;clear bp bi aF ah k5 aG aW a0;go_region_held3 (fun w'=>w'.cell? (κ (ν w) 0)=π p)
   (first | with_reducible exact aB.out _ aV | with_reducible exact aB.out _ aS | with_reducible exact aB.out _ a')
   (fail)
 refine AE ?_;intro F6 s1 s2;generalize (σ8 V p (ι 0) (ι 0) (ι 0) (ι 0) (ι 0) (ι 0) (.slice none 0 0) (ι 6):World)=w6 at *;have ay:=(Zj (ν w6) w6).drew;have aP:=aL.BD s1;have bd:=(tB aP ay).kp;have s2:=s2.kept bd ay.size trivial;have s1:=s1.same aL (Zb aP ay);have F6:Fr (·=p) V w6.drew:=F6.same (ZA ay);clear aP bd ay;generalize w6.drew=w7 at *;have bh:=aL.BD s1;have x7:A w7 (ν M) 307 [ι e.sy,ι e.th,ι e.br,ι e.fl,ι e.v.kd,ι e.v.n,.slice ea e.v.l.length ec]:=(F6.block _ bn.out.lt ω).trans bn.out;have b7:=(F6.block _ a8.out.lt ω).trans a8.out;have k7:A w7 (ν w) 293 [π p]:=(F6.block _ aO a1).trans bg.out;have cb:=Zz b7 0 rfl;have c0:=Zz k7 0 rfl;have ah:=s2.blk;obtain⟨bR,bM,bS,bJ,bQ,bT,bO,bW,bI,bV,bY,bH,bU,bX,bN,bK,-⟩:=kb7 ah;obtain⟨bz,bA,bG,bB,bE,bC,bD,-⟩:=kc6 x7;have aV:w7.drew.heap[w.heap.size]? =w7.heap[w.heap.size]? ∧w7.drew.heap[M.heap.size]? =w7.heap[M.heap.size]? :=⟨rfl,rfl⟩;have bq:M.heap.size≠p:=ω;have bw:w.heap.size < w7.heap.size:=k7.lt;have bx:M.heap.size < w7.heap.size:=x7.lt
 have aN:((σ7 w7 p (ι e.sy) (ι e.th) (ι e.br) (ι e.fl) (ι e.v.kd) (ι e.v.n) (.slice ea e.v.l.length ec):World)).heap[w.heap.size]? =w7.heap[w.heap.size]? ∧((σ7 w7 p (ι e.sy) (ι e.th) (ι e.br) (ι e.fl) (ι e.v.kd) (ι e.v.n) (.slice ea e.v.l.length ec):World)).heap[M.heap.size]? =w7.heap[M.heap.size]? :=⟨(aE (S:=(·=p)) rfl 0 [(0,ι e.sy),(1,ι e.th),(2,ι e.br),(3,ι e.fl),(4,ι e.v.kd),(5,ι e.v.n),(6,.slice ea e.v.l.length ec)] w7).block _ bw a1,(aE (S:=(·=p)) rfl 0 [(0,ι e.sy),(1,ι e.th),(2,ι e.br),(3,ι e.fl),(4,ι e.v.kd),(5,ι e.v.n),(6,.slice ea e.v.l.length ec)] w7).block _ bx bq⟩;have a5:(σ ((σ7 w7 p (ι e.sy) (ι e.th) (ι e.br) (ι e.fl) (ι e.v.kd) (ι e.v.n) (.slice ea e.v.l.length ec):World)) p 7 (ι 3):World).heap[w.heap.size]? =w7.heap[w.heap.size]? ∧(σ ((σ7 w7 p (ι e.sy) (ι e.th) (ι e.br) (ι e.fl) (ι e.v.kd) (ι e.v.n) (.slice ea e.v.l.length ec):World)) p 7 (ι 3):World).heap[M.heap.size]? =w7.heap[M.heap.size]? :=⟨(aE (S:=(·=p)) rfl 0 [(0,ι e.sy),(1,ι e.th),(2,ι e.br),(3,ι e.fl),(4,ι e.v.kd),(5,ι e.v.n),(6,.slice ea e.v.l.length ec),(7,ι 3)] w7).block _ bw a1,(aE (S:=(·=p)) rfl 0 [(0,ι e.sy),(1,ι e.th),(2,ι e.br),(3,ι e.fl),(4,ι e.v.kd),(5,ι e.v.n),(6,.slice ea e.v.l.length ec),(7,ι 3)] w7).block _ bx bq⟩
 have aS:((σ7 w7 p (ι e.sy) (ι e.th) (ι e.br) (ι e.fl) (ι e.v.kd) (ι e.v.n) (.slice ea e.v.l.length ec):World)).drew.heap[w.heap.size]? =w7.heap[w.heap.size]? ∧((σ7 w7 p (ι e.sy) (ι e.th) (ι e.br) (ι e.fl) (ι e.v.kd) (ι e.v.n) (.slice ea e.v.l.length ec):World)).drew.heap[M.heap.size]? =w7.heap[M.heap.size]? :=by rw[an];exact aN
 have a':(σ ((σ7 w7 p (ι e.sy) (ι e.th) (ι e.br) (ι e.fl) (ι e.v.kd) (ι e.v.n) (.slice ea e.v.l.length ec):World)) p 7 (ι 3):World).drew.heap[w.heap.size]? =w7.heap[w.heap.size]? ∧(σ ((σ7 w7 p (ι e.sy) (ι e.th) (ι e.br) (ι e.fl) (ι e.v.kd) (ι e.v.n) (.slice ea e.v.l.length ec):World)) p 7 (ι 3):World).drew.heap[M.heap.size]? =w7.heap[M.heap.size]? :=by rw[an];exact a5
 have aB:=χ (fun (w':World) (h:w'.heap[w.heap.size]? =w7.heap[w.heap.size]? ∧w'.heap[M.heap.size]? =w7.heap[M.heap.size]?)=>(show w'.cell? (κ (ν w) 0)=π p∧w'.cell? (κ (ν M) 0)=ι e.sy∧w'.cell? (κ (ν M) 1)=ι e.th∧w'.cell? (κ (ν M) 2)=ι e.br∧w'.cell? (κ (ν M) 3)=ι e.fl∧w'.cell? (κ (ν M) 4)=ι e.v.kd∧w'.cell? (κ (ν M) 5)=ι e.v.n∧w'.cell? (κ (ν M) 6)=some (.slice ea e.v.l.length ec) from⟨(Zd (w:=w7) h.1).trans c0,(Zd (w:=w7) h.2).trans bz,(Zd (w:=w7) h.2).trans bA,(Zd (w:=w7) h.2).trans bG,(Zd (w:=w7) h.2).trans bB,(Zd (w:=w7) h.2).trans bE,(Zd (w:=w7) h.2).trans bC,(Zd (w:=w7) h.2).trans bD⟩));have bv:=χ s2;clear ah s2 k7 b7 x7 aN a5;go_upto_region 5 with fail;go_region_held3 (fun w'=>w'.cell? (κ (ν w) 0)=π p∧w'.cell? (κ (ν M) 0)=ι e.sy∧w'.cell? (κ (ν M) 1)=ι e.th∧w'.cell? (κ (ν M) 2)=ι e.br∧w'.cell? (κ (ν M) 3)=ι e.fl∧w'.cell? (κ (ν M) 4)=ι e.v.kd∧w'.cell? (κ (ν M) 5)=ι e.v.n∧w'.cell? (κ (ν M) 6)=some (.slice ea e.v.l.length ec))
   (first | with_reducible exact aB.out _ aV | with_reducible exact aB.out _ aS | with_reducible exact aB.out _ a')
   (fail)
 have aX:=a7.kept (s1.et (K:=(·≠p)) fun _ h=>h) s1.size;obtain⟨t1,t2⟩:=bv.out.entry bh e ea ec aX 3;have e9:a3 w7 p 0 [(0,ι e.sy),(1,ι e.th),(2,ι e.br),(3,ι e.fl),(4,ι e.v.kd),(5,ι e.v.n),(6,.slice ea e.v.l.length ec),(7,ι 3)]=(σ7 w7 p (ι e.sy) (ι e.th) (ι e.br) (ι e.fl) (ι e.v.kd) (ι e.v.n) (.slice ea e.v.l.length ec):World).setCell ⟨p,7,none⟩ (ι 3):=rfl;rw[e9] at t1 t2;generalize (σ8 w7 p (ι e.sy) (ι e.th) (ι e.br) (ι e.fl) (ι e.v.kd) (ι e.v.n) (.slice ea e.v.l.length ec) (ι 3):World)=w8 at *;have bj:=(Zj (ν w8) w8).drew;have bt:=bh.BD t1;have t2:=t2.kept (kB bt bj) bj.size trivial;have t1:=s1.same aL (t1.same bh (Zb bt bj));have HF:=χ (be.BY (b:=false) z ((bF.out.more (D':=fun k=>k∈L∨k=p) z fun _ _ h=>h.elim).trans z az fun k hk h=>h.imp id fun h=>by omega) (show w.heap.size≤E.heap.size+1 by omega) af aQ aC t1 ⟨_,_,_,_,t2⟩);clear t1 t2 s1 aC az bv aB aX a7;go_wp2_with fail;go_ret;exact HF.out
def AF {p q:Prop} (k:q) (h:Zq q→p:=by
 intro mq;have aK:=aw.BD ao
 have aq:=aW.out.kept (ao.et (K:=(·=p)) fun q e=>by
  rw[e];rintro (h | h)
  ·exact af h
  ·omega) ao.size rfl
 have ai:=am M (.cells #[ι 0,ι 0,ι 0,ι 0,ι 0,ι 0,ζ] 307);have bb:=(tB aK ai).kp;have aF:=(bb.blk aj I trivial).1;obtain⟨aD,cx,av,cv,bp⟩:=aq.kept bb ai.size trivial;have aC:aT (η E) W wm' L o4 (M.alloc θ):=by obtain⟨L',H,h2⟩:=iq aR;exact⟨L',H.kept bb ai.size fun _ _=>Zk,h2⟩
 have az:=ao.same aw (Zb aK ai);have aL:=aK.below ai;revert aK aq ai bb aF aD cx av cv bp aC az aL
 exact mq.u):p:=h ⟨k⟩
def p3 (z:Wf o w) (hI:aI o w W wm L) (hE:a6 o w) (hP:a9 o w p m) (af:p∉L) (h:eG m.n (!(m.kd == 5)) 0 wm=(.ok none,wm')):Calls prog 305 #[π p,π W] w (be W p {m with ent:=bL,at_:=6} wm' L false o w):=by
 obtain⟨w1,ae,z1,b1,O⟩:=al1 w 293 [aA p];obtain⟨G,ap,z2,b2,Z,au⟩:=al2 b1 z1 27 [aA W];replace O:=au _ _ _ O;clear au;refine AC ?_;intro aM wx ac E ax cX gX z3 O Z k2 ak n0 n1 n2;generalize o.set (w.heap.size+1+1) (some (w.heap.size+1+1))=o3 at *;refine zb ?_;intro ag aw aU ba aY ad hL aQ;have aG:=j' 339 #[π (η w),ϖ w,π (ς w)] (fun k=>k∈L∨k=w.heap.size+1+1) (b9 (η E) W wm' L none (w.heap.size+1+1)) o3 E aw
   (fun k hk=>by rcases hk with h | h;· have:=hL k h;omega
                 ·omega)
   (b9.stays (fun k hk=>by have:=hL k hk;omega) ω ω) b9.agg Ψ
   (fun o2 M aK ao aZ=>by
     have aa:=ao.kp
     exact lA aK (ba.kept aa ao.size fun _ _=>Zk) (aY.kept aa) (ad.kept aa ao.size trivial) af h _ _ _ _ ω (aa.BF Z n1).1 (aa.BF O n0).1 (aa.blk k2 n2 trivial).1 (aa.BF Z n1).2 (aa.BF O n0).2 (aa.blk k2 n2 trivial).2 (fun h=>by have:=hL _ h;omega) ω)
 have bF:=χ ag;have aW:=χ ad;have a0:=χ O;clear hE aY hI ba hP ad h Z k2 n1 n2 ag aU ak O;unfold aA at *;go_enter func305,ntmps305;go_wp2_with fail;refine aG.mono ?_;rintro e1 M ⟨o4,ao,l,rfl,aR,b,Y,aj,I⟩;obtain⟨rfl,rfl⟩:=Y;refine AF ?_;intro aK aq ai bb aF aD cx av cv bp aC az aL;have k5:A (M.alloc θ) (ν w) 293 [π p]:=(az.frozen (ν w) a0.out.lt (fun q hq=>by rw[n0] at hq;cases hq)).1.trans a0.out;clear aq aR bb ai aj ao;go_upto_region 3 with fail;generalize M.alloc θ=V at *;refine AD ?_;intro c0 ah e0 f0 e1 f1 e2 f2 e3 f3 e4 f4 e5 f5 e6 f6 e7 f7 aO a1 aB aV an aN a5 aS a' bl;have a8:=χ aF;have bg:=χ k5;clear bp aF ah k5 aG aW a0;go_region_held3 (fun w'=>w'.cell? (κ (ν w) 0)=π p)
   (first | with_reducible exact aB.out _ aV | with_reducible exact aB.out _ aS | with_reducible exact aB.out _ a')
   (fail)
 refine AE ?_;intro F6 s1 s2;generalize (σ8 V p (ι 0) (ι 0) (ι 0) (ι 0) (ι 0) (ι 0) (.slice none 0 0) (ι 6):World)=w6 at *;have ay:=(Zj (ν w6) w6).drew;have aP:=aL.BD s1;have bd:=(tB aP ay).kp;have s2:=s2.kept bd ay.size trivial;have s1:=s1.same aL (Zb aP ay);have F6:Fr (·=p) V w6.drew:=F6.same (ZA ay);clear aP bd ay;generalize w6.drew=w7 at *;have b7:=(F6.block _ a8.out.lt ω).trans a8.out;have k7:A w7 (ν w) 293 [π p]:=(F6.block _ aO a1).trans bg.out;have cb:=Zz b7 0 rfl;have c0:=Zz k7 0 rfl;have HF:=χ (be.BY (b:=false) z ((bF.out.more (D':=fun k=>k∈L∨k=p) z fun _ _ h=>h.elim).trans z az fun k hk h=>h.imp id fun h=>by omega) (show w.heap.size≤E.heap.size+1 by omega) af aQ aC s1 ⟨_,_,_,_,s2⟩);clear s1 s2 aC az;go_wp2_with fail;go_ret;exact HF.out
end
end
end Go.Proofs.YtmchabopafimeaaGreatDoor
