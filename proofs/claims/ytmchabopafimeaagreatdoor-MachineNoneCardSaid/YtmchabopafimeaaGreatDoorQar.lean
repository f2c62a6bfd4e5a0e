import Derived.Test.YtmchabopafimeaaGreatDoorQaq
import Derived.Test.YtmchabopafimeaaGreatDoorQap
import Derived.Deep.MidRow
namespace Go.Proofs.YtmchabopafimeaaGreatDoor
set_option maxRecDepth 100000
set_option maxHeartbeats 16000000
set_option linter.all false
open Go.RowKit Go.Sort Tryz
section
section
variable {o o':ab} {w w' V:World} {g c:Nat} {F:ba} {va fa:Option Addr} {vc fc:Nat} {xs ys zs:List a5} {x y:a5}
def aP.C0 {X:Nat→Prop} (h:aP o w g y) (U:J (·=g) o w o' w') (hk:∀b,b < w.heap.size→¬X b→w'.heap[b]? =w.heap[b]? ∧o' b=o b) (hr:∀q,(Value.slice y.da y.f.dn.length y.dc).ownBlock=some q→¬X q):aP o' w' g y:=by exact AP
def aF.pop {L} (h:aF o w g c F va vc (some ⟨L,0,none⟩) fc (ys ++ [x])) (z:Wf o w) :
  J (·=g) o w o (σ w g 5 (.slice (Γ L) ys.length fc):World)∧aF o (σ w g 5 (.slice (Γ L) ys.length fc)) g c {F with fs:=ys.map a5.f} va vc (some ⟨L,0,none⟩) fc ys:=by
 have U:=Z3 (D:=(·=g)) z h.own rfl 5 (.slice (Γ L) ys.length fc);have I:=U.et (K:=(·≠g)) fun _ h=>h;refine⟨U,h.blk.set 5 _,h.own,h.val.kept I U.size,rfl,?_,?_,(ZK.1 h.dis).1,h.zv⟩
 ·obtain⟨rs,H,h2⟩:=h.row
  obtain⟨a,cap,e,e1,-,-⟩:=h.row.form;injection e with _ _ e3;subst e3;have aI:(ys ++ [x]).length=ys.length+1:=by simp
  have hc:=H.row.cut (m:=ys.length) (c:=fc) ω ω (Zc _);have aK:=h2.take ys.length;rw[List.take_left] at aK;refine⟨rs.take (ys.length*4),⟨?_,fun q hq=>?_⟩,aK⟩
  ·exact hc.et fun b hb _=>Z0 _ _ _ _ (fun e=>bq h.blk hc φ (by rw[hb,e]))
  ·exact H.own q hq
 ·intro O hz
  obtain⟨q1,q2,q3,rs,q4,q5⟩:=h.ok O (Zm _ hz);exact⟨q1.kept I U.size,q2,q3,rs,q4.BH (bq h.blk q4.row φ) _ _,q5.mono fun _ _ hv=>hv.kept I U.size⟩
def wV {rs n} (hn:rs.length=n) (a b d v0 v1 v2:Value):(((rs ++ [a,b,d]).set n v0).set (n+1) v1).set (n+2) v2=rs ++ [v0,v1,v2]:=by subst hn;rw[List.set_append_right _ _ ω,List.set_append_right _ _ ω,List.set_append_right _ _ ω];simp
def aF.done {L} (h:aF o w g c F va vc (some ⟨L,0,none⟩) fc (zs ++ [y])) (z:Wf o w) {rs} (aX:aD (ak (Fz o w) w) 3 y.f.dn rs) (aH:aw o w g 86 3 (.slice y.da y.f.dn.length y.dc) y.f.dn.length rs) {g5 cap a b d} (hr:aQ V 86 3 (.slice (Γ g5) (y.f.dn.length+1) cap) (y.f.dn.length+1) (rs ++ [a,b,d])) (hg:w.grownBy V (Value.slice y.da y.f.dn.length y.dc).ownBlock) (ha:(Value.slice y.da y.f.dn.length y.dc).ownBlock=some g5∨g5=w.heap.size) {t v0 v1 v2} (hv:aG (Fz o w) w t (.agg #[v0,v1,v2])) :
  ∃o5,J (·=g) o w o5 (σ (σ (σ (σ V g5 (y.f.dn.length*3) v0) g5 (y.f.dn.length*3+1) v1) g5 (y.f.dn.length*3+2) v2) L (zs.length*4+3) (.slice (Γ g5) (y.f.dn.length+1) cap):World) ∧
   aF o5 (σ (σ (σ (σ V g5 (y.f.dn.length*3) v0) g5 (y.f.dn.length*3+1) v1) g5 (y.f.dn.length*3+2) v2) L (zs.length*4+3) (.slice (Γ g5) (y.f.dn.length+1) cap)) g c {F with fs:=(zs ++ [(⟨⟨y.f.fn,y.f.nd,y.f.vars,y.f.dn ++ [t]⟩,y.va,y.vc,some ⟨g5,0,none⟩,cap⟩:a5)]).map a5.f} va vc (some ⟨L,0,none⟩) fc (zs ++ [⟨⟨y.f.fn,y.f.nd,y.f.vars,y.f.dn ++ [t]⟩,y.va,y.vc,some ⟨g5,0,none⟩,cap⟩]):=by
 obtain⟨bp,e,ad,hfo,-⟩:=h.frame (k:=zs.length) (x:=y) ξ;injection e with e;injection e with e _ _;subst e;obtain⟨t1,r1⟩:=aH.BM z h.blk.lt hr hg ha;obtain⟨rf,f1,f2⟩:=h.row;have aL:=z.BD t1;have G:(Value.slice y.da y.f.dn.length y.dc).ownBlock≠some g:=bq h.blk aH.row φ;have H:(Value.slice y.da y.f.dn.length y.dc).ownBlock≠some L:=fun e=>gm aH.row f1.row φ L e rfl;have h5:∀q,q < w.heap.size→(Value.slice y.da y.f.dn.length y.dc).ownBlock≠some q→q≠g5:=by
  intro q hq ay e;rcases ha with e2 | e2
  ·exact ay (by rw[e];exact e2)
  ·omega
 have aO:=h5 g h.blk.lt G;have aa:=h5 L ad H;have aj:(o.set g5 (some g)) g5=some g:=Zw _ _ _;have ao:(o.set g5 (some g)) L=some g:=(Y2 _ _ aa).trans hfo;have s1:=Z3 (D:=(·=g)) aL aj rfl (y.f.dn.length*3) v0;have s2:=Z3 (D:=(·=g)) (aL.BD s1) aj rfl (y.f.dn.length*3+1) v1;have s3:=Z3 (D:=(·=g)) ((aL.BD s1).BD s2) aj rfl (y.f.dn.length*3+2) v2;have s4:=Z3 (D:=(·=g)) (((aL.BD s1).BD s2).BD s3) ao rfl (zs.length*4+3) (.slice (Γ g5) (y.f.dn.length+1) cap);have U:=t1.same z (s1.same aL (s2.same (aL.BD s1) (s3.same ((aL.BD s1).BD s2) s4)));have I:=U.et (K:=(·≠g)) fun _ h=>h;have hk:∀q,q < w.heap.size→¬((Value.slice y.da y.f.dn.length y.dc).ownBlock=some q∨q=L)→(σ (σ (σ (σ V g5 (y.f.dn.length*3) v0) g5 (y.f.dn.length*3+1) v1) g5 (y.f.dn.length*3+2) v2) L (zs.length*4+3) (.slice (Γ g5) (y.f.dn.length+1) cap):World).heap[q]? =w.heap[q]? ∧(o.set g5 (some g)) q=o q:=by intro q hq ay;have ah:=h5 q hq fun e=>ay (.inl e);refine⟨?_,Y2 _ _ ah⟩;rw[Below.heap_setCell _ _ _ _ (fun e=>ay (.inr e)),Below.heap_setCell _ _ _ _ ah,Below.heap_setCell _ _ _ _ ah,Below.heap_setCell _ _ _ _ ah];exact hg.block q hq fun e=>ay (.inl e.symm)
 have M:g≠L:=fun e=>bq h.blk f1.row φ (by rw[e];rfl);obtain⟨Z,k2⟩:=hk g h.blk.lt (by rintro (e | e);exact G e;exact M e);refine⟨_,U,?_,k2.trans h.own,h.val.kept I U.size,rfl,?_,?_,?_,h.zv⟩
 ·have:=Z.trans h.blk
  rw[List.length_append] at this ⊢;exact this
 ·have e5:V.heap[L]? =w.heap[L]? :=hg.block L ad fun e=>H e.symm
  have q1:=(f1.row.et (w':=(σ (σ V g5 (y.f.dn.length*3) v0) g5 (y.f.dn.length*3+1) v1:World).setCell ⟨g5,y.f.dn.length*3+2,none⟩ v2) (fun b hb _=>by
    obtain rfl:L=b:=by simpa [Value.ownBlock] using hb
    rw[Below.heap_setCell _ _ _ _ aa,Below.heap_setCell _ _ _ _ aa,Below.heap_setCell _ _ _ _ aa]
    exact e5)).stored (zs.length*4+3) (.slice (Γ g5) (y.f.dn.length+1) cap)
  refine⟨rf.set (zs.length*4+3) (.slice (Γ g5) (y.f.dn.length+1) cap),⟨?_,fun q hq=>?_⟩,?_⟩
  ·rw[List.length_append] at q1 ⊢
   exact q1
  ·obtain rfl:L=q:=by simpa [Value.ownBlock] using hq
   exact ao
  ·have:=f2.cell (x:=⟨⟨y.f.fn,y.f.nd,y.f.vars,y.f.dn ++ [t]⟩,y.va,y.vc,some ⟨g5,0,none⟩,cap⟩) (u:= .slice (Γ g5) (y.f.dn.length+1) cap) (j:=zs.length) (y:=y) ξ (i:=3) ω (fun cs _ hp=>by unfold g4 at hp ⊢;rw[hp];simp[cb])
   rwa [kR] at this
 ·intro O hz
  rcases Zv.1 hz with hz | hz
  ·refine (h.ok O (Zm _ hz)).C0 U hk ?_
   intro q hq hX;have A:=(h.ok O (Zm _ hz)).dn.choose_spec.1.row;rcases hX with e | e
   ·have hd:=h.BU O hz
    have c1:O.da=some ⟨q,0,none⟩:=by
     rcases A.2 with ⟨e1,-⟩ | ⟨E,aA,cu,e1,-⟩
     ·rw[e1] at hq;cases hq
     ·injection e1 with e1
      rw[e1] at hq;obtain rfl:E=q:=by simpa [Value.ownBlock] using hq
      exact e1
    have c2:y.da=some ⟨q,0,none⟩:=by
     rcases aH.row.2 with ⟨e1,-⟩ | ⟨E,aA,cu,e1,-⟩
     ·rw[e1] at e;cases e
     ·injection e1 with e1
      rw[e1] at e;obtain rfl:E=q:=by simpa [Value.ownBlock] using e
      exact e1
    exact hd _ c1 c2
   ·subst e
    exact gm A f1.row φ q hq rfl
  ·rw[List.mem_singleton.1 hz]
   have hy:=h.BK
   have q1:=(((r1.row.stored (y.f.dn.length*3) v0).stored (y.f.dn.length*3+1) v1).stored (y.f.dn.length*3+2) v2).et (w':=(σ (σ (σ V g5 (y.f.dn.length*3) v0) g5 (y.f.dn.length*3+1) v1) g5 (y.f.dn.length*3+2) v2:World).setCell ⟨L,zs.length*4+3,none⟩ (.slice (Γ g5) (y.f.dn.length+1) cap)) (fun b hb _=>by
     obtain rfl:g5=b:=by simpa [Value.ownBlock] using hb
     exact Z0 _ _ _ _ (fun e=>aa e.symm))
   have aq:rs.length=y.f.dn.length*3:=aX.1;rw[wV aq] at q1;obtain⟨a',aA,e,e1,e2,-⟩:=hr.form;injection e with _ _ e3;refine⟨hy.vars.kept I U.size,hy.vle,hy.vcm,rs ++ [v0,v1,v2],⟨?_,fun q hq=>?_⟩,?_⟩
   ·have Y:(y.f.dn ++ [t]).length=y.f.dn.length+1:=by simp
    dsimp only;rw[Y];exact q1
   ·obtain rfl:g5=q:=by simpa [Value.ownBlock] using hq
    exact aj
   ·exact (aX.mono fun _ _ hc=>hc.kept I U.size).push ⟨v0,v1,v2,rfl,hv.kept I U.size⟩ rfl
 ·rw[List.pairwise_append]
  refine⟨(ZK.1 h.dis).1,ZU _ _,fun O hz u hu=>?_⟩;rw[List.mem_singleton.1 hu];intro b hb e;dsimp only at e;injection e with e;subst e;obtain⟨rz,a0,-⟩:=(h.ok O (Zm _ hz)).dn;rw[hb] at a0;rcases ha with e2 | e2
  ·have c2:y.da=some ⟨g5,0,none⟩:=by
    rcases aH.row.2 with ⟨e1,-⟩ | ⟨E,aA,cu,e1,-⟩
    ·rw[e1] at e2;cases e2
    ·injection e1 with e1
     rw[e1] at e2;obtain rfl:E=g5:=by simpa [Value.ownBlock] using e2
     exact e1
   exact h.BU O hz _ hb c2
  ·have:=a0.row.lt (g:=g5) rfl
   omega
def aF.over (h:aF o w g c F va vc fa fc xs) (z:Wf o w) {t ta tc} (hv:aG (Fz o w) w t (.agg (υ t ta tc))) :
  J (·=g) o w o (σ (σ (σ (σ (σ w g 1 (ι 3)) g 2 (ι t.kd)) g 3 (ι t.n)) g 4 (.slice ta t.l.length tc)) g 5 (.slice none 0 0):World) ∧
  aF o (σ (σ (σ (σ (σ w g 1 (ι 3)) g 2 (ι t.kd)) g 3 (ι t.n)) g 4 (.slice ta t.l.length tc)) g 5 (.slice none 0 0)) g c ⟨3,t,[]⟩ ta tc none 0 []:=by have t1:=Z3 (D:=(·=g)) z h.own rfl 1 (ι 3);have t2:=t1.same z (Z3 (D:=(·=g)) (z.BD t1) h.own rfl 2 (ι t.kd));have t3:=t2.same z (Z3 (D:=(·=g)) (z.BD t2) h.own rfl 3 (ι t.n));have t4:=t3.same z (Z3 (D:=(·=g)) (z.BD t3) h.own rfl 4 (.slice ta t.l.length tc));have t5:=t4.same z (Z3 (D:=(·=g)) (z.BD t4) h.own rfl 5 (.slice none 0 0));have I:=t5.et (K:=(·≠g)) fun _ h=>h;exact⟨t5,(((((h.blk.set 1 _).set 2 _).set 3 _).set 4 _).set 5 _),h.own,hv.kept I t5.size,rfl,Yd _ _ _ _ _ _,fun x hx=>by simp at hx,Yr,.inl rfl⟩
end
end
section
section
variable {o o':ab} {w w' V:World} {g c:Nat} {F:ba} {va fa pa:Option Addr} {vc fc pc:Nat} {xs ys zs:List a5} {x y:a5} {p:List Fn} {R:ba}
def jx (w:World) {p q} (h:p.block≠q.block) (u v):(w.setCell p u).setCell q v=(w.setCell q v).setCell p u:=by
 unfold World.setCell;dsimp only
 congr 1
 apply Array.ext_getElem?;intro i;simp only[Array.getElem?_modify]
 by_cases H:p.block=i <;> by_cases h2:q.block=i
 ·exact absurd (H.trans h2.symm) h
 ·simp[H,h2]
 ·simp[H,h2]
 ·simp[H,h2]
def uJ (w:World) {g L i j k l} (h:L≠g) (a b d e):(σ (σ (σ w L l e) g i a) g j b:World).setCell ⟨g,k,none⟩ d=(σ (σ (σ w g i a) g j b) g k d:World).setCell ⟨L,l,none⟩ e:=by rw[jx w (p:=κ L l) (q:=κ g i) h,jx _ (p:=κ L l) (q:=κ g j) h,jx _ (p:=κ L l) (q:=κ g k) h]
def f4 {o w} (z:Wf o w):aM (fun _=>True) o w o w.drew:=(tB z (Zj (ν w) w).drew).et fun _ _=>id
def J.BR {D o o' w w'} (z:Wf o w) (h:J D o w o' w'):J D o w o' w'.drew:=h.same z (Zb (z.BD h) (Zj (ν w') w').drew)
def aF.BR (h:aF o w g c F va vc fa fc xs) (z:Wf o w):aF o w.drew g c F va vc fa fc xs:=h.kept (f4 z) (Zc _) trivial
def vu {L t ta tc} (z:Wf o w) (h:aF o w g c F va vc (some ⟨L,0,none⟩) fc [x]) (hv:aG (Fz o w) w t (.agg (υ t ta tc))) :
  Calls prog 169 #[π g,.agg (υ t ta tc)] w (cY o w g c ⟨3,t,[]⟩):=by
 obtain⟨w1,aP,-,b1,O⟩:=al1 w 86 [ι t.kd,ι t.n,.slice ta t.l.length tc];have Y:=(tB z b1).kp;have H:=h.kept Y b1.size trivial;have ae:=z.below b1;have ao:=hv.kept Y b1.size;obtain⟨-,-,-,-,-,-,q1,q2⟩:=H.frame (k:=0) (x:=x) rfl;obtain⟨t1,p1⟩:=aF.pop (ys:=[]) H ae;have c5:=H.blk.c 5 rfl;have f5:=H.blk.fz 5;have ad:=h.blk.lt;have HT:=χ (⟨(Zb (D:=(·=g)) z b1).same z t1,p1,ae.BD t1,ao.kept (t1.et (K:=(·≠g)) fun _ h=>h) t1.size,O.BJ (q:=κ g 5) Ω (.slice (Γ L) 0 fc)⟩:_∧_∧_∧_∧_);clear h H hv ao O t1 p1 Y ae;go_enter func169,ntmps169;go_upto_region 1 with fail;clear aP;go_region;obtain⟨u1,u2,u3,u4,u5⟩:=HT.out;clear HT c5 f5 b1;generalize (σ w1 g 5 (.slice (Γ L) ([]:List a5).length fc):World)=G at *;have bd:Below (ν G) G G.drew:=(Zj _ _).drew;have bh:=(tB u3 bd).kp;have v2:=u2.kept bh bd.size trivial;have v1:=u1.same z (Zb u3 bd);have v3:=u3.below bd;have I:=u4.kept bh bd.size;have v5:A G.drew (ν w) 86 [ι t.kd,ι t.n,.slice ta t.l.length tc]:=u5
 change Exit.then _ _ _ _ G.drew
 clear u1 u2 u3 u4 u5 bh bd;generalize G.drew=E at *;obtain⟨s1,s2⟩:=v2.over v3 I;obtain⟨-,-,c1,f1,c2,f2,c3,f3,c4,f4,c5,f5,-⟩:=kb5 v2.blk;obtain⟨y0,y1,y2,-⟩:=kc2 v5;rw[List.length_nil] at c5;have HE:=χ (⟨rfl,o,J.BR z (v1.same z s1),_,_,_,_,_,s2.BR (v3.BD s1)⟩:cY o w g c ⟨3,t,[]⟩ (.returned (.tuple #[])) (σ (σ (σ (σ (σ E g 1 (ι 3)) g 2 (ι t.kd)) g 3 (ι t.n)) g 4 (.slice ta t.l.length tc)) g 5 (.slice none 0 0):World).drew);clear s1 s2 v1 v2 I v5;go_upto_region 3 with fail;go_region;go_wp2_with fail;go_end0;exact⟨rfl,HE.out.2⟩
def qy {L t ta tc fn nd} (z:Wf o w) (h:aF o w g c F va vc (some ⟨L,0,none⟩) fc ((zs ++ [y]) ++ [x])) (hc:dW o w c p pa pc) (h0:F.val=vZ) (hv:aG (Fz o w) w t (.agg (υ t ta tc))) (hl:zs.length≤1000) (hd:y.f.dn.length≤1000) (a1:p[y.f.fn]? =some fn) (bz:fn.ns[y.f.nd]? =some nd) (k) (hR:cJ p k (zs.map a5.f ++ [⟨y.f.fn,y.f.nd,y.f.vars,y.f.dn ++ [t]⟩])=R) (hk:df p k (zs.map a5.f ++ [⟨y.f.fn,y.f.nd,y.f.vars,y.f.dn ++ [t]⟩])=true) :
  Calls prog 169 #[π g,.agg (υ t ta tc)] w (cY o w g c R):=by
 obtain⟨w1,aP,-,b1,O⟩:=al1 w 86 [ι t.kd,ι t.n,.slice ta t.l.length tc];have Y:=(tB z b1).kp;have H:=h.kept Y b1.size trivial;have ae:=z.below b1;have ao:=hv.kept Y b1.size;have aB:=hc.kept Y b1.size;obtain⟨-,-,-,-,-,-,q1,q2⟩:=H.frame (k:=(zs ++ [y]).length) (x:=x) ξ;have aI:((zs ++ [y]) ++ [x]).length=zs.length+1+1:=by simp
 have ac:(zs ++ [y]).length=zs.length+1:=by simp
 rw[aI] at q1;obtain⟨t1,p1⟩:=H.pop ae;have c5:=H.blk.c 5 rfl;rw[aI] at c5;rw[ac] at t1 p1;have f5:=H.blk.fz 5;have ad:=h.blk.lt;have HT:=χ (⟨(Zb (D:=(·=g)) z b1).same z t1,p1,ae.BD t1,ao.kept (t1.et (K:=(·≠g)) fun _ h=>h) t1.size,O.BJ (q:=κ g 5) Ω (.slice (Γ L) (zs.length+1) fc),aB.kept (t1.et (K:=(·≠g)) fun _ h=>h) t1.size⟩:_∧_∧_∧_∧_∧_);clear h H hv ao O t1 p1 Y ae hc aB;obtain⟨n,hn⟩:∃n,zs.length=n:=⟨_,rfl⟩;rw[hn] at c5 q1 hl;have HN:=χ hn;clear hn aI ac;go_enter func169,ntmps169;go_upto_region 1 with fail;clear aP;go_region;obtain⟨u1,u2,u3,u4,u5,u6⟩:=HT.out;rw[HN.out] at u1 u2 u3 u4 u5 u6;clear HT c5 f5 b1;generalize (σ w1 g 5 (.slice (Γ L) (n+1) fc):World)=G at *;have v1:=J.BR z u1;have v2:=u2.BR u3;have v3:=u3.below (Zj (ν G) G).drew;have I:=u4.kept (f4 u3) (Zc _);have v5:A G.drew (ν w) 86 [ι t.kd,ι t.n,.slice ta t.l.length tc]:=u5;have v6:=u6.kept (f4 u3) (Zc _)
 change Exit.then _ _ _ _ G.drew
 clear u1 u2 u3 u4 u5 u6;generalize G.drew=E at *;have aS:=iA v3 v2 v6 a1 bz (by rw[HN.out];omega);rw[HN.out] at aS;have c5:=v2.blk.c 5 rfl;rw[show (zs ++ [y]).length=n+1 by rw[List.length_append,HN.out];rfl] at c5;have ap:((n:Int)+1 == 0)=false:=by simp;omega
 go_upto_region 5 with (go_at_call 127;refine aS.mono ?_;rintro e M ⟨ah,bp,la,lc,e,rfl,bw,bu,bx⟩;injection e with e;injection e with e _ _;subst e;unfold bT);obtain⟨V,a7⟩:∃u,(M.alloc (.cells #[ι nd.op,ι nd.n,.slice la nd.l.length lc] 141))=u:=⟨_,rfl⟩;have ai:Below (ν E) E V:=by rw[←a7];exact ah.alloc ah.size _
 rw[a7];clear a7 ah aS bx bw bu c5;obtain⟨wd,ax⟩:∃u,V.drew=u:=⟨_,rfl⟩;have aM:Below (ν E) E wd:=by rw[←ax];exact ai.drew
 clear ai;have aU:=(tB v3 aM).kp;have x1:=v1.same z (Zb v3 aM);have x2:=v2.kept aU aM.size trivial;have x3:=v3.below aM;have x4:=I.kept aU aM.size;have x5:=(aM.block _ v5.lt).trans v5;have x6:=v6.kept aU aM.size;have an:w.heap.size < wd.heap.size:=Za v5.lt aM.size;clear v1 v2 v3 I v5 v6 aU;obtain⟨wa,ag⟩:∃u,wd.alloc θ1=u:=⟨_,rfl⟩;have aK:Below (ν wd) wd wa:=by rw[←ag];exact am wd _
 have Z:=(tB x3 aK).kp;have y1:=x1.same z (Zb x3 aK);have y2:=x2.kept Z aK.size trivial;have y3:=x3.below aK;have y4:=x4.kept Z aK.size;have y5:A wa (ν w) 86 [ι t.kd,ι t.n,.slice ta t.l.length tc]:=(aK.block _ an).trans x5;have y6:=x6.kept Z aK.size;have aW:wa.heap[wd.heap.size]? =some (.cells [.int .i64 0,.int .i64 0,.slice none 0 0].toArray 86 (0,0)):=by rw[←ag];exact Zh wd 86 _
 obtain⟨bp,e,aY,hfo,aj,-,-,-⟩:=x2.frame (k:=zs.length) (x:=y) ξ;injection e with e;injection e with e _ _;subst e;have d3:=aj 3 _ rfl;rw[HN.out] at d3;obtain⟨z0,z1,z2,-⟩:=kc2 x5;have aC:=(aK.cell (p:=κ L (n*4+3)) aY).trans d3;obtain⟨aw,aD,aA,-⟩:=kc2 y5;obtain⟨rs,aH,aX⟩:=y2.BK.dn;have bc:(y.f.dn.length:Int) < (y.f.dn.length:Int)+1:=ω;obtain⟨rf,aJ,-⟩:=y2.row;have aa:∀g5,(Value.slice y.da y.f.dn.length y.dc).ownBlock=some g5∨g5=wa.heap.size→L≠g5:=by
  intro g5 h3 e;rcases h3 with h3 | h3
  ·exact gm aH.row aJ.row φ g5 h3 (by rw[←e];rfl)
  ·have:=aK.size;omega
 have HS:=χ (fun (g5 a0:Nat) w6 (H:aQ w6 86 3 (.slice (Γ g5) (y.f.dn.length+1) a0) (y.f.dn.length+1) (rs ++ [.int .i64 0,.int .i64 0,.slice none 0 0])) (h2:wa.grownBy w6 (Value.slice y.da y.f.dn.length y.dc).ownBlock) (h3:(Value.slice y.da y.f.dn.length y.dc).ownBlock=some g5∨g5=wa.heap.size)=>(show
   w6.cell? (κ g5 (y.f.dn.length*3))=ι 0∧w6.cell? (κ g5 (y.f.dn.length*3+1))=ι 0∧w6.cell? (κ g5 (y.f.dn.length*3+2))=ζ∧(∀q,w6.frozen? (κ g5 q)=false) ∧
   w6.cell? (κ L (n*4+3))=some (.slice y.da y.f.dn.length y.dc)∧w6.frozen? (κ L (n*4+3))=false from by
   obtain⟨a,cap,e,-,-,q⟩:=H.form;injection e with e _ _;subst e;have aq:rs.length=y.f.dn.length*3:=aX.1;have U:∀i u,([.int .i64 0,.int .i64 0,.slice none 0 0]:List Value)[i]? =some u→w6.cell? (κ g5 (y.f.dn.length*3+i))=some u∧∀q,w6.frozen? (κ g5 q)=false:=by intro i u hu;obtain⟨g',e,-,q3,q4⟩:=q (y.f.dn.length*3+i) u (by rw[List.getElem?_append_right ω,aq];simpa using hu);injection e with e;injection e with e;subst e;exact⟨q3,q4⟩
   have af:w6.heap[L]? =wd.heap[L]? :=(h2.block L (Za aY aK.size) (fun e=>gm aH.row aJ.row φ L e.symm rfl)).trans (aK.block L aY);refine⟨(U 0 _ rfl).1,(U 1 _ rfl).1,(U 2 _ rfl).1,(U 0 _ rfl).2,(Zd (w:=wd) af).trans d3,?_⟩;obtain⟨aE,e,-,-,-,q5,-,-⟩:=x2.frame (k:=zs.length) (x:=y) ξ;injection e with e;injection e with e;subst e;have:=q5 (n*4+3);unfold World.frozen? at this ⊢
   rwa [af]))
 have HD:=χ (fun (g5 a0:Nat) w6 (H:aQ w6 86 3 (.slice (Γ g5) (y.f.dn.length+1) a0) (y.f.dn.length+1) (rs ++ [.int .i64 0,.int .i64 0,.slice none 0 0])) (h2:wa.grownBy w6 (Value.slice y.da y.f.dn.length y.dc).ownBlock) (h3:(Value.slice y.da y.f.dn.length y.dc).ownBlock=some g5∨g5=wa.heap.size)=>(show
   Calls prog 123 #[π g] (σ (σ (σ (σ w6 g5 (y.f.dn.length*3) (ι t.kd)) g5 (y.f.dn.length*3+1) (ι t.n)) g5 (y.f.dn.length*3+2) (.slice ta t.l.length tc)) L (n*4+3) (.slice (Γ g5) (y.f.dn.length+1) a0)) (cY o w g c R) from by
   obtain⟨o5,s1,s2⟩:=y2.done y3 aX aH H h2 h3 y4;rw[HN.out] at s1 s2;have be:=y6.kept (s1.et (K:=(·≠g)) fun _ h=>h) s1.size;refine (nB (y3.BD s1) s2 be h0 k (by simpa using hR) (by simpa using hk)).mono ?_;rintro e w7 ⟨rfl,o7,r1,r2⟩
   exact⟨rfl,o7,y1.same z (s1.same y3 r1),r2⟩))
 clear x1 x2 x3 x4 x5 x6 y1 y2 y3 y4 y5 y6 aj Z aM;go_region_law (refine ij _ (by rfl) _ _ 84 86 _ 3 40 underlying84 jw rfl φ φ (by rfl) (.slice y.da y.f.dn.length y.dc) _ _ (by rfl) aH.row (ν wd) [ι 0,ι 0,ζ] (by rfl) aW rfl (by intro u hu;simp only[List.mem_cons,List.not_mem_nil,or_false] at hu;rcases hu with rfl | rfl | rfl <;> rfl) ω ?_;intro g5 a0 w6 H h2 h3 h4 h5;obtain⟨e0,e1,e2,fz,e3,f3⟩:=HS.out g5 a0 w6 H h2 h3;have ay:=aa g5 h3;have az:=Yv ay;have f0:=fz (y.f.dn.length*3);have f1:=fz (y.f.dn.length*3+1);have f2:=fz (y.f.dn.length*3+2);have ak:=HD.out g5 a0 w6 H h2 h3;clear fz)
 all_goals clear H h2 h4 h5 e0 e1 e2 e3 f0 f1 f2 f3
 all_goals try rw[uJ w6 ay]
 all_goals generalize (σ (σ (σ (σ w6 g5 (y.f.dn.length*3) (ι t.kd)) g5 (y.f.dn.length*3+1) (ι t.n)) g5 (y.f.dn.length*3+2) (.slice ta t.l.length tc)) L (n*4+3) (.slice (Γ g5) (y.f.dn.length+1) a0):World)=w8 at *
 all_goals go_wp2_with (go_at_call 123;refine δ ak ?_;intro w9 hE)
 all_goals go_end0
 all_goals exact⟨rfl,hE⟩
end
end
section
section
variable {o:ab} {w w':World} {p:Nat} {m:bP} {aD av:Option Addr} {cx cv:Nat}
def l1 (h:b' o w p m aD cx av cv) (h0:m.at_≠0):Calls prog 284 #[π p] w (μ (.bool false) w):=by
 have c7:=h.blk.c 7 rfl;have hq:(m.at_ == 0)=false:=by simp[h0]
 clear h h0;go_enter func284,ntmps284;go_wp2_with fail;go_ret;exact⟨rfl,rfl⟩
def vm (h:b' o w p m aD cx av cv) (h0:m.at_≠0):Calls prog 260 #[π p] w (μ (.tuple #[ι (if m.met then m.pa else 0),.bool m.met]) w):=by
 have bS:=h.blk.c 17 rfl;have cd:=h.blk.c 18 rfl;have hn:=l1 h h0;clear h h0;obtain⟨b,hb⟩:∃b,m.met=b:=⟨_,rfl⟩;rw[hb] at bS ⊢;clear hb;cases b
 all_goals
  go_enter func260,ntmps260;go_wp2_with (go_at_call 284;refine γ hn ?_);go_ret2;exact⟨rfl,rfl⟩
def im (I a1 a2 a3 w):CallsD prog 289 #[I,a1,a2,a3] .returning w fun e u' w'=>e= .returned (.tuple #[])∧u'= .returning∧w'=w:=by
 refine ZB func289 rfl fun c₀ cs hu=>?_;apply ZW;apply ZH;simp[wpOpsS,go_sem,recoverD,hu,ntmps289,Exit.thenS];refine xS ?_;go_wp2_with fail;cases c₀
 simp_all [bodyPostS,results,results289]
def hU:Value:= .agg #[.nilFunc,.func (.func 304) #[] #[],.func (.func 305) #[] #[],.func (.func 306) #[] #[],.func (.func 307) #[] #[],.func (.func 308) #[] #[],.func (.func 309) #[] #[],.func (.func 310) #[] #[],.func (.func 311) #[] #[],.func (.func 312) #[] #[],.nilFunc,.nilFunc]
def pt (w):Calls prog 288 #[] w (ϑ hU w):=by have hb:=am w (.cells #[.nilFunc,.func (.func 304) #[] #[],.func (.func 305) #[] #[],.func (.func 306) #[] #[],.func (.func 307) #[] #[],.func (.func 308) #[] #[],.func (.func 309) #[] #[],.func (.func 310) #[] #[],.func (.func 311) #[] #[],.func (.func 312) #[] #[],.nilFunc,.nilFunc] 421);go_enter func288,ntmps288;go_wp2_with fail;exact Zl (v:=hU) (by simp[results,results288,go_sem,hU]) rfl ⟨rfl,hb⟩
end
end
def jv (p:Nat) (Q:ab→World→Prop):Prop:=∀(K:Nat→Prop) (o:ab) (w:World) (o':ab) (w':World),Q o w→aM K o w o' w'→w.heap.size≤w'.heap.size→K p→Q o' w'
def aj (mv:db):Value:= .agg #[.int .i64 mv.kind,.int .i64 mv.sync,.int .i64 mv.partner,.int .i64 mv.cond]
def Below.setCells {B b w} (hb:B≤b):∀(cs:List Value) (o:Nat) {w1:World},RowKit.Below B w w1→RowKit.Below B w (w1.setCells b o cs)
 | [],_,_,h=>h
 | v :: cs,o,_,h=>Below.setCells hb cs (o+1) (h.setCell (p:=κ b o) hb v)
def xf:(prog.info? 398).map (·.size)=some 19:=by kernel_rfl
def cM (W p:Nat) (wm':aH) (L:List Nat) (Q:ab→World→Prop) (mv:db) (o:ab) (w:World) (e:Ending) (w':World):Prop:=∃o',J (fun k=>k∈L∨k=p) o w o' w'∧aT w.heap.size W wm' L o' w'∧Q o' w'∧e= .returned (.tuple #[aj mv,.int .i64 0])
def kQ (o n):two o n n=some n∧two o n (n+1)=some (n+1):=by unfold two;exact⟨by rw[ab.BG _ _ ω];exact Zw _ _ _,Zw _ _ _⟩
def cM.fin {W p B wm' L Q mv o o2 o7 w w6 w7 w8} (z:Wf o w) (hQ:jv p Q) (hL:∀k∈L,k < w.heap.size) (hp:p < w.heap.size) (an:J Θ o w o2 w6) (hB:w.heap.size≤B) (O:B+1 < w6.heap.size) (e1:o2 B=some B) (e2:o2 (B+1)=some (B+1)) (aA:J (fun k=>k∈L∨k=p) o2 w6 o7 w7) (hS:aT (ν w6) W wm' L o7 w7) (hP:Q o7 w7) (hF:Fr (fun b=>b=B∨b=B+1) w7 w8) :
    cM W p wm' L Q mv o w (.returned (.tuple #[aj mv,ι 0])) w8:=by
  have aP:=z.BD an;have bh:=aP.BD aA;have ay:∀k,k∈L∨k=p→k≠B∧k≠B+1:=by
   rintro k (h | rfl)
   ·have:=hL k h;omega
   ·omega
  have q1:o7 B=some B:=(aA.et (K:=fun k=>k=B∨k=B+1) (fun k hk hd=>by have:=ay k hd;omega) B ω (fun k hk=>by rw[e1] at hk;cases hk;exact .inl rfl)).2.trans e1;have q2:o7 (B+1)=some (B+1):=(aA.et (K:=fun k=>k=B∨k=B+1) (fun k hk hd=>by have:=ay k hd;omega) (B+1) ω (fun k hk=>by rw[e2] at hk;cases hk;exact .inr rfl)).2.trans e2
  have Y:J (fun k=>k=B∨k=B+1) o7 w7 o7 w8:=Z9 bh hF (by
    rintro b - (rfl | rfl)
    ·exact⟨_,q1,.inl rfl⟩
    ·exact⟨_,q2,.inr rfl⟩)
  have A:=Y.et (K:=fun k=>k≠B∧k≠B+1) (fun k hk hd=>by omega);refine⟨o7,?_,?_,hQ _ _ _ _ _ hP A Y.size ω,rfl⟩
  ·refine (((an.more z (fun _ _ h=>h.elim)).same z aA).trans z Y fun k hk h=>by omega:J (fun k=>k∈L∨k=p) o w o7 w8)
  ·have bg:=an.size
   have h:=hS.kept A Y.size (fun k hk=>by
     rcases hk with hk | hk
     ·exact ay k (.inl hk)
     ·omega)
   obtain⟨L',g1,g2⟩:=h;exact⟨L',g1,fun k hk=>(g2 k hk).imp id fun h=>by omega⟩
def AQ {p q:Prop} (k:q) (h:Zq q→p:=by
 intro mq;have U:A wM (η w) 273 [ι 3,ι m'.own,ι m'.pa,ι 0]:=U;obtain⟨m0,g0,m1,g1,m2,g2,m3,g3,-⟩:=kb3 U;obtain⟨e0,h0,-⟩:=kb0 ac;have V:=((((U.set 0 (ι 3)).set 1 (ι m'.own)).set 2 (ι m'.pa)).set 3 (ι 0)).BJ (q:=κ (w.heap.size+1+1) 0) ξ (ι 0);have a4:=((((ac.BJ (q:=κ (η w) 0) ξ (ι 3)).BJ (q:=κ (η w) 1) ξ (ι m'.own)).BJ (q:=κ (η w) 2) ξ (ι m'.pa)).BJ (q:=κ (η w) 3) ξ (ι 0)).set 0 (ι 0);have an:Fr (fun b=>b=w.heap.size+1∨b=w.heap.size+1+1) w7 (σ (σ4 wM (η w) (ι 3) (ι m'.own) (ι m'.pa) (ι 0)) (w.heap.size+1+1) 0 (ι 0)):=ap.same (((((Z4 (q:=κ (η w) 0) (.inl (.inl rfl))).same (Z4 (q:=κ (η w) 1) (.inl (.inl rfl)))).same (Z4 (q:=κ (η w) 2) (.inl (.inl rfl)))).same (Z4 (q:=κ (η w) 3) (.inl (.inl rfl)))).same (Z4 (q:=κ (w.heap.size+1+1) 0) (.inl (.inr rfl))));have HE:=χ (cM.fin (mv:=⟨3,m'.own,m'.pa,0⟩) HW.out a' HL.out bA.out bE.out.1 ω (by have:=aH.out.size;omega) a2 bd HC.out.1 HC.out.2.1 HC.out.2.2 an);revert U m0 g0 m1 g1 m2 g2 m3 g3 e0 h0 V a4 an HE
 exact mq.u):p:=h ⟨k⟩
def AR {p q:Prop} (k:q) (h:Zq q→p:=by
 intro mq;have cb:=(Zd (w:=w6) (aA.frozen (ν w) (Za ω aH.out.size) (fun q hq=>by rw[az] at hq;cases hq)).1).trans bO;have bP:∀k,k∈L∨k=p→k≠w.heap.size+1∧k≠w.heap.size+1+1:=by
  rintro k (h | rfl)
  ·have:=hL k h;omega
  ·omega
 have bB:=aA.et (K:=fun k=>k=w.heap.size+1∨k=w.heap.size+1+1) (fun k hk hd=>by have:=bP k hd;omega);have kM:A w7 (η w) 273 [ι 0,ι 0,ι 0,ι 0]:=(bB (η w) (Za ω aH.out.size) (fun k hk=>by rw[a2] at hk;cases hk;exact .inl rfl)).1.trans ((aH.out.block _ ω).trans aX.out);have kE:A w7 (w.heap.size+1+1) 33 [ι 0]:=(bB (w.heap.size+1+1) (Za a5 aH.out.size) (fun k hk=>by rw[bd] at hk;cases hk;exact .inr rfl)).1.trans ((aH.out.block _ a5).trans bU.out);have kc:w7.cell? (κ (ν M) 7)=ι a:=(Zd (w:=w6) (aA.frozen (ν M) aS (fun q hq=>by rw[bL.out] at hq;cases hq)).1).trans kc7;revert cb bP bB kM kE kc
 exact mq.u):p:=h ⟨k⟩
def AS {p q:Prop} (k:q) (h:Zq q→p:=by
 intro mq;have U:A wM (η w) 273 [ι 3,ι m'.own,ι (-1),ι 0]:=U;obtain⟨m0,g0,m1,g1,m2,g2,m3,g3,-⟩:=kb3 U;obtain⟨e0,h0,-⟩:=kb0 ac;have V:=((((U.set 0 (ι 3)).set 1 (ι m'.own)).set 2 (ι (-1))).set 3 (ι 0)).BJ (q:=κ (w.heap.size+1+1) 0) ξ (ι 0);have a4:=((((ac.BJ (q:=κ (η w) 0) ξ (ι 3)).BJ (q:=κ (η w) 1) ξ (ι m'.own)).BJ (q:=κ (η w) 2) ξ (ι (-1))).BJ (q:=κ (η w) 3) ξ (ι 0)).set 0 (ι 0);have an:Fr (fun b=>b=w.heap.size+1∨b=w.heap.size+1+1) w7 (σ (σ4 wM (η w) (ι 3) (ι m'.own) (ι (-1)) (ι 0)) (w.heap.size+1+1) 0 (ι 0)):=ap.same (((((Z4 (q:=κ (η w) 0) (.inl (.inl rfl))).same (Z4 (q:=κ (η w) 1) (.inl (.inl rfl)))).same (Z4 (q:=κ (η w) 2) (.inl (.inl rfl)))).same (Z4 (q:=κ (η w) 3) (.inl (.inl rfl)))).same (Z4 (q:=κ (w.heap.size+1+1) 0) (.inl (.inr rfl))));have HE:=χ (cM.fin (mv:=⟨3,m'.own,(-1),0⟩) HW.out a' HL.out bA.out bE.out.1 ω (by have:=aH.out.size;omega) a2 bd HC.out.1 HC.out.2.1 HC.out.2.2 an);revert U m0 g0 m1 g1 m2 g2 m3 g3 e0 h0 V a4 an HE
 exact mq.u):p:=h ⟨k⟩
def AT {p q:Prop} (k:q) (h:Zq q→p:=by
 intro mq;have V:=((((U.set 0 (ι 1)).set 1 (ι 0)).set 2 (ι 0)).set 3 (ι 0)).BJ (q:=κ (w.heap.size+1+1) 0) ξ (ι 0);have a4:=((((ac.BJ (q:=κ (η w) 0) ξ (ι 1)).BJ (q:=κ (η w) 1) ξ (ι 0)).BJ (q:=κ (η w) 2) ξ (ι 0)).BJ (q:=κ (η w) 3) ξ (ι 0)).set 0 (ι 0);have an:Fr (fun b=>b=w.heap.size+1∨b=w.heap.size+1+1) w7 (σ (σ4 wM (η w) (ι 1) (ι 0) (ι 0) (ι 0)) (w.heap.size+1+1) 0 (ι 0)):=ap.same (((((Z4 (q:=κ (η w) 0) (.inl (.inl rfl))).same (Z4 (q:=κ (η w) 1) (.inl (.inl rfl)))).same (Z4 (q:=κ (η w) 2) (.inl (.inl rfl)))).same (Z4 (q:=κ (η w) 3) (.inl (.inl rfl)))).same (Z4 (q:=κ (w.heap.size+1+1) 0) (.inl (.inr rfl))));have HE:=χ (cM.fin (mv:=⟨1,0,0,0⟩) HW.out a' HL.out bA.out bE.out.1 ω (by have:=aH.out.size;omega) a2 bd HC.out.1 HC.out.2.1 HC.out.2.2 an);revert V a4 an HE
 exact mq.u):p:=h ⟨k⟩
def AU {p q:Prop} (k:q) (h:Zq q→p:=by
 intro mq;go_region;have U:A (σ4 w7 (η w) (ι 3) (ι m'.own) (ι m'.pa) (ι 0):World).drew (η w) 273 _:=((((aL.out.1.set 0 (ι 3)).set 1 (ι m'.own)).set 2 (ι m'.pa)).set 3 (ι 0));have ac:A (σ4 w7 (η w) (ι 3) (ι m'.own) (ι m'.pa) (ι 0):World).drew (w.heap.size+1+1) 33 [ι 0]:=((((aL.out.2.BJ (q:=κ (η w) 0) ξ (ι 3)).BJ (q:=κ (η w) 1) ξ (ι m'.own)).BJ (q:=κ (η w) 2) ξ (ι m'.pa)).BJ (q:=κ (η w) 3) ξ (ι 0));have ap:Fr (fun b=>b=w.heap.size+1∨b=w.heap.size+1+1) w7 (σ4 w7 (η w) (ι 3) (ι m'.own) (ι m'.pa) (ι 0):World).drew:=(((((Y8 _ _).same (Z4 (q:=κ (η w) 0) (.inl (.inl rfl)))).same (Z4 (q:=κ (η w) 1) (.inl (.inl rfl)))).same (Z4 (q:=κ (η w) 2) (.inl (.inl rfl)))).same (Z4 (q:=κ (η w) 3) (.inl (.inl rfl)))).same Yn;revert U ac ap
 exact mq.u):p:=h ⟨k⟩
def AV {p q:Prop} (k:q) (h:Zq q→p:=by
 intro mq;have U:A (σ4 w7 (η w) (ι 3) (ι m'.own) (ι (-1)) (ι 0)) (η w) 273 _:=((((aL.out.1.set 0 (ι 3)).set 1 (ι m'.own)).set 2 (ι (-1))).set 3 (ι 0));have ac:A (σ4 w7 (η w) (ι 3) (ι m'.own) (ι (-1)) (ι 0)) (w.heap.size+1+1) 33 [ι 0]:=((((aL.out.2.BJ (q:=κ (η w) 0) ξ (ι 3)).BJ (q:=κ (η w) 1) ξ (ι m'.own)).BJ (q:=κ (η w) 2) ξ (ι (-1))).BJ (q:=κ (η w) 3) ξ (ι 0));have ap:Fr (fun b=>b=w.heap.size+1∨b=w.heap.size+1+1) w7 (σ4 w7 (η w) (ι 3) (ι m'.own) (ι (-1)) (ι 0)):=((((Y8 _ _).same (Z4 (q:=κ (η w) 0) (.inl (.inl rfl)))).same (Z4 (q:=κ (η w) 1) (.inl (.inl rfl)))).same (Z4 (q:=κ (η w) 2) (.inl (.inl rfl)))).same (Z4 (q:=κ (η w) 3) (.inl (.inl rfl)));revert U ac ap
 exact mq.u):p:=h ⟨k⟩
def AW {p q:Prop} (k:q) (h:Zq q→p:=by
 intro mq;have hL:=hI.lt;have aQ:=hP.lt;obtain⟨a2,bd⟩:=kQ o (η w);have ag:J Θ o w (two o (η w)) E:=by have t0:=tB z bg;exact (t0.BN (b:=w.heap.size+1) (k:=w.heap.size+1) ω ω ω (.inr ω)).BN (b:=w.heap.size+1+1) (k:=w.heap.size+1+1) ω ω ω (.inr ω)
 have az:two o (η w) w.heap.size=none:=by unfold two;rw[ab.BG _ _ ω,ab.BG _ _ ω];exact z.ge (Zc _)
 have ax:=z.BD ag;have aU:=ag.kp;have ba:=hI.kept aU ag.size fun _ _=>Zk;have ad:=hP.kept aU ag.size trivial;revert hL aQ a2 bd ag az ax aU ba ad
 exact mq.u):p:=h ⟨k⟩
def AX {p q:Prop} (k:q) (h:Zq q→p:=by
 intro mq;have aP:=aK.below aw;have a7:=(tB aK aw).kp;have bx:=bw.kept a7 aw.size fun _ _=>Zk;have bv:=aq.kept a7 aw.size trivial;have a3:=ao.same HW.out (Zb aK aw);have ay:=aG o2 w6 aP bx (bV.out.kept (a3.kp)) ⟨_,_,_,_,bv⟩;have bN:=aT.trans (aw.mono aT.size);have bL:=χ (aK.ge (Zc M.heap.size));have aH:=χ bN;have bE:=χ (⟨a3,aP⟩:_∧_);have bO:=(aw.cell (p:=κ (ν w) 0) (Za aM ah.size)).trans bJ;revert aP a7 bx bv a3 ay bN bL aH bE bO
 exact mq.u):p:=h ⟨k⟩
def AY {p q:Prop} (k:q) (h:Zq q→p:=by
 intro mq;have U:A (σ (w7.drewN nq) (η w) 0 (ι 1)) (η w) 273 _:=((aL.out.1.drewN nq).set 0 (ι 1));have ac:A (σ (w7.drewN nq) (η w) 0 (ι 1)) (w.heap.size+1+1) 33 [ι 0]:=((aL.out.2.drewN nq).BJ (q:=κ (η w) 0) ξ (ι 1));have ap:Fr (fun b=>b=w.heap.size+1∨b=w.heap.size+1+1) w7 (σ (w7.drewN nq) (η w) 0 (ι 1)):=(Fr.drewN nq).same (Z4 (q:=κ (η w) 0) (.inl (.inl rfl)));revert U ac ap
 exact mq.u):p:=h ⟨k⟩
def yB {p q:Prop} (k:q) (h:Zq q→p:=by
 intro mq;refine leaves_cons (f:=289) (args:=#[ϖ M,ϖ w,π (η w),π (ς w)]) ξ (by simp[go_sem]) ?_;refine (im _ _ _ _ _).mono ?_
 exact mq.u):p:=h ⟨k⟩
def ep {o w p W m m' wm wm' L b} (a) (F:Nat) (z:Wf o w) (hI:aI o w W wm L) (hP:a9 o w p m) (af:p∉L) (ha:m.at_=a) (bR:a≠0) (bD:∀w,(Instr.index 421 hU (ι a)).run prog w= .ok (.func (.func F) #[] #[]) w) (hF:Λ F) (hE:a6 o w) (aG:∀o w,Wf o w→aI o w W wm L→a6 o w→a9 o w p m→Calls prog F #[π p,π W] w (be W p m' wm' L b o w)) :
  Calls prog 268 #[π p,π W] w (cM W p wm' L (fun o w=>a9 o w p m') (if b && m'.met then ⟨3,m'.own,m'.pa,0⟩ else if b then ⟨3,m'.own,-1,0⟩ else if m'.at_=m.at_ then ⟨1,0,0,0⟩ else ⟨2,0,0,0⟩) o w):=by
 obtain⟨w1,bl,bf,a1,O⟩:=al1 w 293 [π p];obtain⟨G,bo,bh,ak,Z,au⟩:=al2 a1 bf 273 [ι 0,ι 0,ι 0,ι 0];replace O:=au _ _ _ O;clear au;obtain⟨E,bt,bq,bg,k2,au⟩:=al2 ak bh 33 [ι 0];replace O:=au _ _ _ O;replace Z:=au _ _ _ Z;clear au;have b3:∀w,(binOp .eql 420 (.func (.func F) #[] #[]) .nilFunc).run prog w= .ok (.bool false) w:=fun _=>by kernel_rfl
 refine AW ?_;intro hL aQ a2 bd ag az ax aU ba ad;generalize two o (w.heap.size+1)=o2 at *;have bc:Calls prog 256 #[π W] E (μ (.bool false) E):=by obtain⟨Y,aB,aF,aC,cs,ds,hW,-⟩:=ba;exact lq hW
 have aJ:Calls prog 284 #[π p] E (μ (.bool false) E):=by obtain⟨aD,cx,av,cv,h⟩:=ad;exact l1 h (by rw[ha];exact bR)
 have c0:=O.c 0 rfl;have a0:=χ O;have aX:=χ Z;have bU:=χ k2;have bz:p < E.heap.size:=ad.lt;have a5:w.heap.size+1+1 < E.heap.size:=ω;have bF:=χ ag;have bT:=χ ba;have aW:=χ ad;have HW:=χ z;have bH:=χ ax;have bV:=χ hE;have aE:=pt E.drew;clear hE hI hP ba ad ag O Z k2 aU z ax a1 ak bq;obtain⟨mv,bI⟩:∃mv:db,(if b && m'.met then ⟨3,m'.own,m'.pa,0⟩ else if b then ⟨3,m'.own,-1,0⟩ else if m'.at_=m.at_ then ⟨1,0,0,0⟩ else ⟨2,0,0,0⟩)=mv:=⟨_,rfl⟩;rw[bI];have aZ:=χ bI;clear bI;go_enter_defers func268,ntmps268;go_upto_region 3 with first
  | (go_at_call 256;refine γ bc ?_)
  | (go_at_call 284;refine γ aJ ?_)
 clear bl bo bt bc aJ;have c7:E.cell? (κ p 7)=ι a:=by obtain⟨aD,cx,av,cv,h⟩:=aW.out;rw[←ha];exact h.blk.c 7 rfl
 have aO:E.drew.cell? (κ (ν w) 0)=π p∧E.drew.cell? (κ p 7)=ι a:=⟨c0,c7⟩;refine bj [(1,true),(2,true),(3,true),(4,true),(0,false),(5,true),(6,false)] (fun w'=>w'.cell? (κ (ν w) 0)=π p∧w'.cell? (κ p 7)=ι a) ψ ψ aO ?_;have bX:p < E.drew.heap.size:=bz;have aM:w.heap.size < E.drew.heap.size:=by have:E.drew.heap.size=E.heap.size:=rfl;omega
 have bM:Below (ν E) E E.drew:=(Zj _ _).drew;generalize E.drew=wd at *;iterate 4 (refine wpC_t ?_;try go_frame)
 refine xP ?_;intro K I;go_at_call 288;refine δ aE ?_;intro M ah;have aR:M.cell? (κ (ν w) 0)=π p∧M.cell? (κ p 7)=ι a:=⟨(ah.cell (p:=κ (ν w) 0) aM).trans aO.1,(ah.cell (p:=κ p 7) bX).trans aO.2⟩;refine I _ _ _ Φ (fun _=>aR) ?_;clear I K;try go_frame
 refine wpC_t ?_;try go_frame
 refine xY ?_;have aT:=bM.trans (ah.mono bM.size);have aK:=bH.out.below aT;have aa:=(tB bH.out aT).kp;obtain⟨aD,cx,av,cv,aq⟩:=aW.out.kept aa aT.size trivial;have bw:=bT.out.kept aa aT.size fun _ _=>Zk;have ao:=bF.out.same HW.out (Zb bH.out aT);obtain⟨ae,bi⟩:∃ae,g6 m aD cx av cv=ae:=⟨_,rfl⟩;have aY:ae.toArray.size=19:=by rw[←bi];rfl
 have bS:ae[7]? =ι a:=by rw[←bi,←ha];rfl
 have ai:ae.toArray.all (·.oneCell')=true:=by rw[←bi];simp[g6,Value.oneCell']
 have bW:M.heap[p]? =some (.cells ae.toArray 398 (0,0)):=by rw[←bi];exact aq.blk
 have bJ:=aR.1;have bK:=Zh M 398 [ι 0,ι 0,ι 0,ι 0,ι 0,ι 0,ζ,ι 0,ι 0,ι 0,ι 0,ι 0,ι 0,ι 0,ζ,ζ,ζ,Δ,ι 0];have bp:(M.alloc θ7).there (ν M) 0 ae.toArray.size:=by intro j hj;rw[aY] at hj;refine⟨?_,bK.fz _⟩;obtain⟨v,hv⟩:∃v,([.int .i64 0,.int .i64 0,.int .i64 0,.int .i64 0,.int .i64 0,.int .i64 0,.slice none 0 0,.int .i64 0,.int .i64 0,.int .i64 0,.int .i64 0,.int .i64 0,.int .i64 0,.int .i64 0,.slice none 0 0,.slice none 0 0,.slice none 0 0,.bool false,.int .i64 0]:List Value)[j]? =some v:=⟨_,Zg hj⟩;rw[Nat.zero_add,bK.c j hv];rfl
 have a8:(prog.info? 398).map (·.size)=some ae.toArray.size:=by rw[aY];exact xf
 obtain⟨w6,bu⟩:∃u,(M.alloc θ7).setCells (ν M) 0 ae.toArray.toList=u:=⟨_,rfl⟩;have aw:Below (ν M) M w6:=by rw[←bu];exact Below.setCells (Zc _) _ _ (am M _)
 have kc7:w6.cell? (κ (ν M) 7)=ι a:=by rw[←bu];have:=World.rangeAt_setCells_same (M.alloc θ7) (ν M) 0 ae.toArray.toList (by simpa using bp) 7 (ι a) (by simpa using bS);simpa using this
 have aS:M.heap.size < w6.heap.size:=by rw[←bu];exact Za (show M.heap.size < (M.alloc θ7).heap.size by simp) (Below.setCells (Z2 _) _ _ (Zj 0 _)).size
 refine AX ?_;intro aP a7 bx bv a3 ay bN bL aH bE bO;clear bw aq ao aa a7 bx bv a3 aK aP aT bM ah aR aO aE bK bi;go_upto_region 6 with fail;go_upto_region 8 with first
  | (refine wpList_load_row rfl _ _ rfl p rfl 398 ae.toArray (0,0) _ bW underlying398 rfl a8 ?_)
  | (refine wpList_store_mid rfl _ _ _ rfl (ν M) 0 ae.toArray rfl rfl bp a8 ai ?_;rw[bu])
 go_upto_region 10 with (refine ay.mono ?_;rintro e w7 ⟨o7,aA,bb,bC,rfl⟩);refine AR ?_;intro cb bP bB kM kE kc;obtain⟨bZ,b0,b4,b5,bQ⟩:=id bC;obtain⟨-,-,-,-,-,-,-,p7,p8,-,-,-,-,-,-,-,-,bY,b1,-⟩:=kc18 bQ.blk;obtain⟨m0,g0,m1,g1,m2,g2,m3,g3,-⟩:=kb3 kM;obtain⟨e0,h0,-⟩:=kb0 kE;have HC:=χ (⟨aA,bb,bC⟩:_∧_∧_);have HL:=χ hL;have aL:=χ (⟨kM,kE⟩:_∧_);have a':jv p (fun o w=>a9 o w p m'):=fun K o w o' w' h I hs hp=>h.kept I hs hp;have bA:=χ aQ;clear aA bb bC bQ bB bP ay kc7 bO aw bN kM kE hL;generalize bG:m'.met=met at *;cases b with
 | true=>
   cases met with
   | true=>
     obtain rfl:mv=⟨3,m'.own,m'.pa,0⟩:=aZ.out.symm.trans ξ;clear bG aZ;go_upto_region 11 with fail;refine AU ?_;intro U ac ap;clear m0 m1 m2 m3 g0 g1 g2 g3 e0 h0;generalize (σ4 w7 (η w) (ι 3) (ι m'.own) (ι m'.pa) (ι 0):World).drew=wM at *;refine AQ ?_;intro U m0 g0 m1 g1 m2 g2 m3 g3 e0 h0 V a4 an HE;clear an ap U ac;go_wp2_with fail
     show bodyPostD _ _ _ _ _ _
     refine yB ?_;rintro e u' w9 ⟨rfl,rfl,rfl⟩;exact⟨.tuple #[aj ⟨3,m'.own,m'.pa,0⟩,ι 0],by simp[results,results268,go_sem,aj,V.c 0 rfl,V.c 1 rfl,V.c 2 rfl,V.c 3 rfl,a4.c 0 rfl],HE.out⟩
   | false=>
     obtain rfl:mv=⟨3,m'.own,-1,0⟩:=aZ.out.symm.trans ξ;clear bG aZ;go_upto_region 16 with fail;refine AV ?_;intro U ac ap;clear m0 m1 m2 m3 g0 g1 g2 g3 e0 h0;generalize (σ4 w7 (η w) (ι 3) (ι m'.own) (ι (-1)) (ι 0):World)=wM at *;refine AS ?_;intro U m0 g0 m1 g1 m2 g2 m3 g3 e0 h0 V a4 an HE;clear an ap U ac;go_wp2_with fail
     show bodyPostD _ _ _ _ _ _
     refine yB ?_;rintro e u' w9 ⟨rfl,rfl,rfl⟩;exact⟨.tuple #[aj ⟨3,m'.own,(-1),0⟩,ι 0],by simp[results,results268,go_sem,aj,V.c 0 rfl,V.c 1 rfl,V.c 2 rfl,V.c 3 rfl,a4.c 0 rfl],HE.out⟩
 | false=>
   by_cases aV:m'.at_=a
   ·obtain rfl:mv=⟨1,0,0,0⟩:=aZ.out.symm.trans (by simp[aV,ha])
    clear aZ;rw[aV] at p7;go_upto_region 14 with fail;go_quiet (fail);go_upto_region 16 with fail;refine AY ?_;intro U ac ap;clear m0 m1 m2 m3 g0 g1 g2 g3 e0 h0;generalize (σ (w7.drewN nq) (η w) 0 (ι 1):World)=wM at *;have U:A wM (η w) 273 [ι 1,ι 0,ι 0,ι 0]:=U;obtain⟨m0,g0,m1,g1,m2,g2,m3,g3,-⟩:=kb3 U;obtain⟨e0,h0,-⟩:=kb0 ac;refine AT ?_;intro V a4 an HE;clear an ap U ac;go_wp2_with fail
    show bodyPostD _ _ _ _ _ _
    refine yB ?_;rintro e u' w9 ⟨rfl,rfl,rfl⟩;exact⟨.tuple #[aj ⟨1,0,0,0⟩,ι 0],by simp[results,results268,go_sem,aj,V.c 0 rfl,V.c 1 rfl,V.c 2 rfl,V.c 3 rfl,a4.c 0 rfl],HE.out⟩
   ·obtain rfl:mv=⟨2,0,0,0⟩:=aZ.out.symm.trans (by simp[aV,ha])
    clear aZ;have hq:(m'.at_ == a)=false:=by simp[aV]
    clear aV;go_upto_region 14 with fail;go_quiet (fail);go_upto_region 16 with fail;have U:A (σ (w7.drewN nq) (η w) 0 (ι 2)) (η w) 273 _:=((aL.out.1.drewN nq).set 0 (ι 2));have ac:A (σ (w7.drewN nq) (η w) 0 (ι 2)) (w.heap.size+1+1) 33 [ι 0]:=((aL.out.2.drewN nq).BJ (q:=κ (η w) 0) ξ (ι 2));have ap:Fr (fun b=>b=w.heap.size+1∨b=w.heap.size+1+1) w7 (σ (w7.drewN nq) (η w) 0 (ι 2)):=(Fr.drewN nq).same (Z4 (q:=κ (η w) 0) (.inl (.inl rfl)));clear m0 m1 m2 m3 g0 g1 g2 g3 e0 h0;generalize (σ (w7.drewN nq) (η w) 0 (ι 2):World)=wM at *;have U:A wM (η w) 273 [ι 2,ι 0,ι 0,ι 0]:=U;obtain⟨m0,g0,m1,g1,m2,g2,m3,g3,-⟩:=kb3 U;obtain⟨e0,h0,-⟩:=kb0 ac;have V:=((((U.set 0 (ι 2)).set 1 (ι 0)).set 2 (ι 0)).set 3 (ι 0)).BJ (q:=κ (w.heap.size+1+1) 0) ξ (ι 0);have a4:=((((ac.BJ (q:=κ (η w) 0) ξ (ι 2)).BJ (q:=κ (η w) 1) ξ (ι 0)).BJ (q:=κ (η w) 2) ξ (ι 0)).BJ (q:=κ (η w) 3) ξ (ι 0)).set 0 (ι 0);have an:Fr (fun b=>b=w.heap.size+1∨b=w.heap.size+1+1) w7 (σ (σ4 wM (η w) (ι 2) (ι 0) (ι 0) (ι 0)) (w.heap.size+1+1) 0 (ι 0)):=ap.same (((((Z4 (q:=κ (η w) 0) (.inl (.inl rfl))).same (Z4 (q:=κ (η w) 1) (.inl (.inl rfl)))).same (Z4 (q:=κ (η w) 2) (.inl (.inl rfl)))).same (Z4 (q:=κ (η w) 3) (.inl (.inl rfl)))).same (Z4 (q:=κ (w.heap.size+1+1) 0) (.inl (.inr rfl))));have HE:=χ (cM.fin (mv:=⟨2,0,0,0⟩) HW.out a' HL.out bA.out bE.out.1 ω (by have:=aH.out.size;omega) a2 bd HC.out.1 HC.out.2.1 HC.out.2.2 an);clear an ap U ac;go_wp2_with fail
    show bodyPostD _ _ _ _ _ _
    refine yB ?_;rintro e u' w9 ⟨rfl,rfl,rfl⟩;exact⟨.tuple #[aj ⟨2,0,0,0⟩,ι 0],by simp[results,results268,go_sem,aj,V.c 0 rfl,V.c 1 rfl,V.c 2 rfl,V.c 3 rfl,a4.c 0 rfl],HE.out⟩
def Yu:=@Below.setCells
def mW {X:Type} {P Q a w} {c:Code} (F:Act→X→Act) (R:X→World→Prop) (h:c.wp P (fun e a' w'=>∃x,e= .normal∧a'=F a x∧R x w') a w) (I:∀x w',R x w'→Q .normal (F a x) w'):c.wp P Q a w:=
  Code.wp_mono (fun e a' w' h=>by
    obtain⟨x,rfl,rfl,h⟩:=h
    exact I x w' h) h
def gV (R:ab→World→Nat→Prop) (o:ab) (w:World) (e:Ending) (w':World):Prop:=∃o' p,J (fun _=>False) o w o' w'∧w.heap.size≤p∧R o' w' p∧e= .returned (.tuple #[.pointer (some ⟨p,0,none⟩),.int .i64 0])
def kF {o o2 w G M T} {cs:List Value} (z:Wf o w) (aq:J Θ o w o2 G) (hb:Below (ν G) G M) (i u) :
  J Θ o w (o2.set (ν M) (some M.heap.size)) (σ (M.alloc (.cells cs.toArray T)) (ν M) i u:World)∧w.heap.size≤M.heap.size∧A (σ (M.alloc (.cells cs.toArray T)) (ν M) i u) (ν M) T (cs.set i u)∧(o2.set (ν M) (some M.heap.size)) M.heap.size=some M.heap.size ∧
  aM (fun _=>True) o2 G (o2.set (ν M) (some M.heap.size)) (σ (M.alloc (.cells cs.toArray T)) (ν M) i u:World)∧G.heap.size≤(σ (M.alloc (.cells cs.toArray T)) (ν M) i u:World).heap.size:=by have ap:=z.BD aq;have ao:J Θ o2 G o2 M:=Zb ap hb;have aK:=ap.BD ao;have az:=ao.same ap (ZJ aK (.cells cs.toArray T));have kb:=Zh M T cs;obtain⟨t1,-,-⟩:=fq (n:=M.heap.size) ap az (ZM _ (ap.BD az)) kb.lt (Zw _ _ _) hb.size (Z4 (S:=(·=M.heap.size)) (q:=κ (ν M) i) (u:=u) (.inl rfl));exact⟨aq.same z t1,Zp aq.size hb.size,kb.set i u,Zw _ _ _,t1.et fun _ _=>id,t1.size⟩
def AZ {p q:Prop} (k:q) (h:Zq q→p:=by
 intro mq;have y0:=(ac.cell (p:=κ gb (ob+b*7)) aR.2).trans (ap 0 ω);have y1:=(ac.cell (p:=κ gb (ob+b*7+1)) aR.2).trans (ap 1 ω);have y2:=(ac.cell (p:=κ gb (ob+b*7+2)) aR.2).trans (ap 2 ω);have y3:=(ac.cell (p:=κ gb (ob+b*7+3)) aR.2).trans (ap 3 ω);have y4:=(ac.cell (p:=κ gb (ob+b*7+4)) aR.2).trans (ap 4 ω);have y5:=(ac.cell (p:=κ gb (ob+b*7+5)) aR.2).trans (ap 5 ω);have y6:=(ac.cell (p:=κ gb (ob+b*7+6)) aR.2).trans (ap 6 ω);have aJ:decide (x.bases.length≤b)=false:=Zn ω;revert y0 y1 y2 y3 y4 y5 y6 aJ
 exact mq.u):p:=h ⟨k⟩
def A3 {p q:Prop} (k:q) (h:Zq q→p:=by
 intro mq;have ah:=ac.trans ((am E (.cells #[ι bm.kd,ι bm.n,ι bm.v.kd,ι bm.v.n,.slice h bm.v.l.length vc,.slice aD bm.wr.length cw,.slice an bm.nk.length cn] 194)).mono ac.size);have kb:=Zh E 194 [ι bm.kd,ι bm.n,ι bm.v.kd,ι bm.v.n,.slice h bm.v.l.length vc,.slice aD bm.wr.length cw,.slice an bm.nk.length cn];revert ah kb
 exact mq.u):p:=h ⟨k⟩
def yp {p:Prop} (h:p:=by exact Zl (v:= .tuple #[ϖ M,ι 0]) (by simp[results,results233,go_sem]) rfl ⟨_,_,q1,q2,⟨none,0,h,vc,q3,q4,dE _ _,HV.out.kept q5 q6⟩,rfl⟩):p:=h
def uC {o w W wm L s x b bm} (z:Wf o w) (hI:aI o w W wm L) (hsy:∀o1 w1,Wf o1 w1→aI o1 w1 W wm L→Calls prog 113 #[π W,ι s] w1 (iH x o1 w1)) (aP:x.bases[b]? =some bm) (hd:x.done=false) :
  Calls prog 233 #[π W,ι s,ι (b:Nat)] w (gV (fun o w p=>a9 o w p ⟨bL,if bm.kd=5∨bm.kd=6 then 1 else if bm.kd=7 then 9 else if bm.kd=13 then 8 else 10,s,b,bm.kd,bm.n,bm.v,false,0⟩) o w):=by
 have bc:Calls prog 256 #[π W] w (μ (.bool false) w):=by obtain⟨Y,aB,aF,aC,cs,ds,hW,-⟩:=hI;exact lq hW
 have H:=χ (fun o1 w1 (U:J Θ o w o1 w1)=>hsy o1 w1 (z.BD U) (hI.kept (U.kp) U.size fun _ _=>Zk));clear hsy hI;go_enter func233,ntmps233;go_upto_region 3 with (go_at_call 256;refine γ bc ?_);clear bc;go_upto_region 4 with (go_at_call 113;refine (H.out _ _ (ZM _ z)).mono ?_;rintro e G ⟨o2,aq,xs,rfl,aK⟩;obtain⟨aQ,ay,av,cb,cc,cv,rfl,hBs,-⟩:=id aK;rw[hd] at *);have ad:b < x.bases.length:=(Ze.1 aP).1;obtain⟨gb,ob,ys,rfl,aR,-,ap,bg⟩:=hBs b bm aP;have ab:aG (Fz o2 G) G bm.v _:=(id bg).choose_spec.choose_spec.choose_spec.choose_spec.choose_spec.choose_spec.2.1;obtain⟨h,aD,an,vc,cw,cn,rfl,ab,-⟩:=bg;have ac:=am G (.cells #[ι x.th,.slice (some ⟨gb,ob,none⟩) x.bases.length cb,.slice ay x.conds.length cc,ι x.fl,.bool x.parked,Δ,ι x.br,ι x.v.kd,ι x.v.n,.slice av x.v.l.length cv,ι x.pa] 126);have kx:=Zh G 126 [ι x.th,.slice (some ⟨gb,ob,none⟩) x.bases.length cb,.slice ay x.conds.length cc,ι x.fl,.bool x.parked,Δ,ι x.br,ι x.v.kd,ι x.v.n,.slice av x.v.l.length cv,ι x.pa];generalize G.alloc (.cells #[ι x.th,.slice (some ⟨gb,ob,none⟩) x.bases.length cb,.slice ay x.conds.length cc,ι x.fl,.bool x.parked,Δ,ι x.br,ι x.v.kd,ι x.v.n,.slice av x.v.l.length cv,ι x.pa] 126)=E at *;obtain⟨-,x1,-,-,-,x5,-⟩:=kc5 kx;refine AZ ?_;intro y0 y1 y2 y3 y4 y5 y6 aJ;clear aK hBs ap kx;go_upto_region 11 with fail;refine A3 ?_;intro ah kb;generalize E.alloc (ρ bm h vc aD cw an cn)=M at *;obtain⟨b0,b1,b2,b3,b4,-⟩:=kc4 kb;clear x1 x5 y0 y1 y2 y3 y4 y5 y6 aJ ac;go_upto_region 12 with fail
 clear b1 b2 b3 b4;obtain⟨kd,bn,I,ae,aa⟩:=bm;dsimp only at *;have HF:=χ (fun (i:Nat) (u:Value)=>kF (T:=398) (cs:=[ι 0,ι 0,ι 0,ι 0,ι 0,ι 0,ζ,ι 0,ι s,ι (b:Nat),ι kd,ι bn,ι I.kd,ι I.n,.slice h I.l.length vc,ζ,ζ,Δ,ι 0]) z aq ah i u);have kp:=Zh M 398 [ι 0,ι 0,ι 0,ι 0,ι 0,ι 0,ζ,ι 0,ι s,ι (b:Nat),ι kd,ι bn,ι I.kd,ι I.n,.slice h I.l.length vc,ζ,ζ,Δ,ι 0];replace b0:=((am M (.cells #[ι 0,ι 0,ι 0,ι 0,ι 0,ι 0,ζ,ι 0,ι s,ι (b:Nat),ι kd,ι bn,ι I.kd,ι I.n,.slice h I.l.length vc,ζ,ζ,Δ,ι 0] 398)).cell (p:=κ (ν E) 0) kb.lt).trans b0;generalize M.alloc (.cells #[ι 0,ι 0,ι 0,ι 0,ι 0,ι 0,ζ,ι 0,ι s,ι (b:Nat),ι kd,ι bn,ι I.kd,ι I.n,.slice h I.l.length vc,ζ,ζ,Δ,ι 0] 398)=V at *;have p7:=kp.c 7 rfl;have f7:=kp.fz 7;clear kp ah kb;have HV:=χ ab;clear ab
 by_cases h5:kd=5
 ·subst h5
  go_wp2_with fail;obtain⟨q1,q2,q3,q4,q5,q6⟩:=HF.out 7 (ι 1);exact yp
 ·have e5:(kd == 5)=false:=by simp[h5]
  have d5:decide (kd=5)=false:=Zn h5
  by_cases h6:kd=6
  ·subst h6
   go_wp2_with fail;obtain⟨q1,q2,q3,q4,q5,q6⟩:=HF.out 7 (ι 1);exact yp
  ·have e6:(kd == 6)=false:=by simp[h6]
   have d6:decide (kd=6)=false:=Zn h6
   by_cases h7:kd=7
   ·subst h7
    go_wp2_with fail;obtain⟨q1,q2,q3,q4,q5,q6⟩:=HF.out 7 (ι 9);exact yp
   ·have e7:(kd == 7)=false:=by simp[h7]
    have d7:decide (kd=7)=false:=Zn h7
    by_cases O:kd=13
    ·subst O
     go_wp2_with fail;obtain⟨q1,q2,q3,q4,q5,q6⟩:=HF.out 7 (ι 8);exact yp
    ·have Z:(kd == 13)=false:=by simp[O]
     go_wp2_with fail;obtain⟨q1,q2,q3,q4,q5,q6⟩:=HF.out 7 (ι 10);exact yp
section
def jh (m:bR) (aD:Option Addr) (cx:Nat) (av:Option Addr) (cv:Nat):List Value:=[.int .i64 m.ent.sy,.int .i64 m.ent.th,.int .i64 m.ent.br,.int .i64 m.ent.fl,.int .i64 m.ent.v.kd,.int .i64 m.ent.v.n,.slice aD m.ent.v.l.length cx,.int .i64 m.at_,.int .i64 m.own,.int .i64 m.br,.int .i64 m.kd,.int .i64 m.n,.int .i64 m.v.kd,.int .i64 m.v.n,.slice av m.v.l.length cv,.slice none 0 0,.slice none 0 0,.int .i64 (m.place:Nat),.bool m.met,.int .i64 m.pa]
structure dO (o:ab) (w:World) (p:Nat) (m:bR) (aD:Option Addr) (cx:Nat) (av:Option Addr) (cv:Nat):Prop where
 blk:A w p 417 (jh m aD cx av cv)
 own:o p=some p
 ent:a4 (Fz o w) w m.ent (bu m.ent aD cx)
 v:aG (Fz o w) w m.v (.agg #[.int .i64 m.v.kd,.int .i64 m.v.n,.slice av m.v.l.length cv])
def bD (o:ab) (w:World) (p:Nat) (m:bR):Prop:=∃aD cx av cv,dO o w p m aD cx av cv
section
variable {o o':ab} {w w':World} {p W:Nat} {m:bR} {aD av:Option Addr} {cx cv:Nat} {K:Nat→Prop} {wm wm':aH} {L:List Nat}
def dO.kept (h:dO o w p m aD cx av cv) (I:aM K o w o' w') (hs:w.heap.size≤w'.heap.size) (hp:K p):dO o' w' p m aD cx av cv:=by obtain⟨H,h2⟩:=I.blk h.blk h.own hp;exact⟨H,h2,h.ent.kept I hs,h.v.kept I hs⟩
def bD.kept (h:bD o w p m) (I:aM K o w o' w') (hs:w.heap.size≤w'.heap.size) (hp:K p):bD o' w' p m:=by obtain⟨aD,cx,av,cv,h⟩:=h;exact⟨aD,cx,av,cv,h.kept I hs hp⟩
def bD.lt (h:bD o w p m):p < w.heap.size:=by obtain⟨aD,cx,av,cv,h⟩:=h;exact h.blk.lt
def dO.state (h:dO o w p m aD cx av cv) (z:Wf o w) (a):J (·=p) o w o (σ w p 7 (ι a):World)∧dO o (σ w p 7 (ι a)) p {m with at_:=a} aD cx av cv:=by exact Aq
def cg (W p:Nat) (m':bR) (wm':aH) (L:List Nat) (b:Bool) (o:ab) (w:World) (e:Ending) (w':World):Prop:=∃o',J (fun k=>k∈L∨k=p) o w o' w'∧aT w.heap.size W wm' L o' w'∧bD o' w' p m'∧e= .returned (.bool b)
def cg.Cd {O w1 G E o1 m1 b} (z:Wf o w) (an:J (fun k=>k∈L∨k=p) o w E O) (af:p∉L) (aQ:p < w.heap.size) (U:J (·∈L) E O o1 w1) (hS:aT (ν O) W wm' L o1 w1) (aq:J (·=p) o1 w1 o1 G) (hP:bD o1 G p m1):cg W p m1 wm' L b o w (.returned (.bool b)) G:=by exact Ar
def cg.fin {O w1 G o1 m1 b} (z:Wf o w) (hb:Below (ν w) w O) (af:p∉L) (aQ:p < w.heap.size) (U:J (·∈L) o O o1 w1) (hS:aT (ν O) W wm' L o1 w1) (aq:J (·=p) o1 w1 o1 G) (hP:bD o1 G p m1):cg W p m1 wm' L b o w (.returned (.bool b)) G:=
 cg.Cd z (Zb z hb) af aQ U hS aq hP
def mz (h:dO o w p m aD cx av cv) (h0:m.at_≠0):Calls prog 285 #[π p] w (μ (.bool false) w):=by
 have c7:=h.blk.c 7 rfl;have hq:(m.at_ == 0)=false:=by simp[h0]
 clear h h0;go_enter func285,ntmps285;go_wp2_with fail;go_ret;exact⟨rfl,rfl⟩
def wS (h:dO o w p m aD cx av cv) (h0:m.at_≠0):Calls prog 262 #[π p] w (μ (ι m.at_) w):=by have c7:=h.blk.c 7 rfl;have hn:=mz h h0;clear h h0;go_enter func262,ntmps262;go_wp2_with (go_at_call 285;refine γ hn ?_);go_ret;exact⟨rfl,rfl⟩
def kg (h:dO o w p m aD cx av cv):Calls prog 352 #[π p] w (μ (.bool (m.kd == 13)) w):=by have a4:=h.blk.c 10 rfl;clear h;go_enter func352,ntmps352;go_wp2_with fail;go_ret;exact⟨rfl,rfl⟩
def me (h:dO o w p m aD cx av cv):Calls prog 359 #[π p] w (μ (ι (sd (m.kd == 5))) w):=by
 have a4:=h.blk.c 10 rfl;clear h
 by_cases hk:m.kd=5
 ·rw[hk] at a4 ⊢
  go_enter func359,ntmps359;go_wp2_with fail;go_ret;exact⟨rfl,rfl⟩
 ·have hq:(m.kd == 5)=false:=by simp[hk]
  rw[hq];clear hk;go_enter func359,ntmps359;go_wp2_with fail;go_ret;exact⟨rfl,rfl⟩
def pb (w):Calls prog 366 #[ι 13] w (μ (ι 14) w):=by go_enter func366,ntmps366;go_wp2_with fail;go_ret;exact⟨rfl,rfl⟩
def ty (w):Calls prog 366 #[ι 14] w (μ (ι 18) w):=by go_enter func366,ntmps366;go_wp2_with fail;go_ret;exact⟨rfl,rfl⟩
def tM (z:Wf o w) (hI:aI o w W wm L) (hP:bD o w p m) (af:p∉L) {b} (h:cN m.n wm=(.ok b,wm')) (bf bp) (Z:A w bf 409 [.func (.func 337) #[aA W] #[]]) (a1:A w bp 297 [aA p]) (n1:o bf=none) (n2:o bp=none) :
  Calls prog 355 #[π bf,π bp] w (fk (eO W wm' L (.bool b) o w)):=by
 obtain⟨aD,cx,av,cv,hP⟩:=hP;have hd:Below (ν w) w w.drew:=(Zj _ _).drew;have hC:=lp (z.below hd) (hI.below z hd) h;have c0:=Z.c 0 rfl;have c1:=a1.c 0 rfl;have c2:w.cell? (κ p 11)=ι m.n:=hP.blk.c 11 rfl;unfold aA at c0 c1;have aO:w.drew.cell? (κ bf 0)=some (.func (.func 337) #[π W] #[])∧w.drew.cell? (κ bp 0)=π p∧w.drew.cell? (κ p 11)=ι m.n:=⟨c0,c1,c2⟩;have HF:=χ (fun w1 o1 (U:J (·∈L) o w.drew o1 w1) (hS:aT w.drew.heap.size W wm' L o1 w1)=>(show eO W wm' L (.bool b) o w (.bool b) w1 from⟨rfl,o1,(Zb (D:=(·∈L)) z hd).same z U,hS⟩))
 have E:=χ (fun w1 o1 (U:J (·∈L) o w.drew o1 w1)=>(show w1.cell? (κ bf 0)=some (.func (.func 337) #[π W] #[])∧w1.cell? (κ bp 0)=π p∧w1.cell? (κ p 11)=ι m.n from
   ⟨(aY ((U.frozen bf Z.lt (fun q hq=>by rw[n1] at hq;cases hq)).1) 0).trans c0,(aY ((U.frozen bp a1.lt (fun q hq=>by rw[n2] at hq;cases hq)).1) 0).trans c1,(aY ((ZO (K:=(·=p)) U (fun q e=>by rw[e];exact af) p hP.blk.lt (fun q hq=>by rw[hP.own] at hq;cases hq;rfl)).1) 11).trans c2⟩))
 clear h hI hP c0 c1 c2 z hd Z a1 n1 n2 af;go_enter func355,ntmps355;go_upto_region 1 with fail;refine bj [(0,true),(1,true),(2,true),(3,true),(4,true),(5,true),(6,false),(7,true),(8,true),(9,true),(10,true)] (fun w'=>w'.cell? (κ bf 0)=some (.func (.func 337) #[π W] #[])∧w'.cell? (κ bp 0)=π p∧w'.cell? (κ p 11)=ι m.n) ψ ψ aO ?_;iterate 6 (refine wpC_t ?_;try go_frame)
 refine xP ?_;intro K I;go_at_call 337;refine hC.mono ?_;rintro e w1 ⟨o1,ak,O,rfl⟩;have hE:=HF.out w1 o1 ak O;have aS:=E.out w1 o1 ak;clear ak O hC aO;refine I _ _ _ Φ (fun _=>aS) ?_;clear I K;try go_frame
 iterate 4 (refine wpC_t ?_;try go_frame)
 refine bn ?_;simp only[List.getElem_toArray,List.getElem_cons_succ,List.getElem_cons_zero,List.setIfInBounds_toArray,List.set_cons_succ,List.set_cons_zero];go_wp2_with fail;go_ret2;exact⟨_,rfl,hE⟩
end
end
section
section
variable {o:ab} {w:World} {p W:Nat} {m:bR} {wm wm':aH} {L:List Nat}
def A7 {p q:Prop} (k:q) (h:Zq q→p:=by
 intro mq;have ax:=aM.BD ag;have ad:=bi.out.kept (ag.et (K:=(·=p)) fun q e=>by rw[e];exact af) ag.size rfl;have aK:=ax.below ah;refine yZ ?_;intro aa aD cx av cv aq ao aR;have c0:M.cell? (κ (ν w) 0)=π p:=(aY ((ao.frozen (ν w) K0.out.lt (fun q hq=>by rw[n0] at hq;cases hq)).1) 0).trans (K0.out.c 0 rfl);have c7:M.cell? (κ p 7)=ι m.at_:=aq.blk.c 7 rfl;have f7:M.frozen? (κ p 7)=false:=aq.blk.fz 7;revert ax ad aK aa aD cx av cv aq ao aR c0 c7 f7
 exact mq.u):p:=h ⟨k⟩
def sR (z:Wf o w) (hI:aI o w W wm L) (hP:bD o w p m) (af:p∉L) (hk:m.kd≠13) {b} (h:cN m.n wm=(.ok b,wm')) :
  Calls prog 313 #[π p,π W] w (cg W p (if b then {m with at_:=2} else m) wm' L false o w):=by
 obtain⟨w1,bl,bf,a1,O⟩:=al1 w 297 [π p];obtain⟨G,bo,-,ak,Z,au⟩:=al2 a1 bf 409 [.func (.func 337) #[π W] #[]];replace O:=au _ _ _ O;clear au;refine yx ?_;intro n0 n1;have aM:=z.below ak;have I:=(tB z ak).kp;have ac:=hI.below z ak;have aF:=hP.kept I ak.size trivial;have aQ:=hP.lt;have aG:=qe 355 #[π (η w),ϖ w] G _ Ψ (tM aM ac aF af h _ _ Z O n1 n0);have Y:Calls prog 352 #[π p] G (μ (.bool false) G):=by obtain⟨aD,cx,av,cv,h⟩:=aF;have h2:=kg h;rwa [show (m.kd == 13)=false by simp[hk]] at h2
 have d0:G.cell? (κ (ν w) 0)=π p:=O.c 0 rfl;have bi:=χ aF;have K0:=χ O;clear hP hI ac aF h O Z n1 I hk;cases b with
 | true=>
   go_enter func313,ntmps313;go_upto_region 5 with first
    | (go_at_call 352;refine γ Y ?_)
    | (go_at_call 354;refine aG.mono ?_;rintro e M ⟨v,E,rfl,⟨rfl,o3,ag,aV⟩,ah⟩)
   refine A7 ?_;intro ax ad aK aa aD cx av cv aq ao aR c0 c7 f7;obtain⟨t1,t2⟩:=aq.state aK 2;have HF:=χ (cg.fin (b:=false) z ak af aQ ao aR t1 ⟨aD,cx,av,cv,t2⟩);clear t1 t2 ao aR aq ag aV ad aG;go_wp2_with fail;go_ret;exact HF.out
 | false=>
   go_enter func313,ntmps313;go_upto_region 5 with first
    | (go_at_call 352;refine γ Y ?_)
    | (go_at_call 354;refine aG.mono ?_;rintro e M ⟨v,E,rfl,⟨rfl,o3,ag,aV⟩,ah⟩)
   refine A7 ?_;intro ax ad aK aa aD cx av cv aq ao aR c0 c7 f7;have HF:=χ (cg.fin (b:=false) z ak af aQ ao aR (ZM _ aK) ⟨aD,cx,av,cv,aq⟩);clear ao aR aq ag aV ad aG;go_wp2_with fail;go_ret;exact HF.out
def xL (z:Wf o w) (hI:aI o w W wm L) (hP:bD o w p m) (af:p∉L) (hk:m.kd≠13) (a nx) (ha:m.at_=a) (G:∀w,Calls prog 366 #[ι a] w (μ (ι nx) w)) (h:b1 m.n wm=(.ok (),wm')) :
  Calls prog 321 #[π p,π W] w (cg W p {m with at_:=nx} wm' L false o w):=by
 have hC:=j0 z hI h;have aQ:=hP.lt;have Y:Calls prog 352 #[π p] w (μ (.bool false) w):=by obtain⟨aD,cx,av,cv,h⟩:=hP;have h2:=kg h;rwa [show (m.kd == 13)=false by simp[hk]] at h2
 have U:w.cell? (κ p 11)=ι m.n:=by obtain⟨aD,cx,av,cv,h⟩:=hP;exact h.blk.c 11 rfl
 have HP:=χ hP;clear hP hI h hk;go_enter func321,ntmps321;go_upto_region 4 with first
  | (go_at_call 352;refine γ Y ?_)
  | (go_at_call 348;refine hC.mono ?_;rintro e E ⟨o3,ag,aV,rfl⟩;have bY:=χ (fun (c:Nat)=>ia (ν E) c (E.alloc θ2) ((Zh E 33 [ι 0]).c 0 rfl)))
  | (go_at_call 364;refine γ (bY.out _) ?_)
 have ah:=am E (.cells #[ι 0] 33);generalize E.alloc θ2=M at *;have ax:=z.BD ag;have aK:=ax.below ah;have aa:=(tB ax ah).kp;obtain⟨aD,cx,av,cv,aq⟩:=(HP.out.kept (ag.et (K:=(·=p)) fun q e=>by rw[e];exact af) ag.size rfl).kept aa ah.size trivial;have ao:J (·∈L) o w o3 M:=ag.same z (Zb ax ah);have aR:aT (ν w) W wm' L o3 M:=yw;have c7:M.cell? (κ p 7)=ι a:=by rw[←ha];exact aq.blk.c 7 rfl
 have f7:M.frozen? (κ p 7)=false:=aq.blk.fz 7;obtain⟨t1,t2⟩:=aq.state aK nx;have HF:=χ (cg.fin (b:=false) z (Zj _ _) af aQ ao aR t1 ⟨aD,cx,av,cv,t2⟩);clear t1 t2 ao aR aq ag aV hC;go_wp2_with (go_at_call 366;refine γ (G _) ?_);go_ret;exact HF.out
end
end
end Go.Proofs.YtmchabopafimeaaGreatDoor
