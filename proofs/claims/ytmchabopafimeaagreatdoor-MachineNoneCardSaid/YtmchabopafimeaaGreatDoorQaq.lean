import Derived.Test.YtmchabopafimeaaGreatDoorQag
namespace Go.Proofs.YtmchabopafimeaaGreatDoor
set_option maxRecDepth 100000
set_option maxHeartbeats 16000000
set_option linter.all false
open Go.RowKit Go.Sort Tryz
section
structure a5 where
 f:cW
 va:Option Addr
 vc:Nat
 da:Option Addr
 dc:Nat
def cb (x:a5):List Value:=[.int .i64 x.f.fn,.int .i64 x.f.nd,.slice x.va x.f.vars.length x.vc,.slice x.da x.f.dn.length x.dc]
def g4 (x:a5) (cs:List Value):Prop:=cs=cb x
structure aP (o:ab) (w:World) (g:Nat) (x:a5):Prop where
 vars:ap (Fz o w) w x.f.vars x.va 0
 vle:x.f.vars.length≤x.vc
 vcm:x.vc≤maxLen
 dn:ax (ak (Fz o w) w) o w g 86 3 (.slice x.da x.f.dn.length x.dc) x.f.dn
def fS (x y:a5):Prop:=∀b,x.da=some b→y.da≠some b
structure aF (o:ab) (w:World) (g c:Nat) (F:ba) (va:Option Addr) (vc:Nat) (fa:Option Addr) (fc:Nat) (xs:List a5):Prop where
 blk:A w g 253 [.pointer (some ⟨c,0,none⟩),.int .i64 F.st,.int .i64 F.val.kd,.int .i64 F.val.n,.slice va F.val.l.length vc,.slice fa xs.length fc]
 own:o g=some g
 val:aG (Fz o w) w F.val (.agg #[.int .i64 F.val.kd,.int .i64 F.val.n,.slice va F.val.l.length vc])
 fs:F.fs=xs.map a5.f
 row:ax g4 o w g 249 4 (.slice fa xs.length fc) xs
 ok:∀x∈xs,aP o w g x
 dis:xs.Pairwise fS
 zv:F.st=3∨F.val=vZ
def a1 (o:ab) (w:World) (g c:Nat) (F:ba):Prop:=∃va vc fa fc xs,aF o w g c F va vc fa fc xs
structure dW (o:ab) (w:World) (c:Nat) (p:List Fn) (pa:Option Addr) (pc:Nat):Prop where
 blk:A w c 130 [.slice pa p.length pc]
 own:o c=none
 pat:b0 (Fz o w) w p pa pc
 pos:0 < p.length
def bz (o:ab) (w:World) (c:Nat) (p:List Fn):Prop:=∃pa pc,dW o w c p pa pc
section
variable {o o':ab} {w w':World} {g c:Nat} {F:ba} {va fa pa:Option Addr} {vc fc pc:Nat} {xs:List a5} {x:a5} {K:Nat→Prop} {p:List Fn}
def ak.kept {t cs} (h:ak (Fz o w) w t cs) (I:aM K o w o' w') (hs:w.heap.size≤w'.heap.size):ak (Fz o' w') w' t cs:=by obtain⟨v0,v1,v2,H,h2⟩:=h;exact⟨v0,v1,v2,H,h2.kept I hs⟩
def aP.kept (h:aP o w g x) (I:aM K o w o' w') (hs:w.heap.size≤w'.heap.size) (hg:K g):aP o' w' g x:=
 ⟨h.vars.kept I hs,h.vle,h.vcm,h.dn.kept I hg fun _ _ hv=>hv.kept I hs⟩
def aF.kept (h:aF o w g c F va vc fa fc xs) (I:aM K o w o' w') (hs:w.heap.size≤w'.heap.size) (hg:K g):aF o' w' g c F va vc fa fc xs:=by obtain⟨H,h2⟩:=I.blk h.blk h.own hg;exact⟨H,h2,h.val.kept I hs,h.fs,h.row.kept I hg fun _ _ e=>e,fun x hx=>(h.ok x hx).kept I hs hg,h.dis,h.zv⟩
def a1.kept (h:a1 o w g c F) (I:aM K o w o' w') (hs:w.heap.size≤w'.heap.size) (hg:K g):a1 o' w' g c F:=by obtain⟨va,vc,fa,fc,xs,h⟩:=h;exact⟨va,vc,fa,fc,xs,h.kept I hs hg⟩
def a1.lt (h:a1 o w g c F):g < w.heap.size:=by obtain⟨va,vc,fa,fc,xs,h⟩:=h;exact h.blk.lt
def b0.kept (h:b0 (Fz o w) w p pa pc) (I:aM K o w o' w') (hs:w.heap.size≤w'.heap.size):b0 (Fz o' w') w' p pa pc:=⟨h.fs.kept I hs,h.le,h.cap⟩
def dW.kept (h:dW o w c p pa pc) (I:aM K o w o' w') (hs:w.heap.size≤w'.heap.size):dW o' w' c p pa pc:=by obtain⟨H,h2⟩:=I.fz hs ⟨h.own,h.blk.lt⟩;exact⟨h2.trans h.blk,H.1,h.pat.kept I hs,h.pos⟩
def bz.kept (h:bz o w c p) (I:aM K o w o' w') (hs:w.heap.size≤w'.heap.size):bz o' w' c p:=by obtain⟨pa,pc,h⟩:=h;exact⟨pa,pc,h.kept I hs⟩
def aF.frame (h:aF o w g c F va vc fa fc xs) {k} (hx:xs[k]? =some x):∃L,fa=some ⟨L,0,none⟩∧L < w.heap.size∧o L=some g∧(∀i v,(cb x)[i]? =some v→w.cell? (κ L (k*4+i))=some v)∧(∀q,w.frozen? (κ L q)=false)∧xs.length≤fc∧fc≤maxLen:=by
 obtain⟨a,cap,e,H,h2,h3⟩:=h.row.form;injection e with e1 e2 e3;subst e1;subst e3;obtain⟨L,cs,rfl,q1,q2,q3,q4,q5,rfl⟩:=h3 k x hx;refine⟨L,rfl,q1,q2,fun i v hi=>?_,q5,H,h2⟩;have:i < 4:=by have:=(Ze.1 hi).1;simpa [cb] using this
 rw[q4 i this,hi]
def dW.node (h:dW o w c p pa pc) {f k fn nd} (hf:p[f]? =some fn) (hk:fn.ns[k]? =some nd):∃(g1 o1 g2 o2:Nat) (la:Option Addr) (lc cap:Nat),pa=some ⟨g1,o1,none⟩∧g1 < w.heap.size∧g2 < w.heap.size∧p.length≤pc∧pc≤maxLen ∧
  w.cell? (κ g1 (o1+f*2))=ι fn.ps∧w.cell? (κ g1 (o1+f*2+1))=some (.slice (some ⟨g2,o2,none⟩) fn.ns.length cap)∧fn.ns.length≤cap∧cap≤maxLen ∧
  w.cell? (κ g2 (o2+k*3))=ι nd.op∧w.cell? (κ g2 (o2+k*3+1))=ι nd.n∧w.cell? (κ g2 (o2+k*3+2))=some (.slice la nd.l.length lc)∧nd.l.length≤lc∧lc≤maxLen∧O (Fz o w) w nd.l la∧ag nd.op∧ag nd.n:=by obtain⟨g1,o1,Y,cap,rfl,q0,q1,q2,q3,q4,q5,-⟩:=h.pat.fs f fn hf;obtain⟨g2,o2,la,lc,rfl,r0,r1,r2,r3,r4,r5,r6,r7,r8⟩:=q5 k nd hk;exact⟨g1,o1,g2,o2,la,lc,cap,rfl,q0.2,r0.2,h.pat.le,h.pat.cap,q1,q2,q3,q4,r1,r2,r3,r4,r5,r6,r7,r8⟩
end
def mm (o:ab) (fa:Option Addr) (n:Nat) (nd:Nd) (w:World) (e:Ending) (w':World):Prop:=Below w.heap.size w w'∧∃(L:Nat) (la:Option Addr) (lc:Nat),fa=some ⟨L,0,none⟩∧e= .returned (.tuple #[.pointer (some ⟨L,n*4,none⟩),bT nd la lc])∧nd.l.length≤lc∧lc≤maxLen∧O (Fz o w) w nd.l la
section
variable {o:ab} {w w':World} {g c:Nat} {F:ba} {va fa pa:Option Addr} {vc fc pc:Nat} {ys:List a5} {x:a5} {p:List Fn} {fn:Fn} {nd:Nd}
def iA (z:Wf o w) (h:aF o w g c F va vc fa fc (ys ++ [x])) (hc:dW o w c p pa pc) (hf:p[x.f.fn]? =some fn) (hk:fn.ns[x.f.nd]? =some nd) (hl:ys.length < 100000) :
  Calls prog 127 #[π g] w (mm o fa ys.length nd w):=by
 obtain⟨w1,ae,-,af,Y⟩:=al1 w 141 [ι 0,ι 0,ζ];have I:=(tB z af).kp;have H:=h.kept I af.size trivial;have aB:=hc.kept I af.size;obtain⟨L,rfl,ag,-,aJ,-,q1,q2⟩:=H.frame (k:=ys.length) (x:=x) ξ;obtain⟨g1,o1,g2,o2,la,lc,cap,rfl,aG,ap,r1,r2,-,r3,r4,r5,r6,r7,r8,r9,ah,A,-,-⟩:=hc.node hf hk;replace r3:=(af.cell (p:=κ g1 (o1+x.f.fn*2+1)) aG).trans r3;replace r6:=(af.cell (p:=κ g2 (o2+x.f.nd*3)) ap).trans r6;replace r7:=(af.cell (p:=κ g2 (o2+x.f.nd*3+1)) ap).trans r7;replace r8:=(af.cell (p:=κ g2 (o2+x.f.nd*3+2)) ap).trans r8;have hE:∀w',Below (ν w) w1 w'→mm o (some ⟨L,0,none⟩) ys.length nd w (.returned (.tuple #[.pointer (some ⟨L,ys.length*4,none⟩),bT nd la lc])) w':=fun w' hb=>⟨af.trans hb,L,la,lc,rfl,rfl,r9,ah,A⟩;have HE:=χ hE;have d0:=aJ 0 _ rfl;have d1:=aJ 1 _ rfl;have aA:x.f.fn < p.length:=(Ze.1 hf).1;have bC:x.f.nd < fn.ns.length:=(Ze.1 hk).1;obtain⟨c0,-,-,-,-,c5,-⟩:=kc5 H.blk;have cc:=aB.blk.c 0 rfl;rw[Nat.add_zero] at d0;generalize hn:ys.length=n at *;have ao:(ys ++ [x]).length=n+1:=by simp[hn]
 rw[ao] at c5 q1;obtain⟨z0,y0,z1,y1,z2,y2,-⟩:=kb2 Y;have HK:=χ Y;clear hE aJ A aG ap h H hc aB ao hn Y af I;go_enter func127,ntmps127;go_upto_region 1 with fail;clear ae;go_quiet (fail);go_upto_region 2 with fail;go_region;have hp:=cA (HK.out.drewN (nq+1)) (ι nd.op) (ι nd.n) (.slice la nd.l.length lc);have aa:Below (ν w) w1 (w1.drewN (nq+1)):=⟨rfl,rfl,rfl,Zc _,fun _ _=>rfl⟩;have ac:=cU aa (Zc _) (ι nd.op) (ι nd.n) (.slice la nd.l.length lc);go_wp2_with fail;refine Zl (v:= .tuple #[.pointer (some ⟨L,n*4,none⟩),bT nd la lc]) (by simp[results,results127,go_sem,bT,hp.c 0 rfl,hp.c 1 rfl,hp.c 2 rfl]) rfl (HE.out _ ac)
end
end
section
section
variable {o:ab} {w w':World} {g c:Nat} {F:ba} {va fa pa:Option Addr} {vc fc pc:Nat} {xs:List a5} {x:a5} {p:List Fn}
def w5 (hc:dW o w c p pa pc) (hl:p.length≤1000000):Calls prog 57 #[π c] w (μ (.bool false) w):=by
 have c0:=hc.blk.c 0 rfl;have h0:=hc.pos;have hq:((p.length:Int) == 0)=false:=by simp;intro e;subst e;simp at h0
 clear hc;go_enter func57,ntmps57;go_wp2_with fail;go_ret;exact⟨rfl,rfl⟩
def kk (h:aF o w g c F va vc fa fc xs):Calls prog 167 #[π g] w (μ (.bool false) w):=by have c0:=h.blk.c 0 rfl;clear h;go_enter func167,ntmps167;go_wp2_with fail;go_ret;exact⟨rfl,rfl⟩
def tk (w):Calls prog 167 #[.pointer none] w (μ (.bool true) w):=by go_enter func167,ntmps167;go_wp2_with fail;go_ret;exact⟨rfl,rfl⟩
def he (h:aF o w g c F va vc fa fc xs):Calls prog 126 #[π g] w (μ (ι F.st) w):=by have c1:=h.blk.c 1 rfl;have hm:=kk h;clear h;go_enter func126,ntmps126;go_wp2_with (go_at_call 167;refine γ hm ?_);go_ret;exact⟨rfl,rfl⟩
def q1 (w):Calls prog 126 #[.pointer none] w (μ (ι 0) w):=by have hm:=tk w;go_enter func126,ntmps126;go_wp2_with (go_at_call 167;refine γ hm ?_);go_ret;exact⟨rfl,rfl⟩
def aF.state (h:aF o w g c F va vc fa fc xs) (z:Wf o w) (h0:F.val=vZ) (s):J (·=g) o w o (σ w g 1 (ι s):World)∧aF o (σ w g 1 (ι s)) g c {F with st:=s} va vc fa fc xs:=by
 have U:=Z3 (D:=(·=g)) z h.own rfl 1 (ι s);have I:=U.et (K:=(·≠g)) fun _ h=>h;refine⟨U,h.blk.set 1 _,h.own,h.val.kept I U.size,h.fs,?_,?_,h.dis,.inr h0⟩
 ·obtain⟨rs,H,h2⟩:=h.row
  exact⟨rs,H.BH (bq h.blk H.row φ) _ _,h2⟩
 ·intro x hx
  obtain⟨q1,q2,q3,rs,q4,q5⟩:=h.ok x hx;exact⟨q1.kept I U.size,q2,q3,rs,q4.BH (bq h.blk q4.row φ) _ _,q5.mono fun _ _ hv=>hv.kept I U.size⟩
def aF.fail (h:aF o w g c F va vc fa fc xs) (z:Wf o w) (h0:F.val=vZ):J (·=g) o w o (σ (σ w g 1 (ι 4)) g 5 (.slice none 0 0):World)∧aF o (σ (σ w g 1 (ι 4)) g 5 (.slice none 0 0)) g c c4 va vc none 0 []:=by have U:=Z3 (D:=(·=g)) z h.own rfl 1 (ι 4);have aq:=U.same z (Z3 (D:=(·=g)) (z.BD U) h.own rfl 5 (.slice none 0 0));have I:=aq.et (K:=(·≠g)) fun _ h=>h;have hb:=(h.blk.set 1 (ι 4)).set 5 (.slice none 0 0);have hv:=h.val.kept I aq.size;rw[h0] at hv hb;exact⟨aq,hb,h.own,hv,rfl,Yd _ _ _ _ _ _,fun x hx=>by simp at hx,Yr,.inr rfl⟩
def j5 (z:Wf o w) (h:aF o w g c F va vc fa fc xs) (h0:F.val=vZ):Calls prog 165 #[π g] w fun e w'=>e= .returned (.tuple #[])∧J (·=g) o w o w'∧a1 o w' g c c4:=by obtain⟨t1,t2⟩:=h.fail z h0;obtain⟨-,-,c1,f1,-,-,-,-,-,-,c5,f5,-⟩:=kb5 h.blk;have HF:=χ (⟨t1,_,_,_,_,_,t2⟩:J (·=g) o w o (σ (σ w g 1 (ι 4)) g 5 (.slice none 0 0):World)∧a1 o (σ (σ w g 1 (ι 4)) g 5 (.slice none 0 0)) g c c4);clear h t1 t2;go_enter func165,ntmps165;go_wp2_with fail;go_end0;exact⟨rfl,HF.out⟩
end
end
section
def gm {w an G sz E n O v v' xs I} (h:aQ w an sz v n xs) (V:aQ w G E v' O I) (U:an≠G):∀q,v.ownBlock=some q→v'.ownBlock≠some q:=by exact zy
def kR {α:Type} (ys) (x x':α):(ys ++ [x]).set ys.length x'=ys ++ [x']:=by simp
def cY (o:ab) (w:World) (g c:Nat) (R:ba) (e:Ending) (w':World):Prop:=e= .returned (.tuple #[])∧∃o',J (·=g) o w o' w'∧a1 o' w' g c R
section
variable {o:ab} {w:World} {g c:Nat} {F:ba} {va fa:Option Addr} {vc fc:Nat} {ys:List a5} {x x':a5} {nd:Nd}
def aF.Cp {L} (h:aF o w g c F va vc (some ⟨L,0,none⟩) fc (ys ++ [x])) (z:Wf o w) {i} (hi:i < 4) {u} (he:cb x'=(cb x).set i u) (az:aP o w g x') (hd:∀y∈ys,fS y x') :
  J (·=g) o w o (σ w L (ys.length*4+i) u:World)∧aF o (σ w L (ys.length*4+i) u) g c {F with fs:=(ys ++ [x']).map a5.f} va vc (some ⟨L,0,none⟩) fc (ys ++ [x']):=by
 obtain⟨bp,e,ad,hfo,-⟩:=h.frame (k:=ys.length) (x:=x) ξ;injection e with e;injection e with e _ _;subst e;have U:=Z3 (D:=(·=g)) z hfo rfl (ys.length*4+i) u;have I:=U.et (K:=(·≠g)) fun _ h=>h;have aI:(ys ++ [x]).length=(ys ++ [x']).length:=by simp
 have hF:∀y,aP o w g y→aP o (σ w L (ys.length*4+i) u) g y:=by intro y hy;obtain⟨q1,q2,q3,rs,q4,q5⟩:=hy;refine⟨q1.kept I U.size,q2,q3,rs,q4.BH (fun e=>?_) _ _,q5.mono fun _ _ hv=>hv.kept I U.size⟩;obtain⟨G,r1,-⟩:=h.row;exact gm q4.row r1.row φ L e rfl
 refine⟨U,?_,h.own,h.val.kept I U.size,rfl,?_,?_,?_,h.zv⟩
 ·rw[←aI]
  refine h.blk.BJ (q:=κ L _) (fun e=>?_) u;obtain⟨G,r1,-⟩:=h.row;exact bq h.blk r1.row φ (by rw[e];rfl)
 ·obtain⟨rs,r1,r2⟩:=h.row
  refine⟨rs.set (ys.length*4+i) u,⟨?_,fun q hq=>r1.own q hq⟩,?_⟩
  ·have:=r1.row.stored (ys.length*4+i) u
   rwa [aI] at this
  ·have:=r2.cell (x:=x') (u:=u) (j:=ys.length) (y:=x) ξ hi (fun cs _ hp=>by unfold g4 at hp ⊢;rw[hp,he])
   rwa [kR] at this
 ·intro y hy
  rcases Zv.1 hy with hy | hy
  ·exact hF y (h.ok y (Zm _ hy))
  ·rw[List.mem_singleton.1 hy]
   exact hF x' az
 ·rw[List.pairwise_append]
  refine⟨(ZK.1 h.dis).1,ZU _ _,fun y hy O hz=>?_⟩;rw[List.mem_singleton.1 hz];exact hd y hy
def aF.BK (h:aF o w g c F va vc fa fc (ys ++ [x])):aP o w g x:=h.ok x ξ
def aF.BU (h:aF o w g c F va vc fa fc (ys ++ [x])):∀y∈ys,fS y x:=fun y hy=>(ZK.1 h.dis).2.2 y hy x ξ
def fS.none {y f va vc dc}:fS y ⟨f,va,vc,none,dc⟩:=fun b _ h=>by cases h
def aP.done (h:aP o w g x) {k t} (hk:x.f.dn[k]? =some t):∃(b:Nat) (a':Option Addr) (c':Nat),x.da=some ⟨b,0,none⟩∧b < w.heap.size∧o b=some g∧x.f.dn.length≤x.dc∧x.dc≤maxLen ∧
  w.cell? (κ b (k*3))=ι t.kd∧w.cell? (κ b (k*3+1))=ι t.n∧w.cell? (κ b (k*3+2))=some (.slice a' t.l.length c')∧aG (Fz o w) w t (.agg (υ t a' c')):=by obtain⟨a,cap,e,H,h2,h3⟩:=h.dn.form;injection e with e1 e2 e3;obtain⟨b,cs,rfl,q1,q2,q3,q4,q5,v0,v1,v2,rfl,q6⟩:=h3 k t hk;obtain⟨a',c',e,q7,q8⟩:=q6.three;injection e with e;simp only[Array.mk.injEq,List.cons.injEq,and_true] at e;obtain⟨rfl,rfl,rfl⟩:=e;exact⟨b,a',c',e1,q1,q2,ω,ω,q4 0 ω,q4 1 ω,q4 2 ω,q6⟩
def aP.CU (h:aP o w g x):x.f.dn.length≤x.dc∧x.dc≤maxLen:=by obtain⟨a,cap,e,H,h2,h3⟩:=h.dn.form;injection e with e1 e2 e3;omega
def qM {L la lc} (z:Wf o w) (h:aF o w g c F va vc (some ⟨L,0,none⟩) fc (ys ++ [x])) (h0:F.val=vZ) (hn:nd.op=24→0 < x.f.dn.length) :
  Calls prog 166 #[π g,.pointer (some ⟨L,ys.length*4,none⟩),bT nd la lc] w (cY o w g c (eJ F.fs x.f nd)):=by
 unfold bT;obtain⟨w1,ae,-,af,Y⟩:=al1 w 141 [ι nd.op,ι nd.n,.slice la nd.l.length lc];have ak:=Zb (D:=(·=g)) z af;have I:=(tB z af).kp;have H:=h.kept I af.size trivial;have A:=z.below af;obtain⟨bp,e,ad,hfo,aJ,-,q1,q2⟩:=H.frame (k:=ys.length) (x:=x) ξ;injection e with e;injection e with e _ _;subst e;have d3:=aJ 3 _ rfl;have z0:=Y.c 0 rfl;have aE:=H.state A h0;obtain⟨-,-,c1,f1,-⟩:=kb1 H.blk;have aS:=H.BK
 have aC:=χ (fun G (hb:Below (ν w1) w1 G)=>(show Calls prog 165 #[π g] G (cY o w g c c4) from
   (j5 (A.below hb) (H.kept ((tB A hb).kp) hb.size trivial) h0).mono (by
    rintro e E ⟨rfl,h2,h3⟩
    exact⟨rfl,o,ak.same z ((Zb A hb).same A h2),h3⟩)))
 have bc:=χ (fun G (hb:Below (ν w1) w1 G)=>(show G.cell? (κ g 1)=ι F.st∧G.frozen? (κ g 1)=false∧∀s,cY o w g c {F with st:=s} (.returned (.tuple #[])) (σ G g 1 (ι s)) from by
   have h2:=H.kept ((tB A hb).kp) hb.size trivial;refine⟨h2.blk.c 1 rfl,h2.blk.fz 1,fun s=>?_⟩;obtain⟨t1,t2⟩:=h2.state (A.below hb) h0 s
   exact⟨rfl,o,ak.same z ((Zb A hb).same A t1),_,_,_,_,_,t2⟩))
 obtain⟨st,v,fs⟩:=F;obtain rfl:v=vZ:=h0;generalize az:ys.length*4=n4 at *
 by_cases aI:nd.op=24
 ·obtain⟨t,ht⟩:∃t,x.f.dn[0]? =some t:=⟨_,Zg (hn aI)⟩
  obtain⟨b,a',c',hb,-,-,e1,e2,s0,s1,s2,hv⟩:=aS.done ht;rw[Nat.zero_mul,Nat.zero_add] at s1 s2;rw[Nat.zero_mul] at s0;rw[hb] at d3;have ai:=l8 t _ _ hv.lt;have U:=hn aI;have HD:x.f.dn.getD 0 vZ=t:=by simp[List.getD,ht]
  have V:eJ fs x.f nd=if eX t=true then ⟨2,vZ,fs⟩ else c4:=by unfold eJ;rw[if_pos aI,HD]
  rw[V];have hq:(nd.op == 24)=true:=by simp[aI]
  clear aE H h hfo ak I af hb q1 q2 aJ Y hv aS HD V aI hn ht;cases ag:eX t with
  | true=>rw[if_pos rfl];rw[ag] at ai;clear ag;go_enter func166,ntmps166;go_wp2_with (go_at_call 195;refine δ ai ?_;intro G aa;obtain⟨c1,f1,hE⟩:=bc.out G aa;replace hE:=hE 2);go_end0;exact hE
  | false=>rw[if_neg φ];rw[ag] at ai;clear ag;go_enter func166,ntmps166;go_wp2_with (first | (go_at_call 195;refine δ ai ?_;intro G aa;have O:=aC.out G aa) | (go_at_call 165;refine δ O ?_;intro E hE));go_end0;exact⟨rfl,hE⟩
 ·have hq:(nd.op == 24)=false:=by simp[aI]
  have hE:=bc.out w1 (Zj _ _)
  by_cases h2:nd.op=15∨nd.op=14
  ·have V:eJ fs x.f nd=⟨2,vZ,fs⟩:=by unfold eJ;rw[if_neg aI,if_pos h2]
   rw[V];replace hE:=hE.2.2 2;have HE:=χ hE;clear aE H h hfo ak I af q1 q2 aJ Y aS V aI hn hE
   by_cases M:nd.op=15
   ·have be:(nd.op == 15)=true:=by simp[M]
    clear M h2;go_enter func166,ntmps166;go_wp2_with fail;go_end0;exact HE.out
   ·have be:(nd.op == 15)=false:=by simp[M]
    have bl:(nd.op == 14)=true:=by simp[h2.resolve_left M]
    clear M h2;go_enter func166,ntmps166;go_wp2_with fail;go_end0;exact HE.out
  ·have V:eJ fs x.f nd=⟨1,vZ,fs⟩:=by unfold eJ;rw[if_neg aI,if_neg h2]
   rw[V];replace hE:=hE.2.2 1;have HE:=χ hE;have be:(nd.op == 15)=false:=by simp;omega
   have bl:(nd.op == 14)=false:=by simp;omega
   clear aE H h hfo ak I af q1 q2 aJ Y aS V aI hn hE h2;go_enter func166,ntmps166;go_wp2_with fail;go_end0;exact HE.out
end
end
section
section
variable {o o':ab} {w w' V:World} {g c:Nat} {F:ba} {va fa:Option Addr} {vc fc:Nat} {xs:List a5} {x y:a5}
def AP {p:Prop} (h:p:=by
 have I:=U.et (K:=(·≠g)) fun _ h=>h;obtain⟨q1,q2,q3,rs,q4,q5⟩:=iq h;refine⟨q1.kept I U.size,q2,q3,rs,⟨q4.row.et fun b hb ad=>(hk b ad (hr b hb)).1,fun b hb=>?_⟩,q5.mono fun _ _ hv=>hv.kept I U.size⟩
 exact (hk b (q4.row.lt hb) (hr b hb)).2.trans (q4.own b hb)):p:=h
def aP.BJ {E} (h:aP o w g y) (U:J (·=g) o w o' w') (hk:∀b,b < w.heap.size→E≠some b→w'.heap[b]? =w.heap[b]? ∧o' b=o b) (hr:∀q,(Value.slice y.da y.f.dn.length y.dc).ownBlock=some q→E≠some q):aP o' w' g y:=by exact AP
def aF.push (h:aF o w g c F va vc fa fc xs) (z:Wf o w) (hx:aP o w g x) (hd:x.da=none) {rs} (aX:aD g4 4 xs rs) (aH:aw o w g 249 4 (.slice fa xs.length fc) xs.length rs) {g5 cap} (hr:aQ V 249 4 (.slice (Γ g5) (xs.length+1) cap) (xs.length+1) (rs ++ cb x)) (hg:w.grownBy V (Value.slice fa xs.length fc).ownBlock) (ha:(Value.slice fa xs.length fc).ownBlock=some g5∨g5=w.heap.size) (h0:F.val=vZ) :
  ∃o5,J (·=g) o w o5 (σ V g 5 (.slice (Γ g5) (xs.length+1) cap):World)∧aF o5 (σ V g 5 (.slice (Γ g5) (xs.length+1) cap)) g c {F with fs:=F.fs ++ [x.f]} va vc (some ⟨g5,0,none⟩) cap (xs ++ [x]):=by
 obtain⟨t1,t2⟩:=aH.BM z h.blk.lt hr hg ha;have aL:=z.BD t1;have Y:(Value.slice fa xs.length fc).ownBlock≠some g:=bq h.blk aH.row φ;have E:g5≠g:=by
  rcases ha with e | e
  ·intro e2;rw[e2] at e;exact Y e
  ·have:=h.blk.lt;omega
 have hk:∀b,b < w.heap.size→(Value.slice fa xs.length fc).ownBlock≠some b→V.heap[b]? =w.heap[b]? ∧o.set g5 (some g) b=o b:=by
  intro b hb ay;refine⟨hg.block b hb (fun e=>ay e.symm),Y2 _ _ ?_⟩;rcases ha with e | e
  ·intro e2;rw[e2] at ay;exact ay e
  ·omega
 obtain⟨Z,k2⟩:=hk g h.blk.lt Y;have ai:A V g 253 _:=Z.trans h.blk;have aj:o.set g5 (some g) g=some g:=k2.trans h.own;have t3:=Z3 (D:=(·=g)) aL aj rfl 5 (.slice (Γ g5) (xs.length+1) cap);have t4:=t1.same z t3;have aa:=t4.et (K:=(·≠g)) fun _ h=>h;have hF:∀y,aP o w g y→aP (o.set g5 (some g)) (σ V g 5 (.slice (Γ g5) (xs.length+1) cap)) g y:=by intro y hy;have hy1:=hy.BJ t1 hk (fun q hq=>gm (hy.dn.choose_spec.1).row aH.row φ q hq);have aU:=t3.et (K:=(·≠g)) fun _ h=>h;obtain⟨q1,q2,q3,G,q4,q5⟩:=hy1;exact⟨q1.kept aU t3.size,q2,q3,G,q4.BH (bq ai q4.row φ) _ _,q5.mono fun _ _ hv=>hv.kept aU t3.size⟩
 refine⟨_,t4,?_,aj,h.val.kept aa t4.size,?_,?_,?_,?_,.inr h0⟩
 ·have:=ai.set 5 (.slice (Γ g5) (xs.length+1) cap)
  rw[List.length_append];exact this
 ·show F.fs ++ [x.f]=_
  rw[h.fs];simp
 ·refine⟨rs ++ cb x,?_,aX.push rfl rfl⟩
  rw[List.length_append];exact t2.BH (by simp[Value.ownBlock];exact E) _ _
 ·intro y hy
  rcases Zv.1 hy with hy | hy
  ·exact hF y (h.ok y hy)
  ·rw[List.mem_singleton.1 hy];exact hF x hx
 ·rw[List.pairwise_append]
  refine⟨h.dis,ZU _ _,fun y hy O hz=>?_⟩;rw[List.mem_singleton.1 hz];intro b _ e;rw[hd] at e;cases e
end
def qF:(prog.info? 249).map (fun i=>(i.zero,i.size,i.bytes))=some (some (.agg #[ι 0,ι 0,ζ,ζ]),4,64):=by kernel_rfl
def df (p:List Fn):Nat→List cW→Bool
 | 0,_=>false
 | f+1,fs=>match fs.getLast? with
   | none=>false
   | some l=>match p[l.fn]? with
     | none=>false
     | some fn=>match fn.ns[l.nd]? with
       | none=>false
       | some x=>decide (fs.length≤1000) && decide (l.vars.length≤1000) &&
         if x.op=4∧l.dn.length=1 then decide (1 < x.l.length∧0≤x.l.getD 1 0) && df p f (fs.dropLast ++ [⟨l.fn,kid x 1,l.vars ++ l.dn,[]⟩])
         else if x.op=5∧l.dn.length=1 then false
         else if l.dn.length=x.l.length then decide (x.op=24→0 < l.dn.length)
         else if 256≤fs.length then true
         else decide (l.dn.length < x.l.length∧0≤x.l.getD l.dn.length 0) && df p f (fs ++ [⟨l.fn,kid x l.dn.length,l.vars,[]⟩])
def jo {p f n fn x} (H:p[f]? =some fn) (h2:fn.ns[n]? =some x):f6 p f n=x:=by unfold f6;simp[List.getD,H,h2]
def p2 {p k fs R} (hk:df p k fs=true) (hR:cJ p k fs=R):∃(k':Nat) (ys:List cW) (l:cW) (fn:Fn) (x:Nd),k=k'+1∧fs=ys ++ [l]∧p[l.fn]? =some fn∧fn.ns[l.nd]? =some x∧fs.length≤1000∧l.vars.length≤1000 ∧
  ((x.op=4∧l.dn.length=1∧1 < x.l.length∧0≤x.l.getD 1 0∧df p k' (ys ++ [⟨l.fn,kid x 1,l.vars ++ l.dn,[]⟩])=true∧cJ p k' (ys ++ [⟨l.fn,kid x 1,l.vars ++ l.dn,[]⟩])=R)
  ∨(¬(x.op=4∧l.dn.length=1)∧¬(x.op=5∧l.dn.length=1)∧l.dn.length=x.l.length∧(x.op=24→0 < l.dn.length)∧eJ fs l x=R)
  ∨(¬(x.op=4∧l.dn.length=1)∧¬(x.op=5∧l.dn.length=1)∧l.dn.length≠x.l.length∧256≤fs.length∧c4=R)
  ∨(¬(x.op=4∧l.dn.length=1)∧¬(x.op=5∧l.dn.length=1)∧l.dn.length < x.l.length∧fs.length < 256∧0≤x.l.getD l.dn.length 0∧df p k' (fs ++ [⟨l.fn,kid x l.dn.length,l.vars,[]⟩])=true∧cJ p k' (fs ++ [⟨l.fn,kid x l.dn.length,l.vars,[]⟩])=R)):=by
 cases k with
 | zero=>unfold df at hk;cases hk
 | succ k=>
   unfold df at hk;unfold cJ at hR;cases hl:fs.getLast? with
   | none=>rw[hl] at hk;cases hk
   | some l=>
     obtain⟨ys,rfl⟩:∃ys,fs=ys ++ [l]:=by obtain⟨ys,h⟩:=List.getLast?_eq_some_iff.1 hl;exact⟨ys,h⟩
     rw[hl] at hk hR;dsimp only at hk hR;cases hf:p[l.fn]? with
     | none=>rw[hf] at hk;cases hk
     | some fn=>
       rw[hf] at hk;dsimp only at hk;cases hn:fn.ns[l.nd]? with
       | none=>rw[hn] at hk;cases hk
       | some x=>
         rw[hn] at hk;rw[jo hf hn,List.dropLast_concat] at hR;rw[List.dropLast_concat] at hk;simp only[Bool.and_eq_true,decide_eq_true_eq] at hk;obtain⟨⟨H,h2⟩,hk⟩:=hk;refine⟨k,ys,l,fn,x,rfl,rfl,hf,hn,H,h2,?_⟩
         by_cases hA:x.op=4∧l.dn.length=1
         ·rw[if_pos hA] at hk hR
          simp only[Bool.and_eq_true,decide_eq_true_eq] at hk;exact .inl ⟨hA.1,hA.2,hk.1.1,hk.1.2,hk.2,hR⟩
         ·rw[if_neg hA] at hk hR
          by_cases hB:x.op=5∧l.dn.length=1
          ·rw[if_pos hB] at hk;cases hk
          ·rw[if_neg hB] at hk hR
           by_cases hC:l.dn.length=x.l.length
           ·rw[if_pos hC] at hk hR
            exact .inr (.inl ⟨hA,hB,hC,of_decide_eq_true hk,hR⟩)
           ·rw[if_neg hC] at hk hR
            by_cases hD:256≤(ys ++ [l]).length
            ·rw[if_pos hD] at hR
             exact .inr (.inr (.inl ⟨hA,hB,hC,hD,hR⟩))
            ·rw[if_neg hD] at hk hR
             simp only[Bool.and_eq_true,decide_eq_true_eq] at hk;exact .inr (.inr (.inr ⟨hA,hB,hk.1.1,ω,hk.1.2,hk.2,hR⟩))
def dP (w n):Below (ν w) w (w.drewN n):=⟨rfl,rfl,rfl,Zc _,fun _ _=>rfl⟩
def iw (o:ab) (w:World) (g c:Nat) (p:List Fn) (R:ba) (k:Nat) (wr:World):Prop:=∃(o':ab) (s:Int) (va fa:Option Addr) (vc fc:Nat) (xs:List a5),
 J (·=g) o w o' wr∧aF o' wr g c ⟨s,vZ,xs.map a5.f⟩ va vc fa fc xs∧cJ p k (xs.map a5.f)=R∧df p k (xs.map a5.f)=true
section
variable {o:ab} {w w':World} {g c:Nat} {F:ba} {va fa pa:Option Addr} {vc fc pc:Nat} {xs ys:List a5} {x x':a5} {p:List Fn} {fn:Fn} {nd:Nd} {R:ba}
def yA {p q:Prop} (k:q) (h:Zq q→p:=by
 intro mq;refine f' _ (by rfl) _ _ _ _ (by rfl) _ _ (by rfl) (by rfl) _ _ bi ?_
 exact mq.u):p:=h ⟨k⟩
def xW {p q:Prop} (k:q) (h:Zq q→p:=by
 intro mq;refine I _ _ _ Φ (fun _=>aC) ?_
 exact mq.u):p:=h ⟨k⟩
def nB (z:Wf o w) (h:aF o w g c F va vc fa fc xs) (hc:dW o w c p pa pc) (h0:F.val=vZ) (k) (hR:cJ p k F.fs=R) (hk:df p k F.fs=true) :
  Calls prog 123 #[π g] w (cY o w g c R):=by
 have hI:iw o w g c p R k w:=by obtain⟨st,v,fs⟩:=F;obtain rfl:v=vZ:=h0;obtain rfl:fs=xs.map a5.f:=h.fs;exact⟨o,st,va,fa,vc,fc,xs,ZM _ z,h,hR,hk⟩
 clear hR hk h h0;go_enter func123,ntmps123;go_wp2_with fail;go_loopg [2,3,4,5] k (fun k _ _ _ _ wr=>iw o w g c p R k wr)
 case atStart=>exact hI
 case round=>
  obtain⟨o1,s,va,fa,vc,fc,xs,U,hF,hR,hk⟩:=hrel;obtain⟨k',bW,fl,fn,nd,rfl,a6,a1,bz,ao,aA,bJ⟩:=p2 hk hR;obtain⟨ys,xx,rfl,rfl,hx⟩:=List.map_eq_append_iff.1 a6;obtain⟨x,rfl,rfl⟩:∃x,xx=[x]∧x.f=fl:=by
   rcases xx with _ | ⟨x,_ | _⟩
   ·simp at hx
   ·simp at hx;exact⟨x,rfl,hx⟩
   ·simp at hx
  have aE:=z.BD U;have bF:=hc.kept (U.et (K:=fun b=>b≠g) fun _ h=>h) U.size;have hy:ys.length < 1000:=by simp at ao;omega
  have aS:=iA aE hF bF a1 bz ω;clear a6 hk hR hx;generalize hGF:ys.map a5.f=bW at *;go_upto_region 2 with (go_at_call 127;refine aS.mono ?_;rintro e w1 ⟨af,L,la,lc,rfl,rfl,bw,bu,bx⟩;unfold bT);obtain⟨G,ap⟩:∃u,w1.alloc (.cells #[ι nd.op,ι nd.n,.slice la nd.l.length lc] 141)=u:=⟨_,rfl⟩;have aT:A G (ν w1) 141 [ι nd.op,ι nd.n,.slice la nd.l.length lc]:=by rw[←ap];exact Zh _ _ _
  have aa:Below (ν wr) wr G:=by rw[←ap];exact af.alloc af.size _
  rw[ap];have bt:wr.heap.size≤w1.heap.size:=af.size;clear ap aS;generalize w1.heap.size=nb at *;have aq:=U.same z (Zb aE aa);have ap:=aE.below aa;have bg:=(tB aE aa).kp;have a8:=hF.kept bg aa.size trivial;have bK:O (Fz o1 G) G nd.l la:=bx.kept bg aa.size;clear bx af hF U bF bg;have bU:o1 nb=none:=aE.ge bt;obtain⟨bp,e,ag,hfo,aJ,ca,q1,q2⟩:=a8.frame (k:=ys.length) (x:=x) ξ;injection e with e;injection e with e _ _;subst e;have bR:=aJ 0 _ rfl;rw[Nat.add_zero] at bR;have d2:=aJ 2 _ rfl;have d3:=aJ 3 _ rfl;have ci:=χ bR;have ce:=χ d2;have cd:=χ d3;have z0:=aT.c 0 rfl;obtain⟨bM,aQ⟩:∃b,decide (nd.op=4∧x.f.dn.length=1)=b:=⟨_,rfl⟩;obtain⟨bD,b6⟩:∃b,decide (nd.op=5∧x.f.dn.length=1)=b:=⟨_,rfl⟩;have HA:=χ aQ;have HB:=χ b6;have HC:=χ bJ;have ae:=χ a8;have b0:=χ hGF;generalize bc:ys.length*4=n4 at *;clear aQ b6 bJ a8 hGF aJ;go_cut [38] from 39 to 50 (fun b wx=>b= .bool bM∧G=wx)
  case first=>
   by_cases h4:nd.op=4
   ·have hq:(nd.op == 4)=true:=by simp[h4]
    have aw:=HA.out
    by_cases H:x.f.dn.length=1
    ·obtain rfl:bM=true:=by rw[←aw];simp[h4,H]
     have be:((x.f.dn.length:Int) == 1)=true:=by simp[H]
     clear h4 H aw;go_wp2_with fail;go_meet;exact⟨rfl,rfl⟩
    ·obtain rfl:bM=false:=by rw[←aw];simp[H]
     have be:((x.f.dn.length:Int) == 1)=false:=by simp;omega
     clear h4 H aw;go_wp2_with fail;go_meet;exact⟨rfl,rfl⟩
   ·have hq:(nd.op == 4)=false:=by simp[h4]
    obtain rfl:bM=false:=by rw[←HA.out];simp[h4]
    clear h4;go_wp2_with fail;go_meet;exact⟨rfl,rfl⟩
  case rest=>
   obtain⟨rfl,rfl⟩:=hcut;cases bM with
   | true=>
     have aQ:=of_decide_eq_true HA.out;rcases HC.out with ⟨-,bH,ao,ak,ah,hR⟩ | h | h | h
     ·clear HA HB HC aQ
      obtain⟨wd,bS⟩:∃u,G.drew=u:=⟨_,rfl⟩;have aM:Below (ν G) G wd:=by rw[←bS];exact (Zj _ _).drew
      have aV:Wf o1 wd:=ap.below aM;have bh:=(tB ap aM).kp;have bX:=ae.out.kept bh aM.size trivial;have az:=bX.BK;obtain⟨t,ht⟩:∃t,x.f.dn[0]? =some t:=⟨_,Zg ω⟩;obtain⟨db,ta,tc,b4,bG,aG,a4,bP,s0,s1,s2,bL⟩:=az.done ht;rw[Nat.zero_mul] at s0 s1 s2;rw[Nat.zero_add] at s1 s2;have ad:x.f.dn=[t]:=by
       obtain⟨xf,_,_,_,_⟩:=x;obtain⟨_,_,_,dn⟩:=xf;dsimp only at bH ht ⊢;rcases dn with _ | ⟨y,_ | _⟩
       ·simp at bH
       ·simp at ht;rw[ht]
       ·simp at bH
      have bO:L < wd.heap.size:=Za ag aM.size;have d2:=(aM.cell (p:=κ L (n4+2)) ag).trans d2;have d3:wd.cell? (κ L (n4+3))=some (.slice (Γ db) x.f.dn.length x.dc):=by rw[←b4];exact (aM.cell (p:=κ L (n4+3)) ag).trans d3
      obtain⟨kv,bN⟩:∃kv,nd.l[1]? =some kv:=⟨_,Zg ao⟩;obtain⟨kb,ko,cq,aZ,ck,-⟩:=(bK.kept bh aM.size) _ _ bN;have a3:kv=(kid nd 1:Int):=by unfold kid;rw[show nd.l.getD 1 0=kv by simp[List.getD,bN]] at ak ⊢;omega
      rw[a3] at ck;have b':=(aM.block nb aT.lt).trans aT;have cj:nb < wd.heap.size:=Za aT.lt aM.size;have bC:=az.vle;have aO:wd.cell? (κ L (n4+2))=some (.slice x.va x.f.vars.length x.vc)∧wd.cell? (κ L (n4+3))=some (.slice (Γ db) x.f.dn.length x.dc)∧wd.cell? (κ db 0)=ι t.kd∧wd.cell? (κ db 1)=ι t.n∧wd.cell? (κ db 2)=some (.slice ta t.l.length tc):=⟨d2,d3,s0,s1,s2⟩;have aj:Below (ν wd) wd (wd.alloc (υ t ta tc)):=am wd _;have bV:Wf o1 (wd.alloc (υ t ta tc)):=aV.below aj;have bE:=(tB aV aj).kp;have b8:=bX.kept bE aj.size trivial;have aW:(wd.alloc (υ t ta tc)).heap[wd.heap.size]? =some (.cells [.int .i64 t.kd,.int .i64 t.n,.slice ta t.l.length tc].toArray 86 (0,0)):=Zh wd 86 _;obtain⟨a0,V,bi,ai,cx,aB,hc2,bI⟩:=sk bV (l:=x.f.vars) (va:=x.va) ω b8.BK.vars (t:=t) aW (bL.kept bE aj.size);have cr:(wd.alloc (υ t ta tc)).heap.size=wd.heap.size+1:=by simp
      have b7:(wd.alloc (υ t ta tc)).cell? (κ L (n4+2))=some (.slice x.va x.f.vars.length x.vc)∧(wd.alloc (υ t ta tc)).cell? (κ L (n4+3))=some (.slice (Γ db) x.f.dn.length x.dc)∧(wd.alloc (υ t ta tc)).cell? (κ db 0)=ι t.kd∧(wd.alloc (υ t ta tc)).cell? (κ db 1)=ι t.n∧(wd.alloc (υ t ta tc)).cell? (κ db 2)=some (.slice ta t.l.length tc):=⟨(aj.cell (p:=κ L (n4+2)) bO).trans d2,(aj.cell (p:=κ L (n4+3)) bO).trans d3,(aj.cell (p:=κ db 0) bG).trans s0,(aj.cell (p:=κ db 1) bG).trans s1,(aj.cell (p:=κ db 2) bG).trans s2⟩;have Z:=aj.trans (ai.mono aj.size);have aC:V.cell? (κ L (n4+2))=some (.slice x.va x.f.vars.length x.vc)∧V.cell? (κ L (n4+3))=some (.slice (Γ db) x.f.dn.length x.dc)∧V.cell? (κ db 0)=ι t.kd∧V.cell? (κ db 1)=ι t.n∧V.cell? (κ db 2)=some (.slice ta t.l.length tc):=⟨(Z.cell (p:=κ L (n4+2)) bO).trans d2,(Z.cell (p:=κ L (n4+3)) bO).trans d3,(Z.cell (p:=κ db 0) bG).trans s0,(Z.cell (p:=κ db 1) bG).trans s1,(Z.cell (p:=κ db 2) bG).trans s2⟩;have bv:∀q,V.frozen? (κ L q)=false:=by intro q;have:=ca q;unfold World.frozen? at this ⊢;rwa [Z.block L bO,aM.block L ag]
      have bb:=(tB aV Z).kp;have bf:=bX.kept bb Z.size trivial;have aL:=aV.below Z;rw[cr] at bi bI
      have bd:=χ (show iw o w g c p R k' (σ (σ (σ V L (n4+2) (.slice (Γ (η wd)) (x.f.vars.length+1) a0)) L (n4+1) (ι (kid nd 1))) L (n4+3) (.slice none 0 0):World)∧(σ V L (n4+2) (.slice (Γ (η wd)) (x.f.vars.length+1) a0):World).cell? (κ L (n4+1))=ι x.f.nd∧(σ V L (n4+2) (.slice (Γ (η wd)) (x.f.vars.length+1) a0):World).frozen? (κ L (n4+1))=false∧(σ (σ V L (n4+2) (.slice (Γ (η wd)) (x.f.vars.length+1) a0)) L (n4+1) (ι (kid nd 1)):World).cell? (κ L (n4+3))=some (.slice (Γ db) x.f.dn.length x.dc)∧(σ (σ V L (n4+2) (.slice (Γ (η wd)) (x.f.vars.length+1) a0)) L (n4+1) (ι (kid nd 1)):World).frozen? (κ L (n4+3))=false∧(σ V L (n4+2) (.slice (Γ (η wd)) (x.f.vars.length+1) a0):World).cell? (κ nb 2)=some (.slice la nd.l.length lc)∧(σ V L (n4+2) (.slice (Γ (η wd)) (x.f.vars.length+1) a0):World).cell? (κ kb (ko+1))=ι (kid nd 1) from by
        subst bc;obtain⟨t1,f1⟩:=bf.Cp (x':=⟨⟨x.f.fn,x.f.nd,x.f.vars ++ [t],x.f.dn⟩,some ⟨wd.heap.size+1,0,none⟩,a0,x.da,x.dc⟩) aL (i:=2) (u:=(.slice (Γ (η wd)) (x.f.vars.length+1) a0)) ω (by simp[cb]) ⟨bI,by simpa using aB,hc2,bf.BK.dn⟩ bf.BU;obtain⟨t2,f2⟩:=f1.Cp (x':=⟨⟨x.f.fn,kid nd 1,x.f.vars ++ [t],x.f.dn⟩,some ⟨wd.heap.size+1,0,none⟩,a0,x.da,x.dc⟩) (aL.BD t1) (i:=1) (u:= .int .i64 (kid nd 1)) ω (by simp[cb]) ⟨f1.BK.vars,f1.BK.vle,f1.BK.vcm,f1.BK.dn⟩ f1.BU;obtain⟨t3,f3⟩:=f2.Cp (x':=⟨⟨x.f.fn,kid nd 1,x.f.vars ++ [t],[]⟩,some ⟨wd.heap.size+1,0,none⟩,a0,none,0⟩) ((aL.BD t1).BD t2) (i:=3) (u:= .slice none 0 0) ω (by simp[cb]) ⟨f2.BK.vars,f2.BK.vle,f2.BK.vcm,Yd _ _ _ _ _ _⟩ (fun _ _=>fS.none);obtain⟨bp,e,-,-,q1,q2,-⟩:=f1.frame (k:=ys.length) (x:=⟨⟨x.f.fn,x.f.nd,x.f.vars ++ [t],x.f.dn⟩,some ⟨wd.heap.size+1,0,none⟩,a0,x.da,x.dc⟩) ξ;injection e with e;injection e with e _ _;subst e;obtain⟨bp,e,-,-,r1,r2,-⟩:=f2.frame (k:=ys.length) (x:=⟨⟨x.f.fn,kid nd 1,x.f.vars ++ [t],x.f.dn⟩,some ⟨wd.heap.size+1,0,none⟩,a0,x.da,x.dc⟩) ξ;injection e with e;injection e with e _ _;subst e;have b5:∀b,b < wd.heap.size→o1 b≠some g→(σ V L (ys.length*4+2) (.slice (Γ (η wd)) (x.f.vars.length+1) a0):World).heap[b]? =wd.heap[b]? :=fun b hb ay=>(Z0 _ _ _ _ (fun e=>ay (by rw[e];exact hfo))).trans (Z.block b hb)
        have e:bW ++ [(⟨x.f.fn,kid nd 1,x.f.vars ++ x.f.dn,[]⟩:cW)]=(ys ++ [(⟨⟨x.f.fn,kid nd 1,x.f.vars ++ [t],[]⟩,some ⟨wd.heap.size+1,0,none⟩,a0,none,0⟩:a5)]).map a5.f:=by rw[ad,←b0.out];simp
        rw[e] at ah hR;refine⟨⟨o1,s,va,some ⟨L,0,none⟩,vc,fc,ys ++ [⟨⟨x.f.fn,kid nd 1,x.f.vars ++ [t],[]⟩,some ⟨wd.heap.size+1,0,none⟩,a0,none,0⟩],aq.same z ((Zb ap (aM.trans (Z.mono aM.size))).same ap (t1.same aL (t2.same (aL.BD t1) t3))),f3,hR,ah⟩,q1 1 _ rfl,q2 _,?_,r2 _,(Zd (w:=wd) (b5 nb cj (by rw[bU];exact fun h=>by cases h))).trans (Zz (w:=wd) b' 2 rfl),(Zd (w:=wd) (b5 kb aZ.2 (by rw[aZ.1];exact fun h=>by cases h))).trans ck⟩
        rw[r1 3 _ rfl,b4])
      have c5:=aC.1;have f5:=bv (n4+2);clear ad a3 ht az b8 bE aW bL d2 d3 s0 s1 s2 ah hR ak bI bf bX bv ca bK aT b' bR ci ce cd z0;go_upto_region 3 with fail;refine bj [(0,true),(1,true),(2,true),(3,true),(4,true),(5,true),(6,true),(7,true),(8,true),(9,true),(10,true),(11,true),(12,true),(13,true),(14,true),(15,true),(16,true),(17,true),(18,true),(19,true),(20,true),(21,true),(22,false),(23,false),(24,false),(25,false),(26,false)] (fun w'=>w'.cell? (κ L (n4+2))=some (.slice x.va x.f.vars.length x.vc)∧w'.cell? (κ L (n4+3))=some (.slice (Γ db) x.f.dn.length x.dc)∧w'.cell? (κ db 0)=ι t.kd∧w'.cell? (κ db 1)=ι t.n∧w'.cell? (κ db 2)=some (.slice ta t.l.length tc)) ψ ψ (by rw[bS];exact aO) ?_;rw[bS];clear bS;iterate 22 (refine wpC_t ?_;try go_frame)
      refine xP ?_;intro K I;refine I _ _ _ Φ (fun _=>b7) ?_;clear I K;try go_frame
      refine aN rfl (fun K I=>?_);refine yA ?_;refine xW ?_;clear I K bi;refine xR ?_;intro K I;refine xW ?_;clear I K;refine xR ?_;intro K I;refine xW ?_;clear I K;try go_frame
      refine xY ?_;obtain⟨hD,e1,g1,e3,g3,e2,ek⟩:=bd.out;subst cq;have HD:=χ hD;clear hD aC b7 aO aj Z ai c5 f5;generalize (σ V L (n4+2) (.slice (Γ (η wd)) (x.f.vars.length+1) a0):World)=w6 at *;go_wp2_with fail;go_roundg k'
      case measure=>omega
      case rel=>exact HD.out
     ·exact absurd aQ h.1
     ·exact absurd aQ h.1
     ·exact absurd aQ h.1
   | false=>
     go_upto_region 5 with fail;go_cut [86] from 87 to 98 (fun b wx=>b= .bool bD∧G=wx)
     case first=>
      by_cases h4:nd.op=5
      ·have hq:(nd.op == 5)=true:=by simp[h4]
       have aw:=HB.out
       by_cases H:x.f.dn.length=1
       ·obtain rfl:bD=true:=by rw[←aw];simp[h4,H]
        have be:((x.f.dn.length:Int) == 1)=true:=by simp[H]
        clear h4 H aw;go_wp2_with fail;go_meet;exact⟨rfl,rfl⟩
       ·obtain rfl:bD=false:=by rw[←aw];simp[H]
        have be:((x.f.dn.length:Int) == 1)=false:=by simp;omega
        clear h4 H aw;go_wp2_with fail;go_meet;exact⟨rfl,rfl⟩
      ·have hq:(nd.op == 5)=false:=by simp[h4]
       obtain rfl:bD=false:=by rw[←HB.out];simp[h4]
       clear h4;go_wp2_with fail;go_meet;exact⟨rfl,rfl⟩
     case rest=>
      obtain⟨rfl,rfl⟩:=hcut;have aQ:=of_decide_eq_false HA.out;rcases HC.out with h | ⟨-,bo,hC,aI,hR⟩ | ⟨-,bo,hC,bB,hR⟩ | ⟨-,bo,hC,bB,ak,ah,hR⟩
      ·exact absurd ⟨h.1,h.2.1⟩ aQ
      ·obtain rfl:bD=false:=by rw[←HB.out];exact Zn bo
       clear aQ bo HA HB HC;have hq:((x.f.dn.length:Int) == nd.l.length)=true:=by simp[hC]
       obtain⟨-,z1,z2,-⟩:=kc2 aT
       have bZ:=χ (fun E (hb:Below (ν G) G E)=>(show Calls prog 166 #[π g,.pointer (some ⟨L,n4,none⟩),.agg #[ι nd.op,ι nd.n,.slice la nd.l.length lc]] E (cY o w g c R) from by
         have hr:=qM (la:=la) (lc:=lc) (nd:=nd) (ap.below hb) (ae.out.kept (kB ap hb) hb.size trivial) rfl aI;rw[bc] at hr;refine hr.mono ?_;rintro e M ⟨rfl,o4,q3,q4⟩;rw[hR] at q4
         exact⟨rfl,o4,aq.same z ((Zb ap hb).same ap q3),q4⟩))
       clear ae b0 hR aI hC bK aq ap aE aa hI hc q1 q2 a1 bz ao aA bU;go_upto_region 12 with fail;go_quiet (fail);go_wp2_with (go_at_call 166;refine δ (bZ.out _ (dP _ _)) ?_;intro E hE);go_end0;exact⟨rfl,hE⟩
      ·obtain rfl:bD=false:=by rw[←HB.out];exact Zn bo
       clear aQ bo HA HB HC;have hq:((x.f.dn.length:Int) == nd.l.length)=false:=by simp;omega
       obtain⟨-,z1,z2,-⟩:=kc2 aT;have aY:∀(E:World),Below (ν G) G E→Calls prog 165 #[π g] E (cY o w g c R):=by intro E hb;have hr:=j5 (ap.below hb) (ae.out.kept (kB ap hb) hb.size trivial) rfl;refine hr.mono ?_;rintro e M ⟨rfl,q3,q4⟩;rw[hR] at q4;exact⟨rfl,o1,aq.same z ((Zb ap hb).same ap q3),q4⟩
       have b3:=χ aY;have c5:=ae.out.blk.c 5 rfl;have bB:256≤(ys ++ [x]).length:=by simpa using bB
       have a9:(ys ++ [x]).length≤1000:=by simp;omega
       generalize (ys ++ [x]).length=m at *;have bl:decide ((256:Int)≤(m:Int))=true:=by simp;omega
       clear aY b0 hR hC bK aq ap aE aa hI hc q1 q2 a1 bz ao aA bU;go_upto_region 12 with fail;go_quiet (fail);go_wp2_with (go_at_call 165;refine δ (b3.out _ (dP _ _)) ?_;intro E hE);go_end0;exact⟨rfl,hE⟩
      ·obtain rfl:bD=false:=by rw[←HB.out];exact Zn bo
       clear aQ bo HA HB HC;have hq:((x.f.dn.length:Int) == nd.l.length)=false:=by simp;omega
       obtain⟨-,z1,z2,-⟩:=kc2 aT;obtain⟨kv,bN⟩:∃kv,nd.l[x.f.dn.length]? =some kv:=⟨_,Zg hC⟩;obtain⟨kb,ko,rfl,aZ,ck,-⟩:=bK _ _ bN;have a3:kv=(kid nd x.f.dn.length:Int):=by unfold kid;rw[show nd.l.getD x.f.dn.length 0=kv by simp[List.getD,bN]] at ak ⊢;omega
       rw[a3] at ck;have c5:=ae.out.blk.c 5 rfl;have bB:(ys ++ [x]).length < 256:=by simpa using bB
       have bl:decide ((256:Int)≤((ys ++ [x]).length:Int))=false:=by simp at bB ⊢;omega
       obtain⟨a4,bP⟩:=ae.out.BK.CU;have az:=ae.out.BK;have bY:=χ ck;clear bR bl d2 d3 ck c5 a4 bP;have ct:=aT;have c5:=ae.out.blk.c 5 rfl;have d3:=cd.out;obtain⟨a4,bP⟩:=az.CU;generalize hm:(ys ++ [x]).length=m at c5;have bl:decide ((256:Int)≤(m:Int))=false:=by rw[←hm];simp at bB ⊢;omega
       have cw:m < 256:=ω;clear bK aT;go_upto_region 12 with fail;go_quiet (fail);go_upto_region 1 with fail;have ac:Below (ν G) G (G.drewN nq).drew:=(dP G nq).drew;have aU:=(tB ap ac).kp;have a7:=ae.out.kept aU ac.size trivial;have aO:(G.drewN nq).drew.cell? (κ g 5)=some (.slice (Γ L) m fc)∧(G.drewN nq).drew.cell? (κ L n4)=ι x.f.fn∧(G.drewN nq).drew.cell? (κ nb 2)=some (.slice (some ⟨kb,ko,none⟩) nd.l.length lc)∧(G.drewN nq).drew.cell? (κ L (n4+3))=some (.slice x.da x.f.dn.length x.dc)∧(G.drewN nq).drew.cell? (κ kb (ko+x.f.dn.length))=ι (kid nd x.f.dn.length)∧(G.drewN nq).drew.cell? (κ L (n4+2))=some (.slice x.va x.f.vars.length x.vc):=⟨c5,ci.out,z2,d3,bY.out,ce.out⟩;have a':=ct.lt;refine bj [(0,true),(1,true),(2,true),(3,true),(4,true),(5,true),(6,true),(7,true),(8,true),(9,true),(10,true),(11,true),(12,true),(13,true),(14,true),(15,true),(16,true),(17,true),(18,true),(19,true),(20,true),(21,true),(22,true),(23,false),(24,false),(25,false),(26,false),(27,false)] (fun w'=>w'.cell? (κ g 5)=some (.slice (Γ L) m fc)∧w'.cell? (κ L n4)=ι x.f.fn∧w'.cell? (κ nb 2)=some (.slice (some ⟨kb,ko,none⟩) nd.l.length lc)∧w'.cell? (κ L (n4+3))=some (.slice x.da x.f.dn.length x.dc)∧w'.cell? (κ kb (ko+x.f.dn.length))=ι (kid nd x.f.dn.length)∧w'.cell? (κ L (n4+2))=some (.slice x.va x.f.vars.length x.vc)) ψ ψ aO ?_;have aV:=ap.below ac;have cf:kb < (G.drewN nq).drew.heap.size:=aZ.2;have cg:nb < (G.drewN nq).drew.heap.size:=a';generalize (G.drewN nq).drew=wd at *;have an:=a7.blk.lt
       have b1:L < wd.heap.size:=Za ag ac.size;have cu:=χ a7;have aD:=χ ac;clear c5 z2 d3 a7 aU a';iterate 23 (refine wpC_t ?_;try go_frame)
       refine xP ?_;intro K I;have aj:=am wd (.cells #[ι x.f.fn,ι (kid nd x.f.dn.length),.slice x.va x.f.vars.length x.vc,ζ] 249);have aW:(wd.alloc (.cells #[ι x.f.fn,ι (kid nd x.f.dn.length),.slice x.va x.f.vars.length x.vc,ζ] 249)).heap[wd.heap.size]? =some (.cells (cb ⟨⟨x.f.fn,kid nd x.f.dn.length,x.f.vars,[]⟩,x.va,x.vc,none,0⟩).toArray 249 (0,0)):=Zh wd 249 _;have Y:=cu.out.kept (kB aV aj) aj.size trivial;have aK:=aV.below aj
       have aR:(wd.alloc (.cells #[ι x.f.fn,ι (kid nd x.f.dn.length),.slice x.va x.f.vars.length x.vc,ζ] 249)).cell? (κ g 5)=some (.slice (Γ L) m fc)∧(wd.alloc (.cells #[ι x.f.fn,ι (kid nd x.f.dn.length),.slice x.va x.f.vars.length x.vc,ζ] 249)).cell? (κ L n4)=ι x.f.fn∧(wd.alloc (.cells #[ι x.f.fn,ι (kid nd x.f.dn.length),.slice x.va x.f.vars.length x.vc,ζ] 249)).cell? (κ nb 2)=some (.slice (some ⟨kb,ko,none⟩) nd.l.length lc)∧(wd.alloc (.cells #[ι x.f.fn,ι (kid nd x.f.dn.length),.slice x.va x.f.vars.length x.vc,ζ] 249)).cell? (κ L (n4+3))=some (.slice x.da x.f.dn.length x.dc)∧(wd.alloc (.cells #[ι x.f.fn,ι (kid nd x.f.dn.length),.slice x.va x.f.vars.length x.vc,ζ] 249)).cell? (κ kb (ko+x.f.dn.length))=ι (kid nd x.f.dn.length)∧(wd.alloc (.cells #[ι x.f.fn,ι (kid nd x.f.dn.length),.slice x.va x.f.vars.length x.vc,ζ] 249)).cell? (κ L (n4+2))=some (.slice x.va x.f.vars.length x.vc):=⟨(aj.cell (p:=κ g 5) an).trans aO.1,(aj.cell (p:=κ L n4) b1).trans aO.2.1,(aj.cell (p:=κ nb 2) cg).trans aO.2.2.1,(aj.cell (p:=κ L (n4+3)) b1).trans aO.2.2.2.1,(aj.cell (p:=κ kb (ko+x.f.dn.length)) cf).trans aO.2.2.2.2.1,(aj.cell (p:=κ L (n4+2)) b1).trans aO.2.2.2.2.2⟩;refine I _ _ _ Φ (fun _=>aR) ?_;clear I K;try go_frame
       generalize (wd.alloc (.cells #[ι x.f.fn,ι (kid nd x.f.dn.length),.slice x.va x.f.vars.length x.vc,ζ] 249))=wa at *;obtain⟨rs,aH,aX⟩:=Y.row;rw[hm] at aH;refine aN rfl (fun K I=>?_);refine ij _ (by rfl) _ _ 250 249 _ 4 64 underlying250 qF rfl φ φ (by rfl) (.slice (Γ L) m fc) _ _ (by rfl) aH.row (ν wd) (cb ⟨⟨x.f.fn,kid nd x.f.dn.length,x.f.vars,[]⟩,x.va,x.vc,none,0⟩) (by rfl) aW rfl (by intro u hu;simp only[cb,List.mem_cons,List.not_mem_nil,or_false] at hu;rcases hu with rfl | rfl | rfl | rfl <;> rfl) ω ?_;intro g5 a0 V H h2 h3 h4 h5;have bA:∀q,(Value.slice (Γ L) m fc).ownBlock=some q→o1 q=some g:=aH.own;have b2:(Value.slice (Γ L) m fc).ownBlock≠some g:=bq Y.blk aH.row φ;have ay:∀q,o1 q=none→(Value.slice (Γ L) m fc).ownBlock≠some q:=fun q hq e=>by rw[bA q e] at hq;cases hq
       have bQ:∀i v,(cb x)[i]? =some v→i < 4→V.cell? (κ L (n4+i))=some v:=by intro i v hi cn;obtain⟨cs,q1,q2,q3⟩:=aX.at_ (j:=ys.length) (x:=x) ξ;unfold g4 at q2;refine h5 L rfl _ v ?_;rw[←bc,q3 i cn,q2,hi]
       have aC:V.cell? (κ g 5)=some (.slice (Γ L) m fc)∧V.cell? (κ L n4)=ι x.f.fn∧V.cell? (κ nb 2)=some (.slice (some ⟨kb,ko,none⟩) nd.l.length lc)∧V.cell? (κ L (n4+3))=some (.slice x.da x.f.dn.length x.dc)∧V.cell? (κ kb (ko+x.f.dn.length))=ι (kid nd x.f.dn.length)∧V.cell? (κ L (n4+2))=some (.slice x.va x.f.vars.length x.vc):=⟨(Zd (w:=wa) (h2.block g Y.blk.lt (fun e=>b2 e.symm))).trans aR.1,bQ 0 _ rfl ω,(Zd (w:=wa) (h2.block nb (Za cg aj.size) (fun e=>ay nb bU e.symm))).trans aR.2.2.1,bQ 3 _ rfl ω,(Zd (w:=wa) (h2.block kb (Za cf aj.size) (fun e=>ay kb aZ.1 e.symm))).trans aR.2.2.2.2.1,bQ 2 _ rfl ω⟩;refine xW ?_;clear I K;refine xR ?_;intro K I;refine xW ?_;clear I K;refine xR ?_;intro K I;refine xW ?_;clear I K;try go_frame
       have b9:A V g 253 _:=(h2.block g Y.blk.lt (fun e=>b2 e.symm)).trans Y.blk;have c5:=aC.1;have f5:=b9.fz 5
       have bd:=χ (show iw o w g c p R k' (σ V g 5 (.slice (Γ g5) (m+1) a0)) from by
         have cm:aP o1 wa g ⟨⟨x.f.fn,kid nd x.f.dn.length,x.f.vars,[]⟩,x.va,x.vc,none,0⟩:=⟨Y.BK.vars,Y.BK.vle,Y.BK.vcm,Yd _ _ _ _ _ _⟩;subst hm;obtain⟨o5,t1,t2⟩:=Y.push aK cm rfl aX aH H h2 h3 rfl;have e:List.map a5.f (ys ++ [x]) ++ [(⟨x.f.fn,kid nd x.f.dn.length,x.f.vars,[]⟩:cW)]=((ys ++ [x]) ++ [(⟨⟨x.f.fn,kid nd x.f.dn.length,x.f.vars,[]⟩,x.va,x.vc,none,0⟩:a5)]).map a5.f:=by simp
         have t2:aF o5 (σ V g 5 (.slice (Γ g5) ((ys ++ [x]).length+1) a0)) g c ⟨s,vZ,((ys ++ [x]) ++ [(⟨⟨x.f.fn,kid nd x.f.dn.length,x.f.vars,[]⟩,x.va,x.vc,none,0⟩:a5)]).map a5.f⟩ va vc (some ⟨g5,0,none⟩) a0 ((ys ++ [x]) ++ [⟨⟨x.f.fn,kid nd x.f.dn.length,x.f.vars,[]⟩,x.va,x.vc,none,0⟩]):=by rw[←e];exact t2
         exact⟨o5,s,va,_,vc,a0,_,aq.same z ((Zb ap (aD.out.trans (aj.mono aD.out.size))).same ap t1),t2,by rw[←e];exact hR,by rw[←e];exact ah⟩)
       clear H h2 h3 h4 h5 aC aR bA b2 ay bQ b9 aX aH Y aW aj aO;refine xY ?_;go_wp2_with fail;go_roundg k'
       case measure=>omega
       case rel=>exact bd.out
end
end
section
def wm (op w):Calls prog 214 #[ι op] w (μ (ι (d6 op)) w):=by
 go_enter func214,ntmps214;go_wp2_with fail
 all_goals go_ret
 all_goals refine⟨?_,rfl⟩
 all_goals simp_all [d6]
def fj (o:ab) (r:Option VT) (w:World) (e:Ending) (w':World):Prop:=Below w.heap.size w w'∧match r with
 | some t=>∃a c,e= .returned (.tuple #[.agg #[.int .i64 t.kd,.int .i64 t.n,.slice a t.l.length c],.int .i64 0])∧aG (Fz o w') w' t (.agg #[.int .i64 t.kd,.int .i64 t.n,.slice a t.l.length c])
 | none=>∃(n Z k2:Int) (U:Option Addr) (sl sc:Nat),n≠0∧e= .returned (.tuple #[.agg #[.int .i64 Z,.int .i64 k2,.slice U sl sc],.int .i64 n])
section
variable {o:ab} {w w':World} {g c:Nat} {F:ba} {va:Option Addr} {vc fc:Nat} {ys:List a5} {x:a5} {p:List Fn} {nd:Nd}
def xI {L la lc} (z:Wf o w) (h:aF o w g c F va vc (some ⟨L,0,none⟩) fc (ys ++ [x])) (h3:nd.op=3) (hn:0≤nd.n∧nd.n < x.f.vars.length) :
  Calls prog 168 #[.pointer (some ⟨L,ys.length*4,none⟩),bT nd la lc] w (fj o (ec x.f nd) w):=by
 obtain⟨bp,e,ad,hfo,aJ,-,q1,q2⟩:=h.frame (k:=ys.length) (x:=x) ξ;injection e with e;injection e with e _ _;subst e;obtain⟨k,hk⟩:∃k:Nat,nd.n=k:=⟨nd.n.toNat,ω⟩;have a3:k < x.f.vars.length:=ω;obtain⟨t,ht⟩:∃t,x.f.vars[k]? =some t:=⟨_,Zg a3⟩;have az:=h.BK;obtain⟨A,vo,v0,v1,v2,aa,M,s0,s1,s2,bL⟩:=iT.1 az.vars k t ht;rw[Nat.zero_add] at s0 s1 s2;obtain⟨ta,tc,e,-,-⟩:=bL.three;injection e with e;simp only[Array.mk.injEq,List.cons.injEq,and_true] at e;obtain⟨rfl,rfl,rfl⟩:=e;have d2:=aJ 2 _ rfl;rw[aa] at d2;have V:ec x.f nd=some t:=by unfold ec;rw[if_pos h3,hk];simp[List.getD,ht]
 rw[V];obtain⟨w1,bl,bf,a1,O⟩:=al1 w 141 [ι nd.op,ι nd.n,.slice la nd.l.length lc];obtain⟨G,bo,-,ak,Z,au⟩:=al2 a1 bf 86 [ι 0,ι 0,ζ];replace O:=au _ _ _ O;clear au;replace d2:=(ak.cell (p:=κ L (ys.length*4+2)) ad).trans d2;replace s0:=(ak.cell (p:=κ A (vo+k*3)) M.2).trans s0;replace s1:=(ak.cell (p:=κ A (vo+k*3+1)) M.2).trans s1;replace s2:=(ak.cell (p:=κ A (vo+k*3+2)) M.2).trans s2;obtain⟨y0,y1,-⟩:=kc1 O;obtain⟨r0,f0,r1,f1,r2,f2,-⟩:=kb2 Z;have hq:(nd.op == 3)=true:=by simp[h3]
 have HX:=χ (show ∀E,Below (ν w) w E→Below (ν w) w E∧aG (Fz o E) E t (.agg (υ t ta tc)) from fun E hb=>⟨hb,bL.kept (kB z hb) hb.size⟩);have aX:=χ Z;have HB:=χ ak;unfold bT;generalize ys.length*4=n4 at *;rw[hk] at *;clear aJ h bL az V h3 hn O Z aa a1 ak;go_enter func168,ntmps168;go_upto_region 3 with fail;clear bl bo bf;go_region;have hp:=cA (aX.out) (ι t.kd) (ι t.n) (.slice ta t.l.length tc);obtain⟨e1,e2⟩:=HX.out _ (cU HB.out (b:=w.heap.size+1) ω (ι t.kd) (ι t.n) (.slice ta t.l.length tc)).drew;go_wp2_with fail;refine Zl (v:= .tuple #[.agg (υ t ta tc),ι 0]) (by simp[results,results168,go_sem,hp.c 0 rfl,hp.c 1 rfl,hp.c 2 rfl]) rfl ⟨e1,ta,tc,rfl,e2⟩
def aP.C8 (h:aP o w g x):ap (ο w) w x.f.dn x.da 0:=by
 obtain⟨a,cap,e,e1,e2,h3⟩:=ax.frozen (ok:=(· < w.heap.size)) h.dn (fun q hq=>by
   obtain⟨rs,r1,-⟩:=h.dn
   exact r1.row.lt hq)
 injection e with e _ _;subst e
 exact cE.2 (h3.et (fun _ _ _=>rfl) Φ fun t cs hc=>by
   obtain⟨v0,v1,v2,q1,q2⟩:=hc
   exact⟨v0,v1,v2,q1,q2.lt⟩)
def jC (r:Option VT) (w w':World) (v0 v1 v2:Value) (n:Int):Prop:=match r with
 | some t=>n=0∧aG (Nw w.heap.size w') w' t (.agg #[v0,v1,v2])
 | none=>n≠0
def ew.form {r w w' e} (h:ew r w e w'):Below (ν w) w w'∧∃(Z k2:Int) (U:Option Addr) (sl sc:Nat) (n:Int),e= .returned (.tuple #[.agg #[ι Z,ι k2,.slice U sl sc],ι n])∧jC r w w' (ι Z) (ι k2) (.slice U sl sc) n:=by
 obtain⟨hb,h⟩:=h;refine⟨hb,?_⟩;cases r with
 | some t=>obtain⟨v,rfl,hv⟩:=h;obtain⟨a,c,rfl,-⟩:=hv.three;exact⟨_,_,_,_,_,_,rfl,rfl,hv⟩
 | none=>obtain⟨n,hn,rfl⟩:=h;exact⟨_,_,_,_,_,n,rfl,hn⟩
def jC.res {o r O w w1 w' Z k2 U sl sc n} (h:jC r w w1 (ι Z) (ι k2) (.slice U sl sc) n) (z:Wf o O) (hb:Below (ν O) O w') (h0:O.heap.size≤w.heap.size) (hc:∀g,w.heap.size≤g→∀q,g < w1.heap.size→w'.cell? (κ g q)=w1.cell? (κ g q)) (hs:w1.heap.size≤w'.heap.size) :
  fj o r O (.returned (.tuple #[.agg #[ι Z,ι k2,.slice U sl sc],ι n])) w':=by
 refine⟨hb,?_⟩;cases r with
 | some t=>obtain⟨rfl,hv⟩:=h;obtain⟨a,c,e,-⟩:=hv.three;injection e with e;simp only[Array.mk.injEq,List.cons.injEq,and_true,true_and,Value.int.injEq,Value.slice.injEq] at e;obtain⟨rfl,rfl,rfl,rfl,rfl⟩:=e;exact⟨_,_,rfl,(hv.et fun g hg q=>hc g hg.1 q hg.2).more fun g hg=>⟨z.ge (Zp h0 hg.1),Za hg.2 hs⟩⟩
 | none=>exact⟨n,Z,k2,U,sl,sc,h,rfl⟩
def qO (op):ag (d6 op):=by
 unfold d6 ag
 repeat' split
 all_goals omega
def uO {L la lc} (z:Wf o w) (h:aF o w g c F va vc (some ⟨L,0,none⟩) fc (ys ++ [x])) (h3:nd.op≠3∧nd.op≠6∧nd.op≠7∧nd.op≠8∧nd.op≠9∧nd.op≠11∧nd.op≠12) (hn:ag nd.n) :
  Calls prog 168 #[.pointer (some ⟨L,ys.length*4,none⟩),bT nd la lc] w (fj o (ec x.f nd) w):=by
 obtain⟨h3,h6,h7,M,h9,ah,H⟩:=h3;obtain⟨bp,e,ad,hfo,aJ,-,q1,q2⟩:=h.frame (k:=ys.length) (x:=x) ξ;injection e with e;injection e with e _ _;subst e;have V:ec x.f nd=gv (d6 nd.op) nd.n x.f.dn:=by unfold ec;rw[if_neg h3,if_neg h6,if_neg h7,if_neg M,if_neg h9,if_neg ah,if_neg H]
 rw[V];obtain⟨w1,bl,bf,a1,O⟩:=al1 w 141 [ι nd.op,ι nd.n,.slice la nd.l.length lc];obtain⟨G,bo,-,ak,Z,au⟩:=al2 a1 bf 86 [ι 0,ι 0,ζ];replace O:=au _ _ _ O;clear au;have a8:=h.kept (kB z ak) ak.size trivial;have az:=a8.BK;obtain⟨a4,bP⟩:=az.CU;have af:aG (· < G.drew.heap.size) G.drew (.mk (d6 nd.op) nd.n x.f.dn) (.agg #[ι (d6 nd.op),ι nd.n,.slice x.da x.f.dn.length x.dc]):=by rw[aG];exact⟨x.da,x.dc,rfl,qO _,hn,a4,bP,(show ap (ο G) G.drew x.f.dn x.da 0 from ap.et (w:=G) (w':=G.drew) (fun _ _ _=>rfl) az.C8)⟩
 have aa:=oU (d6 nd.op) nd.n x.f.dn x.da x.dc G.drew af;have bh:=wm nd.op G.drew;have d3:=(ak.cell (p:=κ L (ys.length*4+3)) ad).trans (aJ 3 _ rfl);obtain⟨y0,y1,-⟩:=kc1 O;have q3:(nd.op == 3)=false:=by simp[h3]
 have q6:(nd.op == 6)=false:=by simp[h6]
 have q7:(nd.op == 7)=false:=by simp[h7]
 have q8:(nd.op == 8)=false:=by simp[M]
 have q9:(nd.op == 9)=false:=by simp[h9]
 have an:(nd.op == 11)=false:=by simp[ah]
 have aj:(nd.op == 12)=false:=by simp[H]
 have aX:=χ Z;have HB:=χ ak;have HW:=χ z;have ai:L < G.heap.size:=Za ad ak.size;have J:w.heap.size < G.heap.size:=O.lt;unfold bT;generalize ys.length*4=n4 at *;generalize aC:gv (d6 nd.op) nd.n x.f.dn=mk at *;clear aJ h a8 az V h3 h6 h7 M h9 ah H hn O Z a1 ak af aC;go_enter func168,ntmps168;go_upto_region 16 with fail;clear bl bo bf;have aO:G.drew.cell? (κ (ν w) 0)=ι nd.op∧G.drew.cell? (κ (ν w) 1)=ι nd.n∧G.drew.cell? (κ L (n4+3))=some (.slice x.da x.f.dn.length x.dc):=⟨y0,y1,d3⟩;refine bj [(0,true),(1,true),(3,true),(4,true),(5,true),(6,true),(7,true),(8,true),(2,false),(9,false),(10,true),(11,true),(12,false),(13,false)] (fun w'=>w'.cell? (κ (ν w) 0)=ι nd.op∧w'.cell? (κ (ν w) 1)=ι nd.n∧w'.cell? (κ L (n4+3))=some (.slice x.da x.f.dn.length x.dc)) ψ ψ aO ?_;have aM:Below (ν w) w G.drew:=HB.out.drew;have Y:A G.drew (η w) 86 [ι 0,ι 0,ζ]:=aX.out;have ai:L < G.drew.heap.size:=ai;have J:w.heap.size < G.drew.heap.size:=J;generalize G.drew=wd at *;iterate 8 (refine wpC_t ?_;try go_frame)
 refine xP ?_;intro K I;go_at_call 214;refine γ bh ?_;refine I _ _ _ Φ (fun _=>aO) ?_;clear I K;refine xR ?_;intro K I;go_at_call 213;refine aa.mono ?_;rintro e E hE;obtain⟨ac,Z,k2,U,sl,sc,n,rfl,hP⟩:=hE.form;have aV:E.cell? (κ (ν w) 0)=ι nd.op∧E.cell? (κ (ν w) 1)=ι nd.n∧E.cell? (κ L (n4+3))=some (.slice x.da x.f.dn.length x.dc):=⟨(ac.cell (p:=κ (ν w) 0) J).trans aO.1,(ac.cell (p:=κ (ν w) 1) J).trans aO.2.1,(ac.cell (p:=κ L (n4+3)) ai).trans aO.2.2⟩;refine I _ _ _ Φ (fun _=>aV) ?_;clear I K;try go_frame
 iterate 2 (refine wpC_t ?_;try go_frame)
 have aU:=Y.BE ac;obtain⟨r0,f0,r1,f1,r2,f2,-⟩:=kb2 aU;have hp:=cA aU (ι Z) (ι k2) (.slice U sl sc);have ae:=cU (aM.trans (ac.mono aM.size)) (b:=w.heap.size+1) ω (ι Z) (ι k2) (.slice U sl sc);have am:w.heap.size+1 < wd.heap.size:=Y.lt;have ao:=hP.res HW.out ae aM.size (fun g hg q _=>Zd (w:=E) (by rw[Below.heap_setCell _ _ _ _ Ω,Below.heap_setCell _ _ _ _ Ω,Below.heap_setCell _ _ _ _ Ω])) (by simp[World.setCell]);have aq:=χ ao;have aR:(σ3 E (η w) (ι Z) (ι k2) (.slice U sl sc):World).cell? (κ (ν w) 0)=ι nd.op∧(σ3 E (η w) (ι Z) (ι k2) (.slice U sl sc):World).cell? (κ (ν w) 1)=ι nd.n∧(σ3 E (η w) (ι Z) (ι k2) (.slice U sl sc):World).cell? (κ L (n4+3))=some (.slice x.da x.f.dn.length x.dc):=by
  have hh:∀b,b≠w.heap.size+1→(σ3 E (η w) (ι Z) (ι k2) (.slice U sl sc):World).heap[b]? =E.heap[b]? :=fun b hb=>by rw[Below.heap_setCell _ _ _ _ hb,Below.heap_setCell _ _ _ _ hb,Below.heap_setCell _ _ _ _ hb]
  exact⟨(Zd (w:=E) (hh (ν w) ω)).trans aV.1,(Zd (w:=E) (hh (ν w) ω)).trans aV.2.1,(Zd (w:=E) (hh L ω)).trans aV.2.2⟩
 clear hP hE ao ac ae aa bh;refine xP ?_;intro K I;refine I _ _ _ Φ (fun _=>aR) ?_;clear I K;try go_frame
 refine xY ?_;go_wp2_with fail;refine Zl (v:= .tuple #[.agg #[ι Z,ι k2,.slice U sl sc],ι n]) (by simp[results,results168,go_sem,hp.c 0 rfl,hp.c 1 rfl,hp.c 2 rfl]) rfl aq.out
end
end
end Go.Proofs.YtmchabopafimeaaGreatDoor
