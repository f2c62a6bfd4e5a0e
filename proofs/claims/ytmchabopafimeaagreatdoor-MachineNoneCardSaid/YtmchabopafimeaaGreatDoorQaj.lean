import Derived.Test.YtmchabopafimeaaGreatDoorQai
namespace Go.Proofs.YtmchabopafimeaaGreatDoor
set_option maxRecDepth 100000
set_option maxHeartbeats 16000000
set_option linter.all false
open Go.RowKit Go.Sort Tryz
def yS {p q:Prop} (k:q) (h:Zq q→p:=by
 intro mq;have hy:w.heap.size≠I:=ω;have hz:w.heap.size≠be:=ω;have hy1:w.heap.size+1≠I:=ω;have ax:w.heap.size+1≠be:=ω;have hy2:I≠w.heap.size:=ω;have hy3:I≠w.heap.size+1:=ω;have aw:be≠w.heap.size:=ω;have aT:be≠w.heap.size+1:=ω;revert hy hz hy1 ax hy2 hy3 aw aT
 exact mq.u):p:=h ⟨k⟩
def rm (I be n v1) (h:List PanicEntry) (w) (h0:A w I 475 [ι 0,ι 0,ι 0,ι 0,ι 0,ι 0,ζ,Δ]) (H:A w be 33 [v1]) (ay:I≠be) :
  CallsD prog 435 #[π I,π be] (.panicking ({v:=U n,recovered:=false} :: h)) w fun e u' w'=>
   e= .returned (.tuple #[])∧u'= .panicking ({v:=U n,recovered:=true} :: h)∧A w' I 475 [ι 0,ι 0,ι 0,ι 0,ι 0,ι 0,ζ,Δ]∧A w' be 33 [ι n]∧Fr (fun b=>b=I∨b=be) w w':=by
 have l0:=h0.lt;have l1:=H.lt;refine ZB func435 rfl fun c₀ cs hu=>?_;apply ZW;apply ZH;simp[wpOpsS,go_sem,recoverD,hu,ntmps435,Exit.thenS];refine yc ?_;intro L;go_wp2_with fail;have O:=(h0.alloc (.cells #[ι n] 353)).alloc θ3;have Z:=(H.alloc (.cells #[ι n] 353)).alloc θ3;have k2:=(Zh w 353 [ι n]).alloc θ3;have k5:=Zh (w.alloc (.cells #[ι n] 353)) 475 [ι 0,ι 0,ι 0,ι 0,ι 0,ι 0,ζ,Δ];rw[show (w.alloc (.cells #[ι n] 353)).heap.size=w.heap.size+1 by simp] at k5;have ai:=(am w (.cells #[ι n] 353)).trans ((am (w.alloc (.cells #[ι n] 353)) (.cells #[ι 0,ι 0,ι 0,ι 0,ι 0,ι 0,ζ,Δ] 475)).mono ξ);generalize (w.alloc (.cells #[ι n] 353)).alloc θ3=V at *;refine yS ?_;intro hy hz hy1 ax hy2 hy3 aw aT;obtain⟨q0,J,q1,M,q2,E,q3,G,q4,z,q5,Y,q6,aa,q7,ab,-⟩:=kb7 O;obtain⟨r1,g1,-⟩:=kb0 Z;have r2:=k2.c 0 rfl;obtain⟨s0,s1,s2,s3,s4,s5,s6,s7,-⟩:=kc7 k5;have a0:=χ O;have aX:=χ Z;clear O Z k2 k5;go_region;have aC:=aW (b:=0) [(0,ι 0),(1,ι 0),(2,ι 0),(3,ι 0),(4,ι 0),(5,ι 0),(6,ζ),(7,Δ)] _ _ a0.out;have a9:=aX.out.fr (S:=(·=I)) (aE (S:=(·=I)) rfl 0 [(0,ι 0),(1,ι 0),(2,ι 0),(3,ι 0),(4,ι 0),(5,ι 0),(6,ζ),(7,Δ)] V) (Yv ay);have a1:=aE (S:=fun b=>b=I∨b=be) (g:=I) (.inl rfl) 0 [(0,ι 0),(1,ι 0),(2,ι 0),(3,ι 0),(4,ι 0),(5,ι 0),(6,ζ),(7,Δ)] V
 have hP:A (σ (a3 V I 0 [(0,ι 0),(1,ι 0),(2,ι 0),(3,ι 0),(4,ι 0),(5,ι 0),(6,ζ),(7,Δ)]) be 0 (ι n):World).drew I 475 [ι 0,ι 0,ι 0,ι 0,ι 0,ι 0,ζ,Δ]∧A (σ (a3 V I 0 [(0,ι 0),(1,ι 0),(2,ι 0),(3,ι 0),(4,ι 0),(5,ι 0),(6,ζ),(7,Δ)]) be 0 (ι n):World).drew be 33 [ι n]∧Fr (fun b=>b=I∨b=be) w (σ (a3 V I 0 [(0,ι 0),(1,ι 0),(2,ι 0),(3,ι 0),(4,ι 0),(5,ι 0),(6,ζ),(7,Δ)]) be 0 (ι n):World).drew:=
   ⟨(Y0 aC (q:=κ be 0) ay (ι n)).drew,(a9.set 0 (ι n)).drew,(((ZA ai).same a1).same (Z4 (q:=κ be 0) (.inl (.inr rfl)))).same Yn⟩
 go_wp2_with fail;simp[bodyPostS,results,results435];exact hP
def wA (I be w) :
  CallsD prog 435 #[π I,π be] .returning w fun e u' w'=>e= .returned (.tuple #[])∧u'= .returning∧w'=w:=by
 refine ZB func435 rfl fun c₀ cs hu=>?_;apply ZW;apply ZH;simp[wpOpsS,go_sem,recoverD,hu,ntmps435,Exit.thenS];refine xS ?_;go_wp2_with fail;cases c₀
 simp_all [bodyPostS,results,results435]
def rj (l:List Value):Prop:=∃(x0:Int) (x1:Int) (x2:Int) (x3:Int) (x4:Int) (x5:Int) (x6:Option Addr) (U c6:Nat) (x7:Bool),l=[.int .i64 x0,.int .i64 x1,.int .i64 x2,.int .i64 x3,.int .i64 x4,.int .i64 x5,.slice x6 U c6,.bool x7]
def ur (F:Nat) (caps D) (R:Except Int (List Value)→ab→World→Prop) (o w) (z:Wf o w) (hD:∀k,D k→k < w.heap.size) (hR:dL (ν w) (η w) R) (hA:∀l o w,R (.ok l) o w→rj l) (hF:Λ F) (aG:Calls prog F caps ((w.alloc θ3).alloc θ2) (bH D (fun l=>.agg l.toArray) R (two o (ν w)) ((w.alloc θ3).alloc θ2))) :
    Calls prog 392 #[.func (.func F) #[] caps] w (af D (fun l=>.agg l.toArray) (.agg #[ι 0,ι 0,ι 0,ι 0,ι 0,ι 0,ζ,Δ]) R o w):=by
  have an:=Yc z (.cells #[ι 0,ι 0,ι 0,ι 0,ι 0,ι 0,ζ,Δ] 475) (.cells #[ι 0] 33);have O:=(Zh w 475 [ι 0,ι 0,ι 0,ι 0,ι 0,ι 0,ζ,Δ]).alloc θ2;have Z:=Zh (w.alloc θ3) 33 [ι 0];rw[show (w.alloc θ3).heap.size=w.heap.size+1 by simp] at Z;refine xZ ?_;intro e0 e1;go_enter_defers func392,ntmps392;go_wp2_with fail;generalize two o w.heap.size=o2 at *;generalize (w.alloc θ3).alloc θ2=G at *;have l0:=O.lt;have l1:=Z.lt;refine aG.mono ?_;rintro e E ⟨o3,ag,r,hr,he⟩;refine yd ?_;intro k3 k4;cases r with
  | error n=>
    subst he
    show bodyPostD _ _ _ _ _ _
    refine leaves_cons (f:=435) (args:=#[ϖ w,π (η w)]) ξ (by simp[go_sem]) ?_;refine (rm (ν w) (η w) n _ [] _ k3 k4 ω).mono ?_;rintro e u' M ⟨rfl,rfl,h0,H,Y⟩;refine xU ?_;intro t1 t2;exact⟨.tuple #[.agg #[ι 0,ι 0,ι 0,ι 0,ι 0,ι 0,ζ,Δ],ι n],by simp[results,results392,go_sem,h0.c 0 rfl,h0.c 1 rfl,h0.c 2 rfl,h0.c 3 rfl,h0.c 4 rfl,h0.c 5 rfl,h0.c 6 rfl,h0.c 7 rfl,H.c 0 rfl],o3,t1,.error n,hR _ _ _ _ hr t2 Y.size,rfl⟩
  | ok n=>
    obtain⟨x0,x1,x2,x3,x4,x5,x6,U,c6,x7,rfl⟩:=hA _ _ _ hr;subst he;obtain⟨am,ai,ak,ao,h,aq,ah,V,ad,aj,ac,ae,aa,ap,aw,ax,-⟩:=kb7 k3;obtain⟨c4,f4,-⟩:=kb0 k4;have h0:=Y0 (aW (b:=0) [(0,ι x0),(1,ι x1),(2,ι x2),(3,ι x3),(4,ι x4),(5,ι x5),(6,.slice x6 U c6),(7,.bool x7)] _ _ k3) (q:=κ (η w) 0) ξ (ι 0);have H:=(A.fr k4 (S:=(·=w.heap.size)) (aE (S:=(·=w.heap.size)) rfl 0 [(0,ι x0),(1,ι x1),(2,ι x2),(3,ι x3),(4,ι x4),(5,ι x5),(6,.slice x6 U c6),(7,.bool x7)] E) ξ).set 0 (ι 0);have Y:Fr (fun b=>b=w.heap.size∨b=w.heap.size+1) E (σ (a3 E (ν w) 0 [(0,ι x0),(1,ι x1),(2,ι x2),(3,ι x3),(4,ι x4),(5,ι x5),(6,.slice x6 U c6),(7,.bool x7)]) (η w) 0 (ι 0)):=(aE (S:=fun b=>b=w.heap.size∨b=w.heap.size+1) (.inl rfl) 0 [(0,ι x0),(1,ι x1),(2,ι x2),(3,ι x3),(4,ι x4),(5,ι x5),(6,.slice x6 U c6),(7,.bool x7)] E).same (Z4 (q:=κ (η w) 0) (.inl (.inr rfl)));have HH:=χ (Zf h0 (Zf H Y));clear h0 H Y;go_wp2_with fail
    show bodyPostD _ _ _ _ _ _
    refine leaves_cons (f:=435) (args:=#[ϖ w,π (η w)]) ξ (by simp[go_sem]) ?_;refine (wA (ν w) (η w) _).mono ?_;rintro e u' M ⟨rfl,rfl,rfl⟩;obtain⟨h0,H,Y⟩:=HH.out;have L:A (σ (σ8 E (ν w) (ι x0) (ι x1) (ι x2) (ι x3) (ι x4) (ι x5) (.slice x6 U c6) (.bool x7)) (η w) 0 (ι 0)) (ν w) 475 [ι x0,ι x1,ι x2,ι x3,ι x4,ι x5,.slice x6 U c6,.bool x7]:=h0;have I:A (σ (σ8 E (ν w) (ι x0) (ι x1) (ι x2) (ι x3) (ι x4) (ι x5) (.slice x6 U c6) (.bool x7)) (η w) 0 (ι 0)) (η w) 33 [ι 0]:=H;refine xU ?_;intro t1 t2;exact⟨.tuple #[.agg #[ι x0,ι x1,ι x2,ι x3,ι x4,ι x5,.slice x6 U c6,.bool x7],ι 0],by simp[results,results392,go_sem,A.c L 0 rfl,A.c L 1 rfl,A.c L 2 rfl,A.c L 3 rfl,A.c L 4 rfl,A.c L 5 rfl,A.c L 6 rfl,A.c L 7 rfl,A.c I 0 rfl],o3,t1,.ok [ι x0,ι x1,ι x2,ι x3,ι x4,ι x5,.slice x6 U c6,.bool x7],hR _ _ _ _ hr t2 Y.size,rfl⟩
def q' (I be n v1) (h:List PanicEntry) (w) (h0:A w I 126 [ι 0,ζ,ζ,ι 0,Δ,Δ,ι 0,ι 0,ι 0,ζ,ι 0]) (H:A w be 33 [v1]) (ay:I≠be) :
  CallsD prog 198 #[π I,π be] (.panicking ({v:=U n,recovered:=false} :: h)) w fun e u' w'=>
   e= .returned (.tuple #[])∧u'= .panicking ({v:=U n,recovered:=true} :: h)∧A w' I 126 [ι 0,ζ,ζ,ι 0,Δ,Δ,ι 0,ι 0,ι 0,ζ,ι 0]∧A w' be 33 [ι n]∧Fr (fun b=>b=I∨b=be) w w':=by
 have l0:=h0.lt;have l1:=H.lt;refine ZB func198 rfl fun c₀ cs hu=>?_;apply ZW;apply ZH;simp[wpOpsS,go_sem,recoverD,hu,ntmps198,Exit.thenS];refine yc ?_;intro L;go_wp2_with fail;have O:=(h0.alloc (.cells #[ι n] 353)).alloc θ4;have Z:=(H.alloc (.cells #[ι n] 353)).alloc θ4;have k2:=(Zh w 353 [ι n]).alloc θ4;have k5:=Zh (w.alloc (.cells #[ι n] 353)) 126 [ι 0,ζ,ζ,ι 0,Δ,Δ,ι 0,ι 0,ι 0,ζ,ι 0];rw[show (w.alloc (.cells #[ι n] 353)).heap.size=w.heap.size+1 by simp] at k5;have ai:=(am w (.cells #[ι n] 353)).trans ((am (w.alloc (.cells #[ι n] 353)) (.cells #[ι 0,ζ,ζ,ι 0,Δ,Δ,ι 0,ι 0,ι 0,ζ,ι 0] 126)).mono ξ);generalize (w.alloc (.cells #[ι n] 353)).alloc θ4=V at *;refine yS ?_;intro hy hz hy1 ax hy2 hy3 aw aT;obtain⟨q0,J,q1,M,q2,E,q3,G,q4,z,q5,Y,q6,aa,q7,ab,q8,ae,q9,ac,ad,ag,-⟩:=kb10 O;obtain⟨r1,g1,-⟩:=kb0 Z;have r2:=k2.c 0 rfl;obtain⟨s0,s1,s2,s3,s4,s5,s6,s7,s8,s9,af,-⟩:=kc10 k5;have a0:=χ O;have aX:=χ Z;clear O Z k2 k5;go_region;have aC:=aW (b:=0) [(0,ι 0),(1,ζ),(2,ζ),(3,ι 0),(4,Δ),(5,Δ),(6,ι 0),(7,ι 0),(8,ι 0),(9,ζ),(10,ι 0)] _ _ a0.out;have a9:=aX.out.fr (S:=(·=I)) (aE (S:=(·=I)) rfl 0 [(0,ι 0),(1,ζ),(2,ζ),(3,ι 0),(4,Δ),(5,Δ),(6,ι 0),(7,ι 0),(8,ι 0),(9,ζ),(10,ι 0)] V) (Yv ay);have a1:=aE (S:=fun b=>b=I∨b=be) (g:=I) (.inl rfl) 0 [(0,ι 0),(1,ζ),(2,ζ),(3,ι 0),(4,Δ),(5,Δ),(6,ι 0),(7,ι 0),(8,ι 0),(9,ζ),(10,ι 0)] V
 have hP:A (σ (a3 V I 0 [(0,ι 0),(1,ζ),(2,ζ),(3,ι 0),(4,Δ),(5,Δ),(6,ι 0),(7,ι 0),(8,ι 0),(9,ζ),(10,ι 0)]) be 0 (ι n):World).drew I 126 [ι 0,ζ,ζ,ι 0,Δ,Δ,ι 0,ι 0,ι 0,ζ,ι 0]∧A (σ (a3 V I 0 [(0,ι 0),(1,ζ),(2,ζ),(3,ι 0),(4,Δ),(5,Δ),(6,ι 0),(7,ι 0),(8,ι 0),(9,ζ),(10,ι 0)]) be 0 (ι n):World).drew be 33 [ι n]∧Fr (fun b=>b=I∨b=be) w (σ (a3 V I 0 [(0,ι 0),(1,ζ),(2,ζ),(3,ι 0),(4,Δ),(5,Δ),(6,ι 0),(7,ι 0),(8,ι 0),(9,ζ),(10,ι 0)]) be 0 (ι n):World).drew:=
   ⟨(Y0 aC (q:=κ be 0) ay (ι n)).drew,(a9.set 0 (ι n)).drew,(((ZA ai).same a1).same (Z4 (q:=κ be 0) (.inl (.inr rfl)))).same Yn⟩
 go_wp2_with fail;simp[bodyPostS,results,results198];exact hP
def py (I be w) :
  CallsD prog 198 #[π I,π be] .returning w fun e u' w'=>e= .returned (.tuple #[])∧u'= .returning∧w'=w:=by
 refine ZB func198 rfl fun c₀ cs hu=>?_;apply ZW;apply ZH;simp[wpOpsS,go_sem,recoverD,hu,ntmps198,Exit.thenS];refine xS ?_;go_wp2_with fail;cases c₀
 simp_all [bodyPostS,results,results198]
def n7 (l:List Value):Prop:=∃(x0:Int) (x1:Option Addr) (n1 c1:Nat) (x2:Option Addr) (n2 c2:Nat) (x3:Int) (x4:Bool) (x5:Bool) (x6:Int) (x7:Int) (x8:Int) (x9:Option Addr) (n9 c9:Nat) (U:Int),l=[.int .i64 x0,.slice x1 n1 c1,.slice x2 n2 c2,.int .i64 x3,.bool x4,.bool x5,.int .i64 x6,.int .i64 x7,.int .i64 x8,.slice x9 n9 c9,.int .i64 U]
def qj (F:Nat) (caps D) (R:Except Int (List Value)→ab→World→Prop) (o w) (z:Wf o w) (hD:∀k,D k→k < w.heap.size) (hR:dL (ν w) (η w) R) (hA:∀l o w,R (.ok l) o w→n7 l) (hF:Λ F) (aG:Calls prog F caps ((w.alloc θ4).alloc θ2) (bH D (fun l=>.agg l.toArray) R (two o (ν w)) ((w.alloc θ4).alloc θ2))) :
    Calls prog 156 #[.func (.func F) #[] caps] w (af D (fun l=>.agg l.toArray) (.agg #[ι 0,ζ,ζ,ι 0,Δ,Δ,ι 0,ι 0,ι 0,ζ,ι 0]) R o w):=by
  have an:=Yc z (.cells #[ι 0,ζ,ζ,ι 0,Δ,Δ,ι 0,ι 0,ι 0,ζ,ι 0] 126) (.cells #[ι 0] 33);have O:=(Zh w 126 [ι 0,ζ,ζ,ι 0,Δ,Δ,ι 0,ι 0,ι 0,ζ,ι 0]).alloc θ2;have Z:=Zh (w.alloc θ4) 33 [ι 0];rw[show (w.alloc θ4).heap.size=w.heap.size+1 by simp] at Z;refine xZ ?_;intro e0 e1;go_enter_defers func156,ntmps156;go_wp2_with fail;generalize two o w.heap.size=o2 at *;generalize (w.alloc θ4).alloc θ2=G at *;have l0:=O.lt;have l1:=Z.lt;refine aG.mono ?_;rintro e E ⟨o3,ag,r,hr,he⟩;refine yd ?_;intro k3 k4;cases r with
  | error n=>
    subst he
    show bodyPostD _ _ _ _ _ _
    refine leaves_cons (f:=198) (args:=#[ϖ w,π (η w)]) ξ (by simp[go_sem]) ?_;refine (q' (ν w) (η w) n _ [] _ k3 k4 ω).mono ?_;rintro e u' M ⟨rfl,rfl,h0,H,Y⟩;refine xU ?_;intro t1 t2;exact⟨.tuple #[.agg #[ι 0,ζ,ζ,ι 0,Δ,Δ,ι 0,ι 0,ι 0,ζ,ι 0],ι n],by simp[results,results156,go_sem,h0.c 0 rfl,h0.c 1 rfl,h0.c 2 rfl,h0.c 3 rfl,h0.c 4 rfl,h0.c 5 rfl,h0.c 6 rfl,h0.c 7 rfl,h0.c 8 rfl,h0.c 9 rfl,h0.c 10 rfl,H.c 0 rfl],o3,t1,.error n,hR _ _ _ _ hr t2 Y.size,rfl⟩
  | ok n=>
    obtain⟨x0,x1,n1,c1,x2,n2,c2,x3,x4,x5,x6,x7,x8,x9,n9,c9,U,rfl⟩:=hA _ _ _ hr;subst he;obtain⟨am,ai,ak,ao,h,aq,ah,V,ad,aj,ac,ae,aa,ap,aw,ax,aC,ay,az,aB,aD,aA,-⟩:=kb10 k3;obtain⟨c4,f4,-⟩:=kb0 k4;have h0:=Y0 (aW (b:=0) [(0,ι x0),(1,.slice x1 n1 c1),(2,.slice x2 n2 c2),(3,ι x3),(4,.bool x4),(5,.bool x5),(6,ι x6),(7,ι x7),(8,ι x8),(9,.slice x9 n9 c9),(10,ι U)] _ _ k3) (q:=κ (η w) 0) ξ (ι 0);have H:=(A.fr k4 (S:=(·=w.heap.size)) (aE (S:=(·=w.heap.size)) rfl 0 [(0,ι x0),(1,.slice x1 n1 c1),(2,.slice x2 n2 c2),(3,ι x3),(4,.bool x4),(5,.bool x5),(6,ι x6),(7,ι x7),(8,ι x8),(9,.slice x9 n9 c9),(10,ι U)] E) ξ).set 0 (ι 0);have Y:Fr (fun b=>b=w.heap.size∨b=w.heap.size+1) E (σ (a3 E (ν w) 0 [(0,ι x0),(1,.slice x1 n1 c1),(2,.slice x2 n2 c2),(3,ι x3),(4,.bool x4),(5,.bool x5),(6,ι x6),(7,ι x7),(8,ι x8),(9,.slice x9 n9 c9),(10,ι U)]) (η w) 0 (ι 0)):=(aE (S:=fun b=>b=w.heap.size∨b=w.heap.size+1) (.inl rfl) 0 [(0,ι x0),(1,.slice x1 n1 c1),(2,.slice x2 n2 c2),(3,ι x3),(4,.bool x4),(5,.bool x5),(6,ι x6),(7,ι x7),(8,ι x8),(9,.slice x9 n9 c9),(10,ι U)] E).same (Z4 (q:=κ (η w) 0) (.inl (.inr rfl)));have HH:=χ (Zf h0 (Zf H Y));clear h0 H Y;go_wp2_with fail
    show bodyPostD _ _ _ _ _ _
    refine leaves_cons (f:=198) (args:=#[ϖ w,π (η w)]) ξ (by simp[go_sem]) ?_;refine (py (ν w) (η w) _).mono ?_;rintro e u' M ⟨rfl,rfl,rfl⟩;obtain⟨h0,H,Y⟩:=HH.out;have L:A (σ (σ11 E (ν w) (ι x0) (.slice x1 n1 c1) (.slice x2 n2 c2) (ι x3) (.bool x4) (.bool x5) (ι x6) (ι x7) (ι x8) (.slice x9 n9 c9) (ι U)) (η w) 0 (ι 0)) (ν w) 126 [ι x0,.slice x1 n1 c1,.slice x2 n2 c2,ι x3,.bool x4,.bool x5,ι x6,ι x7,ι x8,.slice x9 n9 c9,ι U]:=h0;have I:A (σ (σ11 E (ν w) (ι x0) (.slice x1 n1 c1) (.slice x2 n2 c2) (ι x3) (.bool x4) (.bool x5) (ι x6) (ι x7) (ι x8) (.slice x9 n9 c9) (ι U)) (η w) 0 (ι 0)) (η w) 33 [ι 0]:=H;refine xU ?_;intro t1 t2;exact⟨.tuple #[.agg #[ι x0,.slice x1 n1 c1,.slice x2 n2 c2,ι x3,.bool x4,.bool x5,ι x6,ι x7,ι x8,.slice x9 n9 c9,ι U],ι 0],by simp[results,results156,go_sem,A.c L 0 rfl,A.c L 1 rfl,A.c L 2 rfl,A.c L 3 rfl,A.c L 4 rfl,A.c L 5 rfl,A.c L 6 rfl,A.c L 7 rfl,A.c L 8 rfl,A.c L 9 rfl,A.c L 10 rfl,A.c I 0 rfl],o3,t1,.ok [ι x0,.slice x1 n1 c1,.slice x2 n2 c2,ι x3,.bool x4,.bool x5,ι x6,ι x7,ι x8,.slice x9 n9 c9,ι U],hR _ _ _ _ hr t2 Y.size,rfl⟩
def rD (I be n v1) (h:List PanicEntry) (w) (h0:A w I 307 [ι 0,ι 0,ι 0,ι 0,ι 0,ι 0,ζ]) (H:A w be 33 [v1]) (ay:I≠be) :
  CallsD prog 453 #[π I,π be] (.panicking ({v:=U n,recovered:=false} :: h)) w fun e u' w'=>
   e= .returned (.tuple #[])∧u'= .panicking ({v:=U n,recovered:=true} :: h)∧A w' I 307 [ι 0,ι 0,ι 0,ι 0,ι 0,ι 0,ζ]∧A w' be 33 [ι n]∧Fr (fun b=>b=I∨b=be) w w':=by
 have l0:=h0.lt;have l1:=H.lt;refine ZB func453 rfl fun c₀ cs hu=>?_;apply ZW;apply ZH;simp[wpOpsS,go_sem,recoverD,hu,ntmps453,Exit.thenS];refine yc ?_;intro L;go_wp2_with fail;have O:=(h0.alloc (.cells #[ι n] 353)).alloc θ;have Z:=(H.alloc (.cells #[ι n] 353)).alloc θ;have k2:=(Zh w 353 [ι n]).alloc θ;have k5:=Zh (w.alloc (.cells #[ι n] 353)) 307 [ι 0,ι 0,ι 0,ι 0,ι 0,ι 0,ζ];rw[show (w.alloc (.cells #[ι n] 353)).heap.size=w.heap.size+1 by simp] at k5;have ai:=(am w (.cells #[ι n] 353)).trans ((am (w.alloc (.cells #[ι n] 353)) (.cells #[ι 0,ι 0,ι 0,ι 0,ι 0,ι 0,ζ] 307)).mono ξ);generalize (w.alloc (.cells #[ι n] 353)).alloc θ=V at *;refine yS ?_;intro hy hz hy1 ax hy2 hy3 aw aT;obtain⟨q0,J,q1,M,q2,E,q3,G,q4,z,q5,Y,q6,aa,-⟩:=kb6 O;obtain⟨r1,g1,-⟩:=kb0 Z;have r2:=k2.c 0 rfl;obtain⟨s0,s1,s2,s3,s4,s5,s6,-⟩:=kc6 k5;have a0:=χ O;have aX:=χ Z;clear O Z k2 k5;go_region;have aC:=aW (b:=0) [(0,ι 0),(1,ι 0),(2,ι 0),(3,ι 0),(4,ι 0),(5,ι 0),(6,ζ)] _ _ a0.out;have a9:=aX.out.fr (S:=(·=I)) (aE (S:=(·=I)) rfl 0 [(0,ι 0),(1,ι 0),(2,ι 0),(3,ι 0),(4,ι 0),(5,ι 0),(6,ζ)] V) (Yv ay);have a1:=aE (S:=fun b=>b=I∨b=be) (g:=I) (.inl rfl) 0 [(0,ι 0),(1,ι 0),(2,ι 0),(3,ι 0),(4,ι 0),(5,ι 0),(6,ζ)] V
 have hP:A (σ (a3 V I 0 [(0,ι 0),(1,ι 0),(2,ι 0),(3,ι 0),(4,ι 0),(5,ι 0),(6,ζ)]) be 0 (ι n):World).drew I 307 [ι 0,ι 0,ι 0,ι 0,ι 0,ι 0,ζ]∧A (σ (a3 V I 0 [(0,ι 0),(1,ι 0),(2,ι 0),(3,ι 0),(4,ι 0),(5,ι 0),(6,ζ)]) be 0 (ι n):World).drew be 33 [ι n]∧Fr (fun b=>b=I∨b=be) w (σ (a3 V I 0 [(0,ι 0),(1,ι 0),(2,ι 0),(3,ι 0),(4,ι 0),(5,ι 0),(6,ζ)]) be 0 (ι n):World).drew:=
   ⟨(Y0 aC (q:=κ be 0) ay (ι n)).drew,(a9.set 0 (ι n)).drew,(((ZA ai).same a1).same (Z4 (q:=κ be 0) (.inl (.inr rfl)))).same Yn⟩
 go_wp2_with fail;simp[bodyPostS,results,results453];exact hP
def s7 (I be w) :
  CallsD prog 453 #[π I,π be] .returning w fun e u' w'=>e= .returned (.tuple #[])∧u'= .returning∧w'=w:=by
 refine ZB func453 rfl fun c₀ cs hu=>?_;apply ZW;apply ZH;simp[wpOpsS,go_sem,recoverD,hu,ntmps453,Exit.thenS];refine xS ?_;go_wp2_with fail;cases c₀
 simp_all [bodyPostS,results,results453]
def dG (l:List Value):Prop:=∃(x0:Int) (x1:Int) (x2:Int) (x3:Int) (x4:Int) (x5:Int) (x6:Option Addr) (U c6:Nat),l=[.int .i64 x0,.int .i64 x1,.int .i64 x2,.int .i64 x3,.int .i64 x4,.int .i64 x5,.slice x6 U c6]
def te (F:Nat) (caps D) (R:Except Int (List Value)→ab→World→Prop) (o w) (z:Wf o w) (hD:∀k,D k→k < w.heap.size) (hR:dL (ν w) (η w) R) (hA:∀l o w,R (.ok l) o w→dG l) (hF:Λ F) (aG:Calls prog F caps ((w.alloc θ).alloc θ2) (bH D (fun l=>.agg l.toArray) R (two o (ν w)) ((w.alloc θ).alloc θ2))) :
    Calls prog 420 #[.func (.func F) #[] caps] w (af D (fun l=>.agg l.toArray) (.agg #[ι 0,ι 0,ι 0,ι 0,ι 0,ι 0,ζ]) R o w):=by
  have an:=Yc z (.cells #[ι 0,ι 0,ι 0,ι 0,ι 0,ι 0,ζ] 307) (.cells #[ι 0] 33);have O:=(Zh w 307 [ι 0,ι 0,ι 0,ι 0,ι 0,ι 0,ζ]).alloc θ2;have Z:=Zh (w.alloc θ) 33 [ι 0];rw[show (w.alloc θ).heap.size=w.heap.size+1 by simp] at Z;refine xZ ?_;intro e0 e1;go_enter_defers func420,ntmps420;go_wp2_with fail;generalize two o w.heap.size=o2 at *;generalize (w.alloc θ).alloc θ2=G at *;have l0:=O.lt;have l1:=Z.lt;refine aG.mono ?_;rintro e E ⟨o3,ag,r,hr,he⟩;refine yd ?_;intro k3 k4;cases r with
  | error n=>
    subst he
    show bodyPostD _ _ _ _ _ _
    refine leaves_cons (f:=453) (args:=#[ϖ w,π (η w)]) ξ (by simp[go_sem]) ?_;refine (rD (ν w) (η w) n _ [] _ k3 k4 ω).mono ?_;rintro e u' M ⟨rfl,rfl,h0,H,Y⟩;refine xU ?_;intro t1 t2;exact⟨.tuple #[.agg #[ι 0,ι 0,ι 0,ι 0,ι 0,ι 0,ζ],ι n],by simp[results,results420,go_sem,h0.c 0 rfl,h0.c 1 rfl,h0.c 2 rfl,h0.c 3 rfl,h0.c 4 rfl,h0.c 5 rfl,h0.c 6 rfl,H.c 0 rfl],o3,t1,.error n,hR _ _ _ _ hr t2 Y.size,rfl⟩
  | ok n=>
    obtain⟨x0,x1,x2,x3,x4,x5,x6,U,c6,rfl⟩:=hA _ _ _ hr;subst he;obtain⟨am,ai,ak,ao,h,aq,ah,V,ad,aj,ac,ae,aa,ap,-⟩:=kb6 k3;obtain⟨c4,f4,-⟩:=kb0 k4;have h0:=Y0 (aW (b:=0) [(0,ι x0),(1,ι x1),(2,ι x2),(3,ι x3),(4,ι x4),(5,ι x5),(6,.slice x6 U c6)] _ _ k3) (q:=κ (η w) 0) ξ (ι 0);have H:=(A.fr k4 (S:=(·=w.heap.size)) (aE (S:=(·=w.heap.size)) rfl 0 [(0,ι x0),(1,ι x1),(2,ι x2),(3,ι x3),(4,ι x4),(5,ι x5),(6,.slice x6 U c6)] E) ξ).set 0 (ι 0);have Y:Fr (fun b=>b=w.heap.size∨b=w.heap.size+1) E (σ (a3 E (ν w) 0 [(0,ι x0),(1,ι x1),(2,ι x2),(3,ι x3),(4,ι x4),(5,ι x5),(6,.slice x6 U c6)]) (η w) 0 (ι 0)):=(aE (S:=fun b=>b=w.heap.size∨b=w.heap.size+1) (.inl rfl) 0 [(0,ι x0),(1,ι x1),(2,ι x2),(3,ι x3),(4,ι x4),(5,ι x5),(6,.slice x6 U c6)] E).same (Z4 (q:=κ (η w) 0) (.inl (.inr rfl)));have HH:=χ (Zf h0 (Zf H Y));clear h0 H Y;go_wp2_with fail
    show bodyPostD _ _ _ _ _ _
    refine leaves_cons (f:=453) (args:=#[ϖ w,π (η w)]) ξ (by simp[go_sem]) ?_;refine (s7 (ν w) (η w) _).mono ?_;rintro e u' M ⟨rfl,rfl,rfl⟩;obtain⟨h0,H,Y⟩:=HH.out;have L:A (σ (σ7 E (ν w) (ι x0) (ι x1) (ι x2) (ι x3) (ι x4) (ι x5) (.slice x6 U c6)) (η w) 0 (ι 0)) (ν w) 307 [ι x0,ι x1,ι x2,ι x3,ι x4,ι x5,.slice x6 U c6]:=h0;have I:A (σ (σ7 E (ν w) (ι x0) (ι x1) (ι x2) (ι x3) (ι x4) (ι x5) (.slice x6 U c6)) (η w) 0 (ι 0)) (η w) 33 [ι 0]:=H;refine xU ?_;intro t1 t2;exact⟨.tuple #[.agg #[ι x0,ι x1,ι x2,ι x3,ι x4,ι x5,.slice x6 U c6],ι 0],by simp[results,results420,go_sem,A.c L 0 rfl,A.c L 1 rfl,A.c L 2 rfl,A.c L 3 rfl,A.c L 4 rfl,A.c L 5 rfl,A.c L 6 rfl,A.c I 0 rfl],o3,t1,.ok [ι x0,ι x1,ι x2,ι x3,ι x4,ι x5,.slice x6 U c6],hR _ _ _ _ hr t2 Y.size,rfl⟩
def FR (ok:Nat→Prop) (w:World) (r:Option V) (cs:List Value) (b:Bool):Prop:=match r with
 | some y=>b=true∧a4 ok w y cs
 | none=>b=false∧cs=[.int .i64 0,.int .i64 0,.int .i64 0,.int .i64 0,.int .i64 0,.int .i64 0,.slice none 0 0]
def FR.kept {o o' w w' r cs b K} (h:FR (Fz o w) w r cs b) (I:aM K o w o' w') (hs:w.heap.size≤w'.heap.size):FR (Fz o' w') w' r cs b:=by
 cases r with
 | none=>exact h
 | some y=>exact⟨h.1,h.2.kept I hs⟩
def FR.agg {ok w r cs b} (h:FR ok w r cs b):∃(x0 x1 x2 x3 x4 x5:Int) (xa:Option Addr) (xn xc:Nat),cs=[.int .i64 x0,.int .i64 x1,.int .i64 x2,.int .i64 x3,.int .i64 x4,.int .i64 x5,.slice xa xn xc]:=by
 cases r with
 | none=>exact⟨0,0,0,0,0,0,none,0,0,h.2⟩
 | some y=>obtain⟨a,c,e,-⟩:=h.2;exact⟨_,_,_,_,_,_,_,_,_,e⟩
def Nw.fz {o w w' g} (z:Wf o w) (h:Nw (ν w) w' g):Fz o w' g:=⟨z.ge h.1,h.2⟩
def Y.shape {o r w w' e} (z:Wf o w) (h:Y r w e w'):∃(x0 x1 x2 x3 x4 x5:Int) (xa:Option Addr) (xn xc:Nat) (xb:Bool),e= .returned (.tuple #[.agg #[ι x0,ι x1,ι x2,ι x3,ι x4,ι x5,.slice xa xn xc],.bool xb])∧FR (Fz o w') w' r [ι x0,ι x1,ι x2,ι x3,ι x4,ι x5,.slice xa xn xc] xb∧Below (ν w) w w':=by
 obtain⟨hb,h⟩:=h;cases r with
 | none=>exact⟨0,0,0,0,0,0,none,0,0,false,h,⟨rfl,rfl⟩,hb⟩
 | some y=>obtain⟨cs,he,a,c,rfl,h2⟩:=h;exact⟨_,_,_,_,_,_,_,_,_,true,he,⟨rfl,a,c,rfl,h2.1.more fun g hg=>Nw.fz z hg,h2.2⟩,hb⟩
def cz.shape {o r l q w w' e} (h:cz r l o w q e w'):∃(x0 x1 x2 x3 x4 x5:Int) (xa:Option Addr) (xn xc:Nat) (xb:Bool),e= .returned (.tuple #[.agg #[ι x0,ι x1,ι x2,ι x3,ι x4,ι x5,.slice xa xn xc],.bool xb])∧∃o',J (·=q) o w o' w'∧M o' w' q l∧FR (Fz o' w') w' r [ι x0,ι x1,ι x2,ι x3,ι x4,ι x5,.slice xa xn xc] xb:=by
 obtain⟨o',H,h2,h⟩:=h;cases r with
 | none=>exact⟨0,0,0,0,0,0,none,0,0,false,h,o',H,h2,⟨rfl,rfl⟩⟩
 | some y=>obtain⟨cs,he,a,c,rfl,h3⟩:=h;exact⟨_,_,_,_,_,_,_,_,_,true,he,o',H,h2,⟨rfl,a,c,rfl,h3⟩⟩
def em (B W:Nat) (m:aH) (x:Option V) (L:List Nat) (r:Except Int (List Value)) (o:ab) (w:World):Prop:=aT B W m L o w∧match r with
 | .ok l=>∃cs b,l=cs ++ [.bool b]∧FR (Fz o w) w x cs b
 | .error _=>False
def em.stays {W m x L O} (hL:∀k∈L,k < O):dL O (O+1) (em (O+2) W m x L):=by
 intro r o w w' ⟨⟨L',H,h2⟩,h3⟩ I hs
 refine⟨⟨L',H.kept I hs fun k hk=>by
  rcases h2 k hk with h | h
  ·have:=hL k h
   omega
  ·omega,h2⟩,?_⟩
 cases r with
 | error k=>exact h3.elim
 | ok l=>obtain⟨cs,b,rfl,h4⟩:=h3;exact⟨cs,b,rfl,h4.kept I hs⟩
def eH (W:Nat) (m:aH) (x:Option V) (L:List Nat) (o:ab) (w:World) (e:Ending) (w':World):Prop:=∃o',J (·∈L) o w o' w'∧aT w.heap.size W m L o' w'∧∃cs b,e= .returned (.tuple #[.agg cs.toArray,.bool b,.int .i64 0])∧FR (Fz o' w') w' x cs b
def em.fin {W n m L o o4 o' w w1 G M r cs b} (z:Wf o w) (hL:∀k∈L,k < w.heap.size) (an:J Θ o w o4 w1) (h4:o4 n=some n) (hn:w.heap.size≤n) (aN:n < w1.heap.size) (U:J (·∈L) o4 w1 o' G) (hI:aI o' G W m L) (hF:FR (Fz o' G) G r cs b) (hR:Fr (·=n) G M) :
  J (·∈L) o w o' M∧aI o' M W m L∧FR (Fz o' M) M r cs b:=by
 have ap:=(z.BD an).BD U;have ay:∀k∈L,k≠n:=fun k hk e=>by have:=hL k hk;omega
 have af:o' n=some n:=U.owned aN h4 fun h=>ay _ h rfl;have hX:J (·=n) o' G o' M:=Z9 ap hR fun x _ hx=>⟨n,by rw[hx];exact af,rfl⟩;have I:aM (·≠n) o' G o' M:=hX.et fun _ h=>h;exact⟨((an.more z fun _ _ h=>h.elim).same z U).trans z hX fun k hk e=>by omega,hI.kept I hX.size fun k hk=>ay k hk,hF.kept I hX.size⟩
def eH.fin {W n m L L' o o5 o' w V w7 w8 r cs b} (z:Wf o w) (hL:∀k∈L,k < w.heap.size) (az:J Θ o w o5 V) (U:J (·∈L) o5 V o' w7) (hI:aI o' w7 W m L') (A:∀k∈L',k∈L∨V.heap.size≤k) (hF:FR (Fz o' w7) w7 r cs b) (ad:n < V.heap.size) (af:o5 n=some n) (hn:w.heap.size≤n) (hR:Fr (·=n) w7 w8) :
  eH W m r L o w (.returned (.tuple #[.agg cs.toArray,.bool b,ι 0])) w8:=by
 have h5:=z.BD az;have bh:=h5.BD U;have ay:∀k∈L,k≠n:=fun k hk e=>by have:=hL k hk;omega
 have E:o' n=some n:=U.owned ad af fun h=>ay _ h rfl;have hX:J (·=n) o' w7 o' w8:=Z9 bh hR fun x _ hx=>⟨n,by rw[hx];exact E,rfl⟩;have I:aM (·≠n) o' w7 o' w8:=hX.et fun _ h=>h;refine⟨o',((az.more z fun _ _ h=>h.elim).same z U).trans z hX fun k hk e=>by omega,⟨L',hI.kept I hX.size fun k hk=>?_,fun k hk=>(A k hk).imp id fun h=>Zp az.size h⟩,cs,b,rfl,hF.kept I hX.size⟩;rcases A k hk with h | h
 ·exact ay k h
 ·omega
def mT (F:Nat) (caps W m' x L o w) (z:Wf o w) (hL:∀k∈L,k < w.heap.size) (hF:Λ F) (aG:∀o2 G,Wf o2 G→J Θ o w o2 G→G.heap.size=w.heap.size+2→Calls prog F caps G (bH (·∈L) (fun l=>.agg l.toArray) (em (w.heap.size+2) W m' x L) o2 G)) :
    Calls prog 392 #[.func (.func F) #[] caps] w fun e w'=>∃o',J (·∈L) o w o' w'∧aT (ν w) W m' L o' w'∧∃(x0 x1 x2 x3 x4 x5:Int) (xa:Option Addr) (xn xc:Nat) (xb:Bool),e= .returned (.tuple #[.agg #[ι x0,ι x1,ι x2,ι x3,ι x4,ι x5,.slice xa xn xc,.bool xb],ι 0])∧FR (Fz o' w') w' x [ι x0,ι x1,ι x2,ι x3,ι x4,ι x5,.slice xa xn xc] xb:=by
  have U:=Yc z (.cells #[ι 0,ι 0,ι 0,ι 0,ι 0,ι 0,ζ,Δ] 475) (.cells #[ι 0] 33);refine (ur F caps (·∈L) (em (w.heap.size+2) W m' x L) o w z hL (em.stays hL) (fun l o w h=>?_) hF (aG _ _ (z.BD U) U ξ)).mono ?_
  ·obtain⟨cs,b,rfl,h4⟩:=h.2
   obtain⟨x0,x1,x2,x3,x4,x5,xa,xn,xc,rfl⟩:=h4.agg;exact⟨x0,x1,x2,x3,x4,x5,xa,xn,xc,b,rfl⟩
  ·rintro e w1 ⟨o1,ak,r,⟨⟨L',H,h2⟩,h3⟩,he⟩
   cases r with
   | error k=>exact h3.elim
   | ok l=>obtain⟨cs,b,rfl,h4⟩:=h3;obtain⟨x0,x1,x2,x3,x4,x5,xa,xn,xc,rfl⟩:=h4.agg;exact⟨o1,ak,⟨L',H,fun k hk=>(h2 k hk).imp id fun h=>by omega⟩,x0,x1,x2,x3,x4,x5,xa,xn,xc,b,he,h4⟩
def zH {p q:Prop} (k:q) (h:Zq q→p:=by
 intro mq;have h4:Fr (·=n4) E (a3 (a3 E n4 0 [(0,ι x0),(1,ι x1),(2,ι x2),(3,ι x3),(4,ι x4),(5,ι x5),(6,.slice xa xn xc),(7,.bool xb)]) n4 0 [(0,ι x0),(1,ι x1),(2,ι x2),(3,ι x3),(4,ι x4),(5,ι x5),(6,.slice xa xn xc),(7,.bool xb)]):=(aE (S:=(·=n4)) rfl 0 [(0,ι x0),(1,ι x1),(2,ι x2),(3,ι x3),(4,ι x4),(5,ι x5),(6,.slice xa xn xc),(7,.bool xb)] E).same (aE (S:=(·=n4)) rfl 0 [(0,ι x0),(1,ι x1),(2,ι x2),(3,ι x3),(4,ι x4),(5,ι x5),(6,.slice xa xn xc),(7,.bool xb)] _);have hp:=aW (b:=0) [(0,ι x0),(1,ι x1),(2,ι x2),(3,ι x3),(4,ι x4),(5,ι x5),(6,.slice xa xn xc),(7,.bool xb)] _ _ (aW (b:=0) [(0,ι x0),(1,ι x1),(2,ι x2),(3,ι x3),(4,ι x4),(5,ι x5),(6,.slice xa xn xc),(7,.bool xb)] _ _ HX.2.1);have I:A (σ8 (σ8 E n4 (ι x0) (ι x1) (ι x2) (ι x3) (ι x4) (ι x5) (.slice xa xn xc) (.bool xb)) n4 (ι x0) (ι x1) (ι x2) (ι x3) (ι x4) (ι x5) (.slice xa xn xc) (.bool xb)) n4 475 [ι x0,ι x1,ι x2,ι x3,ι x4,ι x5,.slice xa xn xc,.bool xb]:=hp;obtain⟨o',g1,g2,g3⟩:=HX.1;obtain⟨t1,t2,t3⟩:=bd.out _ _ _ _ _ _ _ _ _ _ _ _ _ g1 g2 g3 h4;revert h4 hp I o' g1 g2 g3 t1 t2 t3
 exact mq.u):p:=h ⟨k⟩
def zI {p q:Prop} (k:q) (h:Zq q→p:=by
 intro mq;have an:=ZJ z (.cells #[ι 0,ι 0,ι 0,ι 0,ι 0,ι 0,ζ,Δ] 475);have aU:(o.set (ν w) (some w.heap.size)) w.heap.size=some w.heap.size:=Zw _ _ _;have aR:∀b∈[bw,bn,bs,bi],(o.set (ν w) (some w.heap.size)) b=none:=fun b hb=>by rw[ab.BG _ _ (by have:=aO b hb;omega)];exact aK b hb
 have O:=Zh w 475 [ι 0,ι 0,ι 0,ι 0,ι 0,ι 0,ζ,Δ];have aN:w.heap.size < (w.alloc θ3).heap.size:=O.lt;have hL:=hW.lt;have ax:∀b∈[bw,bn,bs,bi],(w.alloc θ3).heap[b]? =w.heap[b]? :=fun b hb=>(am w _).block b (aO b hb);have ae:=z.BD an;have a7:=hW.kept (an.kp) an.size fun _ _=>Zk;have aP:=hE.kept (an.kp);have c0:=ao.c 0 rfl;unfold aA at c0;have c1:=aL.c 0 rfl;have V:=aM.c 0 rfl;have aj:=ak.c 0 rfl;have ad:=(Ze.1 hx).1;obtain⟨d,hd⟩:∃d,cs[k]? =some d:=⟨_,Zg (by have:=hW.lch;omega)⟩;revert an aU aR O aN hL ax ae a7 aP c0 c1 V aj ad d hd
 exact mq.u):p:=h ⟨k⟩
def zJ {p q:Prop} (k:q) (h:Zq q→p:=by
 intro mq;have aY:∀b∈[bw,bn,bs,bi],b < (w.alloc θ3).heap.size:=fun b hb=>Za (aO b hb) (Yx aN);have L:∀b∈[bw,bn,bs,bi],b≠w.heap.size:=fun b hb e=>by have:=aO b hb;omega
 have U:∀(w':World),(∀b∈[bw,bn,bs,bi],w'.heap[b]? =w.heap[b]?)→w'.cell? (κ bw 0)=π W∧w'.cell? (κ bn 0)=ι (k:Nat)∧w'.cell? (κ bs 0)=ι (sd send)∧w'.cell? (κ bi 0)=ι (i:Nat):=fun w' h=>⟨(Zd (w:=w) (h bw ξ)).trans c0,(Zd (w:=w) (h bn ξ)).trans c1,(Zd (w:=w) (h bs ξ)).trans V,(Zd (w:=w) (h bi ξ)).trans aj⟩;revert aY L U
 exact mq.u):p:=h ⟨k⟩
def zK {p q:Prop} (k:q) (h:Zq q→p:=by
 intro mq;have hC:=kq (a7.kept ((tB ae (Zj _ _).drew).kp) (Zc _) fun _ _=>Zk) (aP.kept ((tB ae (Zj _ _).drew).kp)) k send d hd;have Z:∀G:World,Below (ν w1) w1 G→∀b∈[bw,bn,bs,bi],G.heap[b]? =w.heap[b]? :=fun G hb b aw=>(hb.block b (aY b aw)).trans (HM b aw);revert hC Z
 exact mq.u):p:=h ⟨k⟩
def zL {p:Prop} (h:p:=by
 intro b aw;simp only[List.mem_cons,List.not_mem_nil,or_false] at aw;rcases iq aw with rfl | rfl | rfl | rfl
 ·exact ao.lt
 ·exact aL.lt
 ·exact aM.lt
 ·exact ak.lt):p:=h
def zM {p:Prop} (h:p:=by
 refine⟨x0,x1,x2,x3,x4,x5,xa,xn,xc,xb,rfl,χ ⟨⟨o',aq.same ae ag,hI,hF⟩,?_,fun b aw=>?_⟩⟩
 ·have ay:¬(n4∈wl W Y cs ds):=fun h=>by have:=hL _ h;omega
  exact (ZO (K:=(·=n4)) (aq.same ae ag) (fun q e=>by rw[e];exact ay) n4 aN (fun q hq=>by rw[aU] at hq;cases hq;rfl)).1.trans O
 ·exact ((aq.same ae ag).frozen b (aY b aw) (fun q hq=>by rw[aR b aw] at hq;cases hq)).1.trans (HM b aw)):p:=h
def sC {o w W Y m aB aF aC cs ds} (z:Wf o w) (hW:ai o w W m Y aB aF aC cs ds) (hE:a6 o w) (k send i x) (hx:m.chs[k]? =some x) (bw bn bs bi B) (ao:A w bw 27 [aA W]) (aL:A w bn 3 [ι (k:Nat)]) (aM:A w bs 182 [ι (sd send)]) (ak:A w bi 3 [ι (i:Nat)]) (aK:∀b∈[bw,bn,bs,bi],o b=none) :
  Calls prog 416 #[π bw,π bn,π bs,π bi] w (bH (·∈wl W Y cs ds) (fun l=>.agg l.toArray) (em B W ({m with chs:=m.chs.set k (bZ x send ((aJ x send).eraseIdx i))}) ((aJ x send)[i]?) (wl W Y cs ds)) o w):=by
 have aO:∀b∈[bw,bn,bs,bi],b < w.heap.size:=zL;refine zI ?_;intro an aU aR O aN hL ax ae a7 aP c0 c1 V aj ad d hd;generalize o.set (ν w) (some w.heap.size)=o4 at *;refine zJ ?_;intro aY L U;have bd:=χ (fun E M o' (x0 x1 x2 x3 x4 x5:Int) (xa:Option Addr) (xn xc:Nat) (xb:Bool) (H:J (·∈wl W Y cs ds) o4 _ o' E) (h2:aI o' E W ({m with chs:=m.chs.set k (bZ x send ((aJ x send).eraseIdx i))}) (wl W Y cs ds)) (h3:FR (Fz o' E) E ((aJ x send)[i]?) [ι x0,ι x1,ι x2,ι x3,ι x4,ι x5,.slice xa xn xc] xb) (h4:Fr (·=w.heap.size) E M)=>em.fin z hL an aU (Zc _) aN H h2 h3 h4);have HM:=ax;obtain⟨n4,bc⟩:∃n,w.heap.size=n:=⟨_,rfl⟩;rw[bc] at aU O aN L bd;go_enter func416,ntmps416;go_wp2_with fail;generalize w.alloc θ3=w1 at *;refine zK ?_;intro hC Z;have hA:∀G:World,Below (ν w1) w1 G→Calls prog 417 #[π d.1,ι (sd send),ι (i:Nat)] G fun e E=>∃(x0 x1 x2 x3 x4 x5:Int) (xa:Option Addr) (xn xc:Nat) (xb:Bool),e= .returned (.tuple #[.agg #[ι x0,ι x1,ι x2,ι x3,ι x4,ι x5,.slice xa xn xc],.bool xb]) ∧
   Hid ((∃o',J (·∈wl W Y cs ds) o4 w1 o' E∧aI o' E W ({m with chs:=m.chs.set k (bZ x send ((aJ x send).eraseIdx i))}) (wl W Y cs ds)∧FR (Fz o' E) E ((aJ x send)[i]?) [ι x0,ι x1,ι x2,ι x3,ι x4,ι x5,.slice xa xn xc] xb)∧A E n4 475 [ι 0,ι 0,ι 0,ι 0,ι 0,ι 0,ζ,Δ]∧(∀b∈[bw,bn,bs,bi],E.heap[b]? =w.heap[b]?)):=by
  intro G hb;have aq:J (·∈wl W Y cs ds) o4 w1 o4 G:=Zb ae hb;have ap:=ae.BD aq;have aD:=a7.kept (kB ae hb) hb.size fun _ _=>Zk;refine (r1 o4 d.1 x d.2.1 d.2.2.1 d.2.2.2 send i G ap (aD.ch k d x hd hx)).mono ?_;intro e E hE;obtain⟨x0,x1,x2,x3,x4,x5,xa,xn,xc,xb,rfl,o',H,h2,hF⟩:=hE.shape;have ag:J (·∈wl W Y cs ds) o4 G o' E:=H.more ap fun q _ e=>by
   rw[e];cases send
   ·exact (gu hd).2
   ·exact (gu hd).1
  have hI:aI o' E W _ (wl W Y cs ds):=⟨Y,aB,aF,aC,cs,ds,aD.BX hd hx H ((aD.ch k d x hd hx).Ch send H h2),rfl⟩;exact zM
 have HA:=χ hA;have HC:=χ hC;have d0:=Z w1 (Zj _ _);have HK:=χ U;have HS:=χ Z;have bh:∀b∈[bw,bn,bs,bi],w1.drew.heap[b]? =w.heap[b]? :=fun b hb=>HM b hb;obtain⟨s0,s1,s2,s3⟩:=U w1 d0;have aH:=χ aY;clear U Z hA O hW a7 ae an HM hC aY c0 c1 V aj aP hE hx ad hd;have af:∀b∈[bw,bn,bs,bi],b < w1.heap.size:=aH.out;have a0:=χ af;have aa:=χ L;clear af L d0;go_region_held3 (fun w'=>w'.cell? (κ bw 0)=π W∧w'.cell? (κ bn 0)=ι (k:Nat)∧w'.cell? (κ bs 0)=ι (sd send)∧w'.cell? (κ bi 0)=ι (i:Nat))
   (first | with_reducible exact HK.out _ bh | with_reducible exact HK.out _ a' | with_reducible exact HK.out _ a5 | with_reducible exact HK.out _ aZ | with_reducible exact HK.out _ aX)
   (first
     | (go_at_call 394;(refine δ HC.out ?_;intro G az;have hb:=(Zj _ _).drew.trans az;have a':=HS.out _ hb;dsimp only))
     | (go_at_call 417;(refine (HA.out _ hb).mono ?_;rintro e E ⟨x0,x1,x2,x3,x4,x5,xa,xn,xc,xb,rfl,aQ⟩;have HX:=aQ.out;have ah:=HX.2.1;have a5:=HX.2.2;have aG:∀b∈[bw,bn,bs,bi],b < E.heap.size:=fun b aw=>Za (a0.out b aw) (by obtain⟨o',h,_⟩:=HX.1;exact h.size);have aZ:∀b∈[bw,bn,bs,bi],((σ7 E n4 (ι x0) (ι x1) (ι x2) (ι x3) (ι x4) (ι x5) (.slice xa xn xc):World)).heap[b]? =w.heap[b]? :=fun b aw=>((aE (S:=(·=n4)) rfl 0 [(0,ι x0),(1,ι x1),(2,ι x2),(3,ι x3),(4,ι x4),(5,ι x5),(6,.slice xa xn xc)] E).block b (aG b aw) (aa.out b aw)).trans (a5 b aw);have aX:∀b∈[bw,bn,bs,bi],((σ8 E n4 (ι x0) (ι x1) (ι x2) (ι x3) (ι x4) (ι x5) (.slice xa xn xc) (.bool xb):World)).heap[b]? =w.heap[b]? :=fun b aw=>((aE (S:=(·=n4)) rfl 0 [(0,ι x0),(1,ι x1),(2,ι x2),(3,ι x3),(4,ι x4),(5,ι x5),(6,.slice xa xn xc),(7,.bool xb)] E).block b (aG b aw) (aa.out b aw)).trans (a5 b aw);have e0:=Zz ah 0 rfl;have f0:=ZD ah 0;have e1:=Zz ah 1 rfl;have f1:=ZD ah 1;have e2:=Zz ah 2 rfl;have f2:=ZD ah 2;have e3:=Zz ah 3 rfl;have f3:=ZD ah 3;have e4:=Zz ah 4 rfl;have f4:=ZD ah 4;have e5:=Zz ah 5 rfl;have f5:=ZD ah 5;have e6:=Zz ah 6 rfl;have f6:=ZD ah 6;have e7:=Zz ah 7 rfl;have f7:=ZD ah 7;clear ah;dsimp only)))
 go_wp2_with fail;refine zH ?_;intro h4 hp I o' g1 g2 g3 t1 t2 t3;exact Zl (v:= .agg #[ι x0,ι x1,ι x2,ι x3,ι x4,ι x5,.slice xa xn xc,.bool xb]) (by simp[results,results416,go_sem,A.c I 0 rfl,A.c I 1 rfl,A.c I 2 rfl,A.c I 3 rfl,A.c I 4 rfl,A.c I 5 rfl,A.c I 6 rfl,A.c I 7 rfl]) rfl ⟨o',t1,.ok [ι x0,ι x1,ι x2,ι x3,ι x4,ι x5,.slice xa xn xc,.bool xb],⟨⟨_,t2,fun q hq=>.inl hq⟩,[.int .i64 x0,.int .i64 x1,.int .i64 x2,.int .i64 x3,.int .i64 x4,.int .i64 x5,.slice xa xn xc],xb,rfl,t3⟩,rfl⟩
def zN {p q:Prop} (k:q) (h:Zq q→p:=by
 intro mq;have an:J Θ o w o u4:=Zb z U;have aM:=z.BD an;obtain⟨V,aL⟩:∃u,u4.alloc θ=u:=⟨_,rfl⟩;have ak:J Θ o u4 (o.set u4.heap.size (some u4.heap.size)) V:=by rw[←aL];exact ZJ aM _
 obtain⟨G,H⟩:∃n,u4.heap.size=n:=⟨_,rfl⟩;have k8:A V G 307 [ι 0,ι 0,ι 0,ι 0,ι 0,ι 0,ζ]:=by rw[←aL,←H];exact Zh _ _ _
 have af:(o.set u4.heap.size (some u4.heap.size)) G=some G:=by rw[H];exact Zw _ _ _
 have O:A V (w.heap.size) 27 [π W]:=by rw[←aL];exact O.alloc _
 have n0:(o.set u4.heap.size (some u4.heap.size)) (w.heap.size)=none:=by rw[ab.BG _ _ (by rw[ah];omega)];exact z.ge ω
 have Z:A V (η w) 3 [ι (k:Nat)]:=by rw[←aL];exact Z.alloc _
 have n1:(o.set u4.heap.size (some u4.heap.size)) (w.heap.size+1)=none:=by rw[ab.BG _ _ (by rw[ah];omega)];exact z.ge ω
 have k2:A V (w.heap.size+1+1) 182 [ι (sd send)]:=by rw[←aL];exact k2.alloc _
 have n2:(o.set u4.heap.size (some u4.heap.size)) (w.heap.size+1+1)=none:=by rw[ab.BG _ _ (by rw[ah];omega)];exact z.ge ω
 have k3:A V (w.heap.size+1+1+1) 3 [ι (i:Nat)]:=by rw[←aL];exact k3.alloc _
 have n3:(o.set u4.heap.size (some u4.heap.size)) (w.heap.size+1+1+1)=none:=by rw[ab.BG _ _ (by rw[ah];omega)];exact z.ge ω
 have az:=an.same z ak;have h5:=z.BD az;have aD:=hW.kept (az.kp) az.size fun _ _=>Zk;have a7:=hE.kept (az.kp);have aG:=aD.lt;have aO:w.heap.size≤G:=by rw[←H,ah];omega
 have z8:G=w.heap.size+1+1+1+1:=by rw[←H];exact ah
 revert an aM V aL ak G H k8 af O n0 Z n1 k2 n2 k3 n3 az h5 aD a7 aG aO z8
 exact mq.u):p:=h ⟨k⟩
def zO {p q:Prop} (k:q) (h:Zq q→p:=by
 intro mq;go_region;have h4:Fr (·=w.heap.size+1+1+1+1) w7 (World.drew (σ7 w7 (w.heap.size+1+1+1+1) (ι x0) (ι x1) (ι x2) (ι x3) (ι x4) (ι x5) (.slice xa xn xc))):=Y1 (aE (S:=(·=w.heap.size+1+1+1+1)) rfl 0 [(0,ι x0),(1,ι x1),(2,ι x2),(3,ι x3),(4,ι x4),(5,ι x5),(6,.slice xa xn xc)] w7) (Yn (w:=(σ7 w7 (w.heap.size+1+1+1+1) (ι x0) (ι x1) (ι x2) (ι x3) (ι x4) (ι x5) (.slice xa xn xc):World)));have hp:=YC (aW (b:=0) [(0,ι x0),(1,ι x1),(2,ι x2),(3,ι x3),(4,ι x4),(5,ι x5),(6,.slice xa xn xc)] _ _ HX.out);have I:A (World.drew (σ7 w7 (w.heap.size+1+1+1+1) (ι x0) (ι x1) (ι x2) (ι x3) (ι x4) (ι x5) (.slice xa xn xc))) (w.heap.size+1+1+1+1) 307 [ι x0,ι x1,ι x2,ι x3,ι x4,ι x5,.slice xa xn xc]:=hp;have hX:=eH.fin z hL az (a3.same h5 (Zb aP ae)) (aI.below bx aP ae) aU (aA.kept (kB aP ae) ae.size) ad af aO h4;clear hp;revert h4 I hX
 exact mq.u):p:=h ⟨k⟩
def yg {p q:Prop} (k:q) (h:Zq q→p:=by
 intro mq;obtain⟨u1,aN,aq,ac,O⟩:=al1 w 27 [π W];obtain⟨u2,L,aa,aj,Z,au⟩:=al2 ac aq 3 [ι (k:Nat)];revert u1 aN aq ac O u2 L aa aj Z au
 exact mq.u):p:=h ⟨k⟩
def zP {p q:Prop} (k:q) (h:Zq q→p:=by
 intro mq;have ay:¬((w.heap.size+1+1+1+1)∈wl W Y cs ds):=fun h=>by have:=hL _ h;omega
 have ao:A w6 (w.heap.size+1+1+1+1) 307 [ι 0,ι 0,ι 0,ι 0,ι 0,ι 0,ζ]:=(ZO (K:=(·=(w.heap.size+1+1+1+1))) a3 (fun q e=>by rw[e];exact ay) (w.heap.size+1+1+1+1) ad (fun q hq=>by rw[af] at hq;cases hq;rfl)).1.trans k8;have aP:=h5.BD a3;revert ay ao aP
 exact mq.u):p:=h ⟨k⟩
def zQ {p q:Prop} (k:q) (h:Zq q→p:=by
 intro mq;have aQ:=Zh w6 475 [ι x0,ι x1,ι x2,ι x3,ι x4,ι x5,.slice xa xn xc,.bool xb];have M:=A.alloc ao (.cells #[ι x0,ι x1,ι x2,ι x3,ι x4,ι x5,.slice xa xn xc,.bool xb] 475);have ae:=am w6 (.cells #[ι x0,ι x1,ι x2,ι x3,ι x4,ι x5,.slice xa xn xc,.bool xb] 475);revert aQ M ae
 exact mq.u):p:=h ⟨k⟩
def uT {o w W Y m aB aF aC cs ds} (z:Wf o w) (hW:ai o w W m Y aB aF aC cs ds) (hE:a6 o w) (k send i x) (hx:m.chs[k]? =some x) :
  Calls prog 370 #[π W,ι (k:Nat),ι (sd send),ι (i:Nat)] w (eH W ({m with chs:=m.chs.set k (bZ x send ((aJ x send).eraseIdx i))}) ((aJ x send)[i]?) (wl W Y cs ds) o w):=by
 have hL:=hW.lt;refine yg ?_;intro u1 aN aq ac O u2 L aa aj Z au;replace O:=au _ _ _ O;clear au;obtain⟨u3,ap,aw,aK,k2,au⟩:=al2 aj aa 182 [ι (sd send)];replace O:=au _ _ _ O;replace Z:=au _ _ _ Z;clear au;obtain⟨u4,aR,ah,U,k3,au⟩:=al2 aK aw 3 [ι (i:Nat)];replace O:=au _ _ _ O;replace Z:=au _ _ _ Z;replace k2:=au _ _ _ k2;clear au;refine zN ?_;intro an aM V aL ak G H k8 af O n0 Z n1 k2 n2 k3 n3 az h5 aD a7 aG aO z8;generalize o.set u4.heap.size (some u4.heap.size)=o5 at *
 have hP:=mT 416 #[ϖ w,π (η w),π (ς w),π (w.heap.size+1+1+1)] W ({m with chs:=m.chs.set k (bZ x send ((aJ x send).eraseIdx i))}) ((aJ x send)[i]?) (wl W Y cs ds) o5 V h5 aG Ψ (fun o3 E ax ag aT=>
   sC ax (aD.kept (ag.kp) ag.size fun _ _=>Zk) (a7.kept (ag.kp)) k send i x hx _ _ _ _ _ (ag.frozen.BF O n0).1 (ag.frozen.BF Z n1).1 (ag.frozen.BF k2 n2).1 (ag.frozen.BF k3 n3).1 (fun b hb=>by
    simp only[List.mem_cons,List.not_mem_nil,or_false] at hb;rcases hb with rfl | rfl | rfl | rfl
    ·exact (ag.frozen.BF O n0).2
    ·exact (ag.frozen.BF Z n1).2
    ·exact (ag.frozen.BF k2 n2).2
    ·exact (ag.frozen.BF k3 n3).2))
 have ad:G < V.heap.size:=k8.lt;clear an ak aM H O n0 Z n1 k2 n2 k3 n3;subst z8;go_enter func370,ntmps370;go_wp2_with fail;refine hP.mono ?_;rintro e w6 ⟨o6,a3,⟨L',bx,aU⟩,x0,x1,x2,x3,x4,x5,xa,xn,xc,xb,rfl,aA⟩;refine zP ?_;intro ay ao aP;clear hP aN L ap aR aL;refine zQ ?_;intro aQ M ae;go_wp2_with fail;generalize w6.alloc (.cells #[ι x0,ι x1,ι x2,ι x3,ι x4,ι x5,.slice xa xn xc,.bool xb] 475)=w7 at *;obtain⟨e0,e1,e2,e3,e4,e5,e6,e7,-⟩:=kc7 aQ;obtain⟨r0,f0,r1,f1,r2,f2,r3,f3,r4,f4,r5,f5,r6,f6,-⟩:=kb6 M;have HX:=χ M;clear aQ M ao;refine zO ?_;intro h4 I hX;go_wp2_with fail;exact Zl (v:= .tuple #[.agg #[ι x0,ι x1,ι x2,ι x3,ι x4,ι x5,.slice xa xn xc],.bool xb,ι 0]) (by simp[results,results370,go_sem,A.c I 0 rfl,A.c I 1 rfl,A.c I 2 rfl,A.c I 3 rfl,A.c I 4 rfl,A.c I 5 rfl,A.c I 6 rfl]) rfl hX
def tK {o w W Y m aB aF aC cs ds} (z:Wf o w) (hW:ai o w W m Y aB aF aC cs ds) (hE:a6 o w) (k send i x) (hx:m.chs[k]? =some x) (bw bn bs bi B) (ao:A w bw 27 [aA W]) (aL:A w bn 3 [ι (k:Nat)]) (aM:A w bs 182 [ι (sd send)]) (ak:A w bi 3 [ι (i:Nat)]) (aK:∀b∈[bw,bn,bs,bi],o b=none) :
  Calls prog 393 #[π bw,π bn,π bs,π bi] w (bH (·∈wl W Y cs ds) (fun l=>.agg l.toArray) (em B W (m) ((aJ x send)[i]?) (wl W Y cs ds)) o w):=by
 have aO:∀b∈[bw,bn,bs,bi],b < w.heap.size:=zL;refine zI ?_;intro an aU aR O aN hL ax ae a7 aP c0 c1 V aj ad d hd;have aS:J Θ o w (o.set (ν w) (some w.heap.size)) (w.alloc θ3):=an;generalize o.set (ν w) (some w.heap.size)=o4 at *;refine zJ ?_;intro aY L U;have bd:=χ (fun E M o' (x0 x1 x2 x3 x4 x5:Int) (xa:Option Addr) (xn xc:Nat) (xb:Bool) (H:J (·∈wl W Y cs ds) o4 _ o' E) (h2:aI o' E W (m) (wl W Y cs ds)) (h3:FR (Fz o' E) E ((aJ x send)[i]?) [ι x0,ι x1,ι x2,ι x3,ι x4,ι x5,.slice xa xn xc] xb) (h4:Fr (·=w.heap.size) E M)=>em.fin z hL an aU (Zc _) aN H h2 h3 h4);have HM:=ax;obtain⟨n4,bc⟩:∃n,w.heap.size=n:=⟨_,rfl⟩;rw[bc] at aU O aN L bd;go_enter func393,ntmps393;go_wp2_with fail;generalize w.alloc θ3=w1 at *;refine zK ?_;intro hC Z;have hA:∀G:World,Below (ν w1) w1 G→Calls prog 395 #[π d.1,ι (sd send),ι (i:Nat)] G fun e E=>∃(x0 x1 x2 x3 x4 x5:Int) (xa:Option Addr) (xn xc:Nat) (xb:Bool),e= .returned (.tuple #[.agg #[ι x0,ι x1,ι x2,ι x3,ι x4,ι x5,.slice xa xn xc],.bool xb]) ∧
   Hid ((∃o',J (·∈wl W Y cs ds) o4 w1 o' E∧aI o' E W (m) (wl W Y cs ds)∧FR (Fz o' E) E ((aJ x send)[i]?) [ι x0,ι x1,ι x2,ι x3,ι x4,ι x5,.slice xa xn xc] xb)∧A E n4 475 [ι 0,ι 0,ι 0,ι 0,ι 0,ι 0,ζ,Δ]∧(∀b∈[bw,bn,bs,bi],E.heap[b]? =w.heap[b]?)):=by
  intro G hb;have aq:J (·∈wl W Y cs ds) o4 w1 o4 G:=Zb ae hb;have ap:=ae.BD aq;have aD:=a7.kept (kB ae hb) hb.size fun _ _=>Zk;refine (wH o4 d.1 x d.2.1 d.2.2.1 d.2.2.2 send i G ap (aD.ch k d x hd hx)).mono ?_;intro e E hE;obtain⟨x0,x1,x2,x3,x4,x5,xa,xn,xc,xb,rfl,hF,ac⟩:=hE.shape ap;obtain⟨o',rfl⟩:∃o',o'=o4:=⟨_,rfl⟩;have ag:J (·∈wl W Y cs ds) o' G o' E:=Zb ap ac;have hI:aI o' E W _ (wl W Y cs ds):=⟨Y,aB,aF,aC,cs,ds,aD.kept (kB ap ac) ag.size fun _ _=>Zk,rfl⟩;exact zM
 have HA:=χ hA;have HC:=χ hC;have d0:=Z w1 (Zj _ _);have HK:=χ U;have HS:=χ Z;have bh:∀b∈[bw,bn,bs,bi],w1.drew.heap[b]? =w.heap[b]? :=fun b hb=>HM b hb;obtain⟨s0,s1,s2,s3⟩:=U w1 d0;have aH:=χ aY;clear U Z hA O hW a7 ae an HM hC aS aY c0 c1 V aj aP hE hx ad hd;have af:∀b∈[bw,bn,bs,bi],b < w1.heap.size:=aH.out;have a0:=χ af;have aa:=χ L;clear af L d0;go_region_held3 (fun w'=>w'.cell? (κ bw 0)=π W∧w'.cell? (κ bn 0)=ι (k:Nat)∧w'.cell? (κ bs 0)=ι (sd send)∧w'.cell? (κ bi 0)=ι (i:Nat))
   (first | with_reducible exact HK.out _ bh | with_reducible exact HK.out _ a' | with_reducible exact HK.out _ a5 | with_reducible exact HK.out _ aZ | with_reducible exact HK.out _ aX)
   (first
     | (go_at_call 394;(refine δ HC.out ?_;intro G az;have hb:=(Zj _ _).drew.trans az;have a':=HS.out _ hb;dsimp only))
     | (go_at_call 395;(refine (HA.out _ hb).mono ?_;rintro e E ⟨x0,x1,x2,x3,x4,x5,xa,xn,xc,xb,rfl,aQ⟩;have HX:=aQ.out;have ah:=HX.2.1;have a5:=HX.2.2;have aG:∀b∈[bw,bn,bs,bi],b < E.heap.size:=fun b aw=>Za (a0.out b aw) (by obtain⟨o',h,_⟩:=HX.1;exact h.size);have aZ:∀b∈[bw,bn,bs,bi],((σ7 E n4 (ι x0) (ι x1) (ι x2) (ι x3) (ι x4) (ι x5) (.slice xa xn xc):World)).heap[b]? =w.heap[b]? :=fun b aw=>((aE (S:=(·=n4)) rfl 0 [(0,ι x0),(1,ι x1),(2,ι x2),(3,ι x3),(4,ι x4),(5,ι x5),(6,.slice xa xn xc)] E).block b (aG b aw) (aa.out b aw)).trans (a5 b aw);have aX:∀b∈[bw,bn,bs,bi],((σ8 E n4 (ι x0) (ι x1) (ι x2) (ι x3) (ι x4) (ι x5) (.slice xa xn xc) (.bool xb):World)).heap[b]? =w.heap[b]? :=fun b aw=>((aE (S:=(·=n4)) rfl 0 [(0,ι x0),(1,ι x1),(2,ι x2),(3,ι x3),(4,ι x4),(5,ι x5),(6,.slice xa xn xc),(7,.bool xb)] E).block b (aG b aw) (aa.out b aw)).trans (a5 b aw);have e0:=Zz ah 0 rfl;have f0:=ZD ah 0;have e1:=Zz ah 1 rfl;have f1:=ZD ah 1;have e2:=Zz ah 2 rfl;have f2:=ZD ah 2;have e3:=Zz ah 3 rfl;have f3:=ZD ah 3;have e4:=Zz ah 4 rfl;have f4:=ZD ah 4;have e5:=Zz ah 5 rfl;have f5:=ZD ah 5;have e6:=Zz ah 6 rfl;have f6:=ZD ah 6;have e7:=Zz ah 7 rfl;have f7:=ZD ah 7;clear ah;dsimp only)))
 go_wp2_with fail;refine zH ?_;intro h4 hp I o' g1 g2 g3 t1 t2 t3;exact Zl (v:= .agg #[ι x0,ι x1,ι x2,ι x3,ι x4,ι x5,.slice xa xn xc,.bool xb]) (by simp[results,results393,go_sem,A.c I 0 rfl,A.c I 1 rfl,A.c I 2 rfl,A.c I 3 rfl,A.c I 4 rfl,A.c I 5 rfl,A.c I 6 rfl,A.c I 7 rfl]) rfl ⟨o',t1,.ok [ι x0,ι x1,ι x2,ι x3,ι x4,ι x5,.slice xa xn xc,.bool xb],⟨⟨_,t2,fun q hq=>.inl hq⟩,[.int .i64 x0,.int .i64 x1,.int .i64 x2,.int .i64 x3,.int .i64 x4,.int .i64 x5,.slice xa xn xc],xb,rfl,t3⟩,rfl⟩
def o1 {o w W Y m aB aF aC cs ds} (z:Wf o w) (hW:ai o w W m Y aB aF aC cs ds) (hE:a6 o w) (k send i x) (hx:m.chs[k]? =some x) :
  Calls prog 340 #[π W,ι (k:Nat),ι (sd send),ι (i:Nat)] w (eH W (m) ((aJ x send)[i]?) (wl W Y cs ds) o w):=by
 have hL:=hW.lt;refine yg ?_;intro u1 aN aq ac O u2 L aa aj Z au;replace O:=au _ _ _ O;clear au;obtain⟨u3,ap,aw,aK,k2,au⟩:=al2 aj aa 182 [ι (sd send)];replace O:=au _ _ _ O;replace Z:=au _ _ _ Z;clear au;obtain⟨u4,aR,ah,U,k3,au⟩:=al2 aK aw 3 [ι (i:Nat)];replace O:=au _ _ _ O;replace Z:=au _ _ _ Z;replace k2:=au _ _ _ k2;clear au;refine zN ?_;intro an aM V aL ak G H k8 af O n0 Z n1 k2 n2 k3 n3 az h5 aD a7 aG aO z8;generalize o.set u4.heap.size (some u4.heap.size)=o5 at *
 have hP:=mT 393 #[ϖ w,π (η w),π (ς w),π (w.heap.size+1+1+1)] W (m) ((aJ x send)[i]?) (wl W Y cs ds) o5 V h5 aG Ψ (fun o3 E ax ag aT=>
   tK ax (aD.kept (ag.kp) ag.size fun _ _=>Zk) (a7.kept (ag.kp)) k send i x hx _ _ _ _ _ (ag.frozen.BF O n0).1 (ag.frozen.BF Z n1).1 (ag.frozen.BF k2 n2).1 (ag.frozen.BF k3 n3).1 (fun b hb=>by
    simp only[List.mem_cons,List.not_mem_nil,or_false] at hb;rcases hb with rfl | rfl | rfl | rfl
    ·exact (ag.frozen.BF O n0).2
    ·exact (ag.frozen.BF Z n1).2
    ·exact (ag.frozen.BF k2 n2).2
    ·exact (ag.frozen.BF k3 n3).2))
 have ad:G < V.heap.size:=k8.lt;clear an ak aM H O n0 Z n1 k2 n2 k3 n3;subst z8;go_enter func340,ntmps340;go_wp2_with fail;refine hP.mono ?_;rintro e w6 ⟨o6,a3,⟨L',bx,aU⟩,x0,x1,x2,x3,x4,x5,xa,xn,xc,xb,rfl,aA⟩;refine zP ?_;intro ay ao aP;clear hP aN L ap aR aL;refine zQ ?_;intro aQ M ae;go_wp2_with fail;generalize w6.alloc (.cells #[ι x0,ι x1,ι x2,ι x3,ι x4,ι x5,.slice xa xn xc,.bool xb] 475)=w7 at *;obtain⟨e0,e1,e2,e3,e4,e5,e6,e7,-⟩:=kc7 aQ;obtain⟨r0,f0,r1,f1,r2,f2,r3,f3,r4,f4,r5,f5,r6,f6,-⟩:=kb6 M;have HX:=χ M;clear aQ M ao;refine zO ?_;intro h4 I hX;go_wp2_with fail;exact Zl (v:= .tuple #[.agg #[ι x0,ι x1,ι x2,ι x3,ι x4,ι x5,.slice xa xn xc],.bool xb,ι 0]) (by simp[results,results340,go_sem,A.c I 0 rfl,A.c I 1 rfl,A.c I 2 rfl,A.c I 3 rfl,A.c I 4 rfl,A.c I 5 rfl,A.c I 6 rfl]) rfl hX
def yT {p q:Prop} (k:q) (h:Zq q→p:=by
 intro mq;have n0:o (w.heap.size)=none:=z.ge ω;have n1:o (w.heap.size+1)=none:=z.ge ω;have n2:o (w.heap.size+1+1)=none:=z.ge ω;have n3:o (w.heap.size+1+1+1)=none:=z.ge ω;revert n0 n1 n2 n3
 exact mq.u):p:=h ⟨k⟩
def vX {o w W Y m aB aF aC cs ds} (z:Wf o w) (hW:ai o w W m Y aB aF aC cs ds) (hE:a6 o w) (k send x) (hx:m.chs[k]? =some x) (y aD cx) (hy:a4 (Fz o w) w y (bu y aD cx)) :
  Calls prog 375 #[π W,ι (k:Nat),ι (sd send),.agg (ε y.sy y.th y.br y.fl y.v aD cx)] w (cF W (cS (k:Nat) send y m).2 (code (cS (k:Nat) send y m).1) (wl W Y cs ds) o w):=by
 refine yg ?_;intro u1 aN aq ac O u2 L aa aj Z au;replace O:=au _ _ _ O;clear au;obtain⟨u3,ap,aw,aK,k2,au⟩:=al2 aj aa 182 [ι (sd send)];replace O:=au _ _ _ O;replace Z:=au _ _ _ Z;clear au;obtain⟨u4,aR,-,U,k3,au⟩:=al2 aK aw 307 [ι y.sy,ι y.th,ι y.br,ι y.fl,ι y.v.kd,ι y.v.n,.slice aD y.v.l.length cx];replace O:=au _ _ _ O;replace Z:=au _ _ _ Z;replace k2:=au _ _ _ k2;clear au;refine yT ?_;intro n0 n1 n2 n3;have an:J Θ o w o u4:=Zb z U;have aM:=z.BD an;have A:=hW.kept (an.kp) U.size fun _ _=>Zk;have G:=hE.kept (an.kp);have V:=hy.kept (an.kp) U.size
 have I:=hK 424 #[ϖ w,π (η w),π (ς w),π (w.heap.size+1+1+1)] W (cS (k:Nat) send y m).2 (code (cS (k:Nat) send y m).1) (wl W Y cs ds) o u4 aM A.lt Ψ (fun o3 E ax ag _=>
   sm ax (A.kept (ag.kp) ag.size fun _ _=>Zk) (G.kept (ag.kp)) k send x hx y aD cx (V.kept (ag.kp) ag.size) _ _ _ _ _ (ag.frozen.BF O n0).1 (ag.frozen.BF Z n1).1 (ag.frozen.BF k2 n2).1 (ag.frozen.BF k3 n3).1 (fun b hb=>by
    simp only[List.mem_cons,List.not_mem_nil,or_false] at hb;rcases hb with rfl | rfl | rfl | rfl
    ·exact (ag.frozen.BF O n0).2
    ·exact (ag.frozen.BF Z n1).2
    ·exact (ag.frozen.BF k2 n2).2
    ·exact (ag.frozen.BF k3 n3).2))
 have a8:=U.size;have HT:=χ an;clear an aM A O n0 Z n1 k2 n2 k3 n3 G;go_enter func375,ntmps375;go_wp2_with fail;refine I.mono ?_;rintro e M ⟨o4,ao,⟨L',H,h2⟩,rfl⟩;have hF:cF W (cS (k:Nat) send y m).2 (code (cS (k:Nat) send y m).1) (wl W Y cs ds) o w (.returned (ι (code (cS (k:Nat) send y m).1))) M:=
  ⟨o4,(HT.out.more z fun _ _ h=>h.elim).same z ao,⟨L',H,fun q hq=>(h2 q hq).imp id fun h=>Zp a8 h⟩,rfl⟩
 clear I ao H h2;go_wp2_with fail;go_ret;exact hF
section
def bx.parked {ok w x cs} (h:bx ok w x cs) (b):bx ok w {x with parked:=b} (cr cs [(4,.bool b)]):=by obtain⟨aQ,ay,av,cb,cc,cv,rfl,h⟩:=h;exact⟨aQ,ay,av,cb,cc,cv,rfl,h⟩
def pj {m i x} (h:m.sys[i]? =some x):gX (i:Nat) m=(.ok (),{m with sys:=m.sys.set i {x with parked:=false}}):=by unfold gX Wm.bind;rw[hE h];simp[ge]
def ai.Cb {o w W Y m aB aF aC cs ds} (h:ai o w W m Y aB aF aC cs ds) {k x} (hx:m.sys[k]? =some x):∃g cap,aC= .slice (Γ g) m.sys.length cap∧g < w.heap.size∧o g=some W∧(∀q,w.frozen? (κ g q)=false)∧∃xs,xs.length=11∧bx (Fz o w) w x xs∧∀q,q < 11→w.cell? (κ g (k*11+q))=xs[q]? :=by obtain⟨a,cap,rfl,-,-,hc⟩:=h.rsy.form;obtain⟨g,xs,rfl,hg,aU,hl,aJ,aI,hP⟩:=hc k x hx;exact⟨g,cap,rfl,hg,aU,aI,xs,hl,hP,aJ⟩
section
variable {o:ab} {w:World} {W Y:Nat} {m:aH} {aB aF aC:Value} {cs:List (Nat×Nat×Nat×Nat)} {ds:List (Nat×Nat)}
def w9 (z:Wf o w) (hW:ai o w W m Y aB aF aC cs ds) (k x) (hx:m.sys[k]? =some x) :
  Calls prog 96 #[π W,ι (k:Nat)] w (cF W (gX (k:Nat) m).2 0 (wl W Y cs ds) o w):=by
 rw[pj hx];obtain⟨g,cap,rfl,hg,aU,aI,xs,a8,a4,aJ⟩:=hW.Cb hx;have hN:=d3 W Y aB aF (.slice (Γ g) m.sys.length cap) w hW.blk;have hk:=(Ze.1 hx).1;have ac:cF W {m with sys:=m.sys.set k {x with parked:=false}} 0 (wl W Y cs ds) o w (.returned (ι 0)) (σ w g (k*11+4) (.bool false)):=by obtain⟨H,h2⟩:=hW.Cr z (x':={x with parked:=false}) hx (g:=g) rfl [(4,Δ)] (fun p hp=>by rw[List.mem_singleton.1 hp];decide) (fun cs _ h=>h.parked false) rfl;exact⟨o,H.more z (fun q _ e=>by rw[e];exact eD),⟨_,⟨Y,aB,aF,_,cs,ds,h2,rfl⟩,fun q hq=>.inl hq⟩,rfl⟩
 have c3:=hW.blk.c 3 rfl;have c4:w.cell? (κ g (k*11+4))=some (.bool x.parked):=by rw[aJ 4 ω];obtain⟨aQ,ay,av,cb,cc,cv,rfl,-⟩:=a4;rfl
 have f4:=aI (k*11+4);have ak:decide ((k:Int) < 0)=false:=Zn ω;have ah:decide ((m.sys.length:Int)≤(k:Int))=false:=Zn ω;have hk2:decide (m.sys.length≤k)=false:=Zn ω;obtain⟨n,hn⟩:∃n,m.sys.length=n:=⟨_,rfl⟩;rw[hn] at c3 hk ah hk2;have HF:=χ ac;clear ac aJ a4 aI hn a8 hx;go_enter func96,ntmps96;go_wp2_with (go_at_call 49;refine γ hN ?_);go_ret;exact HF.out
def h7 (hW:ai o w W m Y aB aF aC cs ds):Calls prog 96 #[π W,ι (-1)] w (μ (ι 4) w):=by have hN:=d3 W Y aB aF aC w hW.blk;go_enter func96,ntmps96;go_wp2_with (go_at_call 49;refine γ hN ?_);go_ret;exact⟨rfl,rfl⟩
def mn {i:Nat} {x} (h:m.sys[i]? =some x) {f:Nat} (hx:x.fl=f) (hf:f < m.cells.length) (h2:m.cells[f]≤2):fa (i:Nat) m=(.ok (m.cells.getD f 0 != 2),{m with cells:=m.cells,cnt:=m.cnt+1,sys:=m.sys.set i {x with parked:=m.cells.getD f 0 != 2}}):=by
 have e3:m.cells.getD f 0=m.cells[f]:=by simp[List.getD,List.getElem?_eq_getElem hf]
 have e4:(((m.cells[f]:Nat):Int) != 2)=(m.cells[f] != 2):=by
  by_cases e:m.cells[f]=2
  ·rw[e];rfl
  ·have:¬((m.cells[f]:Nat):Int)=2:=ω
   rw[bne_iff_ne.2 this,bne_iff_ne.2 e]
 unfold fa Wm.bind;rw[hE h];dsimp only;unfold gr Wm.bind;rw[hx,f7 hf];dsimp only;rw[if_neg ω];simp only[Wm.ret,ge,e3,e4,id,List.set_getElem_self,Int.toNat_natCast]
def aY {w w':World} {g} (h:w'.heap[g]? =w.heap[g]?) (q):w'.cell? (κ g q)=w.cell? (κ g q):=Zd (w:=w) h
def iC {g cap} (hW:ai o w W m Y aB aF (.slice (Γ g) m.sys.length cap) cs ds) (i) (hi:i < m.sys.length) :
  Calls prog 158 #[π W,ι (i:Nat)] w (ϑ (.pointer (some ⟨g,i*11,none⟩)) w):=by refine yu ?_;intro hb hk aO;have hF:=lg W Y 200 #[ϖ w] _ m.sys.length cap g i _ _ _ _ aO Ψ (mw W Y (ν w) _ _ _ _ aO hk) rfl hi;unfold aA at *;clear hW;go_enter func158,ntmps158;go_wp2_with (go_at_call 199;refine γ hF ?_);go_ret;exact⟨rfl,hb⟩
def yU {p:Prop} (h:p:=by
 unfold wl at Z;rw[List.nodup_cons] at Z
 exact fun e=>Z.1 (by rw[e];exact Zr)):p:=h
def rB (z:Wf o w) (hW:ai o w W m Y aB aF aC cs ds) (k:Nat) (x) (hx:m.sys[k]? =some x) (f:Nat) (aa:x.fl=f) (bw bn B) (ao:A w bw 27 [aA W]) (aL:A w bn 3 [ι (k:Nat)]) (aK:∀b∈[bw,bn],o b=none) :
  Calls prog 294 #[π bw,π bn] w (bH (·∈wl W Y cs ds) (.bool) (dA B W (fa (k:Nat) m).2 (m.cells.getD f 0 != 2) (wl W Y cs ds)) o w):=by
 have ag:f < m.cells.length:=by have:=(hW.ok.fls x (Zi hx)).2;omega
 have a9:=hW.ok.two _ (Z8 ag);rw[mn hx aa ag a9];have e3:m.cells.getD f 0=m.cells[f]:=by simp[List.getD,List.getElem?_eq_getElem ag]
 have c0:=ao.c 0 rfl;have c1:=aL.c 0 rfl;have cA:=hW.blk.c 0 rfl;unfold aA at c0 cA;obtain⟨g,cap,rfl,hg,aU,aI,xs,a8,a4,aJ⟩:=hW.Cb hx;have c3:w.cell? (κ g (k*11+3))=ι (f:Nat):=by rw[aJ 3 ω,←aa];obtain⟨aQ,ay,av,cb,cc,cv,rfl,-⟩:=a4;rfl
 have c4:w.cell? (κ g (k*11+4))=some (.bool x.parked):=by rw[aJ 4 ω];obtain⟨aQ,ay,av,cb,cc,cv,rfl,-⟩:=a4;rfl
 have hk:=(Ze.1 hx).1;have hC:=iC hW k hk;have hR:=ni;have af:=hW.blk.lt;have ac:=ao.lt;have V:=hW.own;have bt:=aK bw ξ;have Z:=hW.nd;have a1:W≠Y:=yU;obtain⟨L,O⟩:∃L,m.cells=L:=⟨_,rfl⟩;have hA:=fun w1 (hb:Below (ν w) w w1)=>rg o Y m.most m.cells m.cnt f w1 (z.below hb) (hW.ar.below z hb) ag a9;have HA:=χ hA
 have bd:=χ (fun w1 G (hb:Below (ν w) w w1) (U:E Y m.most m.cells m.cnt o w1 G)=>(show ∃o',J (·∈wl W Y cs ds) o w o' (σ G g (k*11+4) (.bool (m.cells[f] != 2)):World)∧aT B W {m with cells:=m.cells,cnt:=m.cnt+1,sys:=m.sys.set k {x with parked:=m.cells[f] != 2}} (wl W Y cs ds) o' (σ G g (k*11+4) (.bool (m.cells[f] != 2))) from by
   obtain⟨o',H,h3⟩:=U;have ae:=z.below hb;have a7:=hW.kept (kB z hb) hb.size fun _ _=>Zk;have aD:=a7.access H h3 rfl hW.ok.two;have ap:=ae.BD H;obtain⟨g1,g2⟩:=aD.Cr ap (x':={x with parked:=m.cells[f] != 2}) (k:=k) hx (g:=g) rfl [(4,.bool (m.cells[f] != 2))] (fun p hp=>by rw[List.mem_singleton.1 hp];exact (by decide:4 < 11)) (fun cs _ h=>h.parked _) rfl;have an:J (·∈wl W Y cs ds) o w o' G:=(((Zb (D:=(·=Y)) z hb).same z H).more z fun q _ e=>by rw[e];exact gN)
   exact⟨o',an.same z (g1.more ap fun q _ e=>by rw[e];exact eD),_,⟨Y,aB,aF,_,cs,ds,g2,rfl⟩,fun q hq=>.inl hq⟩))
 have ad:=χ (fun w1 G (hb:Below (ν w) w w1) (U:E Y m.most m.cells m.cnt o w1 G)=>(show G.heap[bw]? =w.heap[bw]? ∧G.heap[W]? =w.heap[W]? ∧G.heap[g]? =w.heap[g]? from by
   obtain⟨o',H,-⟩:=U;have I:=H.et (K:=(·≠Y)) fun _ h=>h;have hs:=hb.size
   exact⟨((I bw ω fun q hq=>by rw[bt] at hq;cases hq).1).trans (hb.block _ ac),((I W ω fun q hq=>by rw[V] at hq;cases hq;exact a1).1).trans (hb.block _ af),
     ((I g ω fun q hq=>by rw[aU] at hq;cases hq;exact a1).1).trans (hb.block _ hg)⟩))
 have HK:=χ (fun (w':World) (h:w'.heap[bw]? =w.heap[bw]? ∧w'.heap[W]? =w.heap[W]? ∧w'.heap[g]? =w.heap[g]?)=>(show w'.cell? (κ bw 0)=π W∧w'.cell? (κ W 0)=π Y∧w'.cell? (κ g (k*11+3))=ι (f:Nat) from
   ⟨(aY h.1 0).trans c0,(aY h.2.1 0).trans cA,(aY h.2.2 _).trans c3⟩))
 have f4:=aI (k*11+4);have e5:(m.cells[f] != 2)=(m.cells.getD f 0 != 2):=by rw[e3]
 have e6:(((m.cells[f]:Nat):Int) != 2)=(m.cells[f] != 2):=by
  by_cases e:m.cells[f]=2
  ·rw[e];rfl
  ·have:¬((m.cells[f]:Nat):Int)=2:=ω
   rw[bne_iff_ne.2 this,bne_iff_ne.2 e]
 rw[←e5];obtain⟨r,hr⟩:∃r:Bool,(m.cells[f] != 2)=r:=⟨_,rfl⟩;obtain⟨v,hv⟩:∃v:Int,((m.cells[f]:Nat):Int)=v:=⟨_,rfl⟩;rw[hr,hv] at e6;rw[hr] at bd ⊢;rw[hv] at HA
 have HG:=χ (fun (G:World) (h:G.heap[g]? =w.heap[g]?)=>Zf ((aY h (k*11+4)).trans c4) (show G.frozen? (κ g (k*11+4))=false from by
   have h2:G.frozen? (κ g (k*11+4))=w.frozen? (κ g (k*11+4)):=by simp[World.frozen?,h]
   rw[h2];exact f4))
 clear aJ a4 aI hx hr hv hA e3 e5 O Z a8 a9 ag;go_enter func294,ntmps294;go_wp2_with
  (go_at_call 158;refine hC.mono ?_
   rintro e w1 ⟨rfl,hb⟩
   have aS:w1.heap[bw]? =w.heap[bw]? ∧w1.heap[W]? =w.heap[W]? ∧w1.heap[g]? =w.heap[g]? :=⟨hb.block _ ac,hb.block _ af,hb.block _ hg⟩)
 have aM:Below (ν w) w w1.drew:=hb.drew;have aV:w1.drew.heap[bw]? =w.heap[bw]? ∧w1.drew.heap[W]? =w.heap[W]? ∧w1.drew.heap[g]? =w.heap[g]? :=aS;clear hC;go_region_held3 (fun w'=>w'.cell? (κ bw 0)=π W∧w'.cell? (κ W 0)=π Y∧w'.cell? (κ g (k*11+3))=ι (f:Nat))
   (first | with_reducible exact HK.out _ aV | with_reducible exact HK.out _ a')
   (first
     | (go_at_call 296;(refine δ (HA.out _ aM) ?_;intro G U;have a':=ad.out _ _ aM U;dsimp only))
     | (go_at_call 295;(refine γ (hR _ _) ?_;dsimp only)))
 obtain⟨g4,gf⟩:=HG.out _ a'.2.2;obtain⟨o9,M,h9⟩:=bd.out _ _ aM U;go_wp2_with fail;go_ret;exact⟨o9,M,.ok r,⟨h9,rfl⟩,rfl⟩
end
end
def sh {o w W Y m aB aF aC cs ds} (z:Wf o w) (hW:ai o w W m Y aB aF aC cs ds) (k:Nat) (x) (hx:m.sys[k]? =some x) (f:Nat) (aa:x.fl=f) :
  Calls prog 271 #[π W,ι (k:Nat)] w (c2 (.bool) W (fa (k:Nat) m).2 (m.cells.getD f 0 != 2) (wl W Y cs ds) o w):=by
 obtain⟨u1,aN,aq,ac,O⟩:=al1 w 27 [π W];obtain⟨u2,L,-,aj,Z,au⟩:=al2 ac aq 3 [ι (k:Nat)];replace O:=au _ _ _ O;clear au;have n0:o (w.heap.size)=none:=z.ge ω;have n1:o (w.heap.size+1)=none:=z.ge ω;have an:J Θ o w o u2:=Zb z aj;have aM:=z.BD an;have A:=hW.kept (an.kp) aj.size fun _ _=>Zk
 have I:=jK 294 #[ϖ w,π (η w)] W (fa (k:Nat) m).2 (m.cells.getD f 0 != 2) (wl W Y cs ds) o u2 aM A.lt Ψ (fun o3 E ax ag _=>
   rB ax (A.kept (ag.kp) ag.size fun _ _=>Zk) k x hx f aa _ _ _ (ag.frozen.BF O n0).1 (ag.frozen.BF Z n1).1 (fun b hb=>by
    simp only[List.mem_cons,List.not_mem_nil,or_false] at hb;rcases hb with rfl | rfl
    ·exact (ag.frozen.BF O n0).2
    ·exact (ag.frozen.BF Z n1).2))
 have a8:=aj.size;have HT:=χ an;clear an aM A O n0 Z n1;go_enter func271,ntmps271;go_wp2_with fail;refine I.mono ?_;rintro e M ⟨o4,ao,⟨L',H,h2⟩,rfl⟩;have hF:c2 (.bool) W (fa (k:Nat) m).2 (m.cells.getD f 0 != 2) (wl W Y cs ds) o w (.returned (.tuple #[.bool (m.cells.getD f 0 != 2),ι 0])) M:=
  ⟨o4,(HT.out.more z fun _ _ h=>h.elim).same z ao,⟨L',H,fun q hq=>(h2 q hq).imp id fun h=>Zp a8 h⟩,rfl⟩
 clear I ao H h2;go_wp2_with fail;go_ret2;exact hF
end Go.Proofs.YtmchabopafimeaaGreatDoor
