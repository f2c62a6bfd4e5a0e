import Derived.Test.YtmchabopafimeaaGreatDoorQar
namespace Go.Proofs.YtmchabopafimeaaGreatDoor
set_option maxRecDepth 100000
set_option maxHeartbeats 16000000
set_option linter.all false
open Go.RowKit Go.Sort Tryz
section
def pB (p:List Fn) (fs:List cW) (v:VT):Bool:=match fs.dropLast.getLast? with
 | none=>decide (0 < fs.length)
 | some l=>decide (l.dn.length≤1000) && decide (fs.length≤1000) && (match p[l.fn]? with
   | some fn=>(fn.ns[l.nd]?).isSome
   | none=>false) && df p dJ (fs.dropLast.dropLast ++ [⟨l.fn,l.nd,l.vars,l.dn ++ [v]⟩])
def jE (l:cW) (x:Nd):Bool:=(x.op == 3 && decide (0≤x.n∧x.n < l.vars.length)) || (x.op != 3 && x.op != 6 && x.op != 7 && x.op != 8 && x.op != 9 && x.op != 11 && x.op != 12 && decide (-9223372036854775808≤x.n∧x.n≤9223372036854775807))
def jy (p:List Fn) (F:ba):Bool:=F.st == 1 && match F.fs.getLast? with
 | none=>false
 | some l=>match p[l.fn]? with
   | none=>false
   | some fn=>match fn.ns[l.nd]? with
     | none=>false
     | some x=>decide (F.fs.length≤1000) && x.op != 13 && jE l x && match ec l x with
       | none=>true
       | some v=>pB p F.fs v
section
variable {o o':ab} {w w' V:World} {g c:Nat} {F:ba} {va fa pa:Option Addr} {vc fc pc:Nat} {xs ys zs:List a5} {x y:a5} {p:List Fn} {R:ba}
def hZ {ys l} (h:xs.map a5.f=ys ++ [l]):∃zs y,xs=zs ++ [y]∧zs.map a5.f=ys∧y.f=l:=by
 obtain⟨zs,r,rfl,H,h2⟩:=List.map_eq_append_iff.1 h;rcases r with _ | ⟨y,_ | _⟩
 ·simp at h2
 ·exact⟨zs,y,rfl,H,by simpa using h2⟩
 ·simp at h2
def gd {α:Type} {l} {x:α} (h:l.getLast? =some x):∃r,l=r ++ [x]:=List.getLast?_eq_some_iff.1 h
def aF.Ci (h:aF o w g c F va vc fa fc xs) (hx:xs≠[]):∃L,fa=some ⟨L,0,none⟩:=by obtain⟨x,hx⟩:∃x,xs[0]? =some x:=⟨_,Zg (List.length_pos_iff.2 hx)⟩;obtain⟨L,e,-⟩:=h.frame hx;exact⟨L,e⟩
def lm {t ta tc} (z:Wf o w) (h:a1 o w g c F) (hc:bz o w c p) (h0:F.val=vZ) (hv:aG (Fz o w) w t (.agg (υ t ta tc))) (hp:pB p F.fs t=true) :
  Calls prog 169 #[π g,.agg (υ t ta tc)] w (cY o w g c (eQ p F.fs t)):=by
 obtain⟨va,vc,fa,fc,xs,h⟩:=h;obtain⟨pa,pc,hc⟩:=hc;unfold pB at hp;unfold eQ;have a6:=h.fs;cases hl:F.fs.dropLast.getLast? with
 | none=>
   rw[hl] at hp;have aI:=of_decide_eq_true hp;have H:F.fs.dropLast=[]:=List.getLast?_eq_none_iff.1 hl;obtain⟨x,rfl⟩:∃x,xs=[x]:=by
    rw[a6] at H aI;rcases xs with _ | ⟨x,_ | _⟩
    ·simp at aI
    ·exact⟨x,rfl⟩
    ·simp at H
   obtain⟨L,rfl⟩:=h.Ci ξ;exact vu z h hv
 | some l=>
   rw[hl] at hp;dsimp only at hp ⊢;simp only[Bool.and_eq_true,decide_eq_true_eq] at hp;obtain⟨⟨⟨H,h2⟩,h3⟩,h4⟩:=hp;obtain⟨bW,e1⟩:=gd hl;obtain⟨A,e2⟩:∃A,F.fs=bW ++ [l] ++ [A]:=by
    cases hz:F.fs.getLast? with
    | none=>rw[List.getLast?_eq_none_iff.1 hz] at e1;simp at e1
    | some A=>obtain⟨r,e⟩:=gd hz;rw[e,List.dropLast_concat] at e1;exact⟨A,by rw[e,e1]⟩
   rw[a6] at e2;obtain⟨E,x,rfl,e3,-⟩:=hZ e2;obtain⟨zs,y,rfl,e4,e5⟩:=hZ e3;obtain⟨L,rfl⟩:=h.Ci ξ;subst e5;cases hf:p[y.f.fn]? with
   | none=>rw[hf] at h3;cases h3
   | some fn=>
     rw[hf] at h3;obtain⟨nd,hn⟩:=Option.isSome_iff_exists.1 h3;have e6:F.fs.dropLast.dropLast=zs.map a5.f:=by rw[a6];simp
     rw[e6] at h4 ⊢;refine qy z h hc h0 hv ?_ H hf hn dJ rfl h4;rw[a6] at h2;simp at h2;omega
def oS {L la lc nd} (z:Wf o w) (h:aF o w g c F va vc (some ⟨L,0,none⟩) fc (ys ++ [x])) (hr:jE x.f nd=true):Calls prog 168 #[.pointer (some ⟨L,ys.length*4,none⟩),bT nd la lc] w (fj o (ec x.f nd) w):=by
 unfold jE at hr;simp only[Bool.or_eq_true,Bool.and_eq_true,beq_iff_eq,decide_eq_true_eq,bne_iff_ne] at hr;rcases hr with ⟨h3,h4⟩ | ⟨⟨⟨⟨⟨⟨⟨h3,h6⟩,h7⟩,M⟩,h9⟩,ah⟩,H⟩,hn⟩
 ·exact xI z h h3 h4
 ·exact uO z h ⟨h3,h6,h7,M,h9,ah,H⟩ hn
def t5 (o:ab) (r:Option VT) (w':World) (v0 v1 v2:Value) (n:Int):Prop:=match r with
 | some t=>n=0∧∃a c,Value.agg #[v0,v1,v2]= .agg #[.int .i64 t.kd,.int .i64 t.n,.slice a t.l.length c]∧aG (Fz o w') w' t (.agg #[.int .i64 t.kd,.int .i64 t.n,.slice a t.l.length c])
 | none=>n≠0
def fj.form {r e} (h:fj o r w e w'):Below (ν w) w w'∧∃(Z k2:Int) (U:Option Addr) (sl sc:Nat) (n:Int),e= .returned (.tuple #[.agg #[ι Z,ι k2,.slice U sl sc],ι n])∧t5 o r w' (ι Z) (ι k2) (.slice U sl sc) n:=by
 obtain⟨hb,h⟩:=h;refine⟨hb,?_⟩;cases r with
 | some t=>obtain⟨a,c,rfl,hv⟩:=h;exact⟨_,_,_,_,_,_,rfl,rfl,a,c,rfl,hv⟩
 | none=>obtain⟨n,Z,k2,U,sl,sc,hn,rfl⟩:=h;exact⟨_,_,_,_,_,n,rfl,hn⟩
def gK (o:ab) (w:World) (g c:Nat) (R:ba) (e:Ending) (w':World):Prop:=e= .returned (.int .i64 0)∧∃o',J (·=g) o w o' w'∧a1 o' w' g c R
def xu (z:Wf o w) (h:a1 o w g c F) (hc:bz o w c p) (hs:jy p F=true) (hR:ja p F=some R) :
  Calls prog 130 #[π g] w (gK o w g c R):=by
 obtain⟨va,vc,fa,fc,xs,h⟩:=h;obtain⟨pa,pc,hc⟩:=hc;unfold jy at hs;unfold ja at hR;simp only[Bool.and_eq_true,beq_iff_eq] at hs;obtain⟨H,hs⟩:=hs;rw[if_neg (by simp[H])] at hR;have a6:=h.fs;have aX:F.val=vZ:=h.zv.resolve_left ω;cases hl:F.fs.getLast? with
 | none=>rw[hl] at hs;cases hs
 | some l=>
   rw[hl] at hs hR;dsimp only at hs hR;cases hf:p[l.fn]? with
   | none=>rw[hf] at hs;cases hs
   | some fn=>
     rw[hf] at hs;dsimp only at hs;cases hn:fn.ns[l.nd]? with
     | none=>rw[hn] at hs;cases hs
     | some nd=>
       rw[hn] at hs;rw[jo hf hn] at hR;simp only[Bool.and_eq_true,decide_eq_true_eq,bne_iff_ne] at hs;obtain⟨⟨⟨h2,O⟩,ak⟩,hs⟩:=hs;rw[if_neg O] at hR;obtain⟨r,e⟩:=gd hl;rw[a6] at e;obtain⟨ys,x,rfl,-,rfl⟩:=hZ e;obtain⟨L,rfl⟩:=h.Ci ξ;have aj:ys.length < 100000:=by rw[a6] at h2;simp at h2;omega
       have hm:=kk h;have aS:=iA z h hc hf hn aj;have c1:=h.blk.c 1 rfl;rw[H] at c1;obtain⟨Y,ag⟩:∃Y,ec x.f nd=Y:=⟨_,rfl⟩
       have aq:=χ (fun G (hb:Below (ν w) w G) (la:Option Addr) (lc:Nat)=>(show Calls prog 168 #[.pointer (some ⟨L,ys.length*4,none⟩),.agg #[ι nd.op,ι nd.n,.slice la nd.l.length lc]] G (fj o Y G) from by
         rw[←ag]
         exact oS (z.below hb) (h.kept (kB z hb) hb.size trivial) ak))
       have b3:=χ (fun G (hb:Below (ν w) w G)=>(show Calls prog 165 #[π g] G (cY o w g c c4) from by
         refine (j5 (z.below hb) (h.kept (kB z hb) hb.size trivial) aX).mono ?_;rintro e M ⟨rfl,q3,q4⟩
         exact⟨rfl,o,(Zb z hb).same z q3,q4⟩))
       have ad:=χ (fun G (hb:Below (ν w) w G) (t:VT) (ta:Option Addr) (tc:Nat) (hv:aG (Fz o G) G t (.agg (υ t ta tc))) (hp:pB p F.fs t=true)=>(show Calls prog 169 #[π g,.agg (υ t ta tc)] G (cY o w g c (eQ p F.fs t)) from by
         have I:=(tB z hb).kp;refine (lm (z.below hb) ⟨_,_,_,_,_,h.kept I hb.size trivial⟩ ⟨_,_,hc.kept I hb.size⟩ aX hv hp).mono ?_;rintro e M ⟨rfl,o4,q3,q4⟩
         exact⟨rfl,o4,(Zb z hb).same z q3,q4⟩))
       have ai:(nd.op == 13)=false:=by simp[O]
       rw[ag] at hs hR;generalize bc:ys.length*4=n4 at *;generalize hyn:ys.length=yn at *;clear h hc a6 ak ag hf hn H O hl e h2;go_enter func130,ntmps130;go_upto_region 5 with (go_at_call 167;refine γ hm ?_);go_upto_region 6 with (go_at_call 127;refine aS.mono ?_;rintro e w1 ⟨af,bp,la,lc,e,rfl,bw,bu,-⟩;injection e with e;injection e with e _ _;subst e;unfold bT);obtain⟨G,aB⟩:∃u,w1.alloc (.cells #[ι nd.op,ι nd.n,.slice la nd.l.length lc] 141)=u:=⟨_,rfl⟩;have aa:Below (ν w) w G:=by rw[←aB];exact af.alloc af.size _
       have hk2:A G (ν w1) 141 [ι nd.op,ι nd.n,.slice la nd.l.length lc]:=by rw[←aB];exact Zh _ _ _
       rw[aB];clear aB aS af hm;obtain⟨y0,y1,y2,-⟩:=kc2 hk2;have ao:=aq.out G aa la lc;go_upto_region 11 with (go_at_call 168;refine ao.mono ?_;rintro e E hE;obtain⟨ac,Z,k2,U,sl,sc,n,rfl,hP⟩:=hE.form);have ae:=aa.trans (ac.mono aa.size);obtain⟨M,aJ⟩:∃u,E.alloc (.cells #[ι Z,ι k2,.slice U sl sc] 86)=u:=⟨_,rfl⟩;have ah:Below (ν w) w M:=by rw[←aJ];exact ae.alloc ae.size _
       have k4:A M (ν E) 86 [ι Z,ι k2,.slice U sl sc]:=by rw[←aJ];exact Zh _ _ _
       have aT:Below (ν E) E M:=by rw[←aJ];exact am E _
       rw[aJ];clear aJ y0 y1 y2 hk2 ao;obtain⟨y0,y1,y2,-⟩:=kc2 k4;have ax:=z.below ae;cases Y with
       | none=>
         have hP:n≠0:=hP;have hq:(n == 0)=false:=by simp[hP]
         have aY:=b3.out M ah;obtain rfl:c4=R:=by simpa using hR
         go_wp2_with (go_at_call 165;refine δ aY ?_;intro V hE);go_ret;exact⟨rfl,hE⟩
       | some t=>
         obtain⟨rfl,a,c',e,hv⟩:=hP;simp only[Array.mk.injEq,List.cons.injEq,and_true,true_and,Value.int.injEq,Value.slice.injEq,Value.agg.injEq] at e;obtain⟨rfl,rfl,rfl,rfl,rfl⟩:=e;have an:=ad.out M ah t U sc (hv.kept (kB ax aT) aT.size) hs;obtain rfl:eQ p F.fs t=R:=by simpa using hR
         clear hs hv;go_wp2_with (go_at_call 169;refine δ an ?_;intro V hE);go_ret;exact⟨rfl,hE⟩
def wh {t ta tc} (z:Wf o w) (h:a1 o w g c F) (hc:bz o w c p) (hv:aG (ο w) w t (.agg (υ t ta tc))) (hr:right t=true) (h2:F.st=2) (hp:pB p F.fs t=true) :
  Calls prog 133 #[π g,.agg (υ t ta tc)] w (gK o w g c (eQ p F.fs t)):=by
 obtain⟨w1,aP,-,b1,O⟩:=al1 w 86 [ι t.kd,ι t.n,.slice ta t.l.length tc];have Y:=(tB z b1).kp;have H:=h.kept Y b1.size trivial;have ao:=hv.later b1;have ag:=fQ t _ w1 ao;have hm:Calls prog 167 #[π g] w1 (μ (.bool false) w1):=by obtain⟨_,_,_,_,_,H⟩:=H;exact kk H
 have HF:=χ (fun G (hb:Below (ν w) w G)=>(show G.cell? (κ g 1)=ι 2 from by
   obtain⟨_,_,_,_,_,L⟩:=h.kept (kB z hb) hb.size trivial;rw[←h2]
   exact L.blk.c 1 rfl))
 have ad:=χ (fun G (hb:Below (ν w) w G) (ta:Option Addr) (tc:Nat) (hv:aG (Fz o G) G t (.agg (υ t ta tc)))=>(show Calls prog 169 #[π g,.agg (υ t ta tc)] G (cY o w g c (eQ p F.fs t)) from by
   have I:=(tB z hb).kp;have aX:F.val=vZ:=by obtain⟨_,_,_,_,_,h⟩:=h;exact h.zv.resolve_left ω
   refine (lm (z.below hb) (h.kept I hb.size trivial) (hc.kept I hb.size) aX hv hp).mono ?_;rintro e M ⟨rfl,o4,q3,q4⟩
   exact⟨rfl,o4,(Zb z hb).same z q3,q4⟩))
 have HW:=χ z;have hsm:=gR hr;have bu:=χ (fun G (hb:Below (ν w1) w1 G)=>ce t _ G hsm (ao.later hb));rw[if_pos hr] at ag;obtain⟨y0,y1,y2,-⟩:=kc2 O;clear h H hv ao Y z hr h2 hp hc hsm;have ak:=O.lt;go_enter func133,ntmps133;go_wp2_with first
  | (go_at_call 167;refine γ hm ?_)
  | (go_at_call 122;refine δ ag ?_;intro G aa;have c1:=HF.out G (b1.trans (aa.mono b1.size));have bl:=bu.out G aa;have y0:=(aa.cell (p:=κ (ν w) 0) ak).trans y0;have y1:=(aa.cell (p:=κ (ν w) 1) ak).trans y1;have y2:=(aa.cell (p:=κ (ν w) 2) ak).trans y2)
  | (go_at_call 40;refine bl.mono ?_;rintro e E ⟨v',rfl,ac,ai⟩;obtain⟨a3,c3,rfl,-,-⟩:=ai.three;have ap:=b1.trans ((aa.trans (ac.mono aa.size)).mono b1.size);have an:=ad.out E ap a3 c3 (ai.more fun g' hg=>⟨HW.out.ge (Zp (Zp b1.size aa.size) hg.1),hg.2⟩))
  | (go_at_call 169;refine δ an ?_;intro M hE)
 go_ret;exact⟨rfl,hE⟩
def ig (F:ba) (w:World) (e:Ending) (w':World):Prop:=Below w.heap.size w w'∧if F.st=3 then ∃a c,e= .returned (.tuple #[.agg #[.int .i64 F.val.kd,.int .i64 F.val.n,.slice a F.val.l.length c],.bool true])∧aG (Nw w.heap.size w') w' F.val (.agg #[.int .i64 F.val.kd,.int .i64 F.val.n,.slice a F.val.l.length c])
 else e= .returned (.tuple #[.agg #[.int .i64 0,.int .i64 0,.slice none 0 0],.bool false])
def zg {p q:Prop} (k:q) (h:Zq q→p:=by
 intro mq;obtain⟨y0,f0,y1,f1,y2,f2,-⟩:=kb2 O;have hp:=cA O (ι 0) (ι 0) (.slice none 0 0);have HB:=χ (cU b1 (Zc _) (ι 0) (ι 0) (.slice none 0 0));revert y0 f0 y1 f1 y2 f2 hp HB
 exact mq.u):p:=h ⟨k⟩
def ko (z:Wf o w) (h:a1 o w g c F) (h3:F.st≠3):Calls prog 146 #[π g] w (ig F w):=by
 obtain⟨w1,aP,-,b1,O⟩:=al1 w 86 [ι 0,ι 0,ζ];have Y:=(tB z b1).kp;obtain⟨_,_,_,_,_,H⟩:=h.kept Y b1.size trivial;have aE:=he H;refine zg ?_;intro y0 f0 y1 f1 y2 f2 hp HB;have hq:(F.st == 3)=false:=by simp[h3]
 have A:∀w',Below (ν w) w w'→ig F w (.returned (.tuple #[.agg #[ι 0,ι 0,ζ],Δ])) w':=fun w' hb=>⟨hb,by rw[if_neg h3]⟩;have HV:=χ A;clear h H Y O h3 A;go_enter func146,ntmps146;go_wp2_with (go_at_call 126;refine γ aE ?_);exact Zl (v:= .tuple #[.agg #[ι 0,ι 0,ζ],Δ]) (by simp[results,results146,go_sem,hp.c 0 rfl,hp.c 1 rfl,hp.c 2 rfl]) rfl (HV.out _ HB.out)
def sP (z:Wf o w) (h:a1 o w g c F) (h3:F.st=3) (hs:small F.val=true):Calls prog 146 #[π g] w (ig F w):=by
 obtain⟨w1,aP,-,b1,O⟩:=al1 w 86 [ι 0,ι 0,ζ];have Y:=(tB z b1).kp;obtain⟨va,vc,_,_,_,H⟩:=h.kept Y b1.size trivial;have aE:=he H;obtain⟨-,-,c2,c3,c4,-⟩:=kc4 H.blk;have bl:=ce F.val _ w1 hs H.val.lt;rw[h3] at aE;have HK:=χ O;have HF:=χ (show ∀a c w',Below (ν w) w w'→aG (Nw (ν w) w') w' F.val (.agg (υ F.val a c))→ig F w (.returned (.tuple #[.agg (υ F.val a c),Υ])) w' from fun a c w' hb hv=>⟨hb,by rw[if_pos h3];exact⟨a,c,rfl,hv⟩⟩);clear h H Y O h3;go_enter func146,ntmps146;go_wp2_with first
  | (go_at_call 126;refine γ aE ?_)
  | (go_at_call 40;refine bl.mono ?_;rintro e E ⟨v',rfl,ac,ai⟩;obtain⟨a3,c3',rfl,-,-⟩:=ai.three;have k3:=HK.out.BE ac;have y0:=k3.c 0 rfl;have y1:=k3.c 1 rfl;have y2:=k3.c 2 rfl;have f0:=k3.fz 0;have f1:=k3.fz 1;have f2:=k3.fz 2)
 have hp:=cA k3 (ι F.val.kd) (ι F.val.n) (.slice a3 F.val.l.length c3');have aw:=cU (b1.trans (ac.mono b1.size)) (Zc _) (ι F.val.kd) (ι F.val.n) (.slice a3 F.val.l.length c3');have ah:=HK.out.lt;refine Zl (v:= .tuple #[.agg (υ F.val a3 c3'),Υ]) (by simp[results,results146,go_sem,hp.c 0 rfl,hp.c 1 rfl,hp.c 2 rfl]) rfl (HF.out _ _ _ aw ?_);refine (ai.et fun g' hg q=>Zd (w:=E) ?_).more fun g' hg=>⟨Zp b1.size hg.1,by simpa [World.setCell] using hg.2⟩;have ay:g'≠w.heap.size:=by have:=hg.1;omega
 rw[Below.heap_setCell _ _ _ _ ay,Below.heap_setCell _ _ _ _ ay,Below.heap_setCell _ _ _ _ ay]
end
end
section
def Be {p:Prop} (h:p:=by
 obtain⟨v0,v1,v2,rfl,hv⟩:=iq hP;obtain⟨b,c,e,-⟩:=hv.three;injection e with e;injection e with e;injection e with e1 e;injection e with e2 e;injection e with e3 _
 exact⟨b,c,by rw[e1,e2,e3],trivial⟩):p:=h
def wC (l a cap w) (hl:aU (ak (ο w) w) (ο w) w 3 l a) (aI:l.length≤1000000) (hsm:∀x∈l,small x=true) :
  Calls prog 128 #[.slice a l.length cap] w (dX ak 3 l w):=by
 have ai:∀(x:VT) (cs:List Value) (wx:World),x∈l→Below (ν w) w wx→ak (ο wx) wx x cs→Calls prog 40 #[.agg cs.toArray] wx (cf ak x wx):=by rintro x cs wx hx - ⟨v0,v1,v2,rfl,hv⟩;refine (ce x _ wx (hsm x hx) hv).mono ?_;rintro e w1 ⟨v',rfl,hb,ae⟩;obtain⟨a1,c1,rfl,-,-⟩:=ae.three;exact⟨_,rfl,hb,_,_,_,rfl,ae⟩
 have HS:=χ hl;have HO:=χ ai;have Z:bX ak:=e4;have bc:=χ (Y6 ak 86 3 l w);clear hl ai hsm;go_enter func128,ntmps128;go_wp2_with fail;go_loopw [3,5,8] (fun vo _ ix wr=>∃(k:Nat) (xs:List Value),ix= .int .i64 (k:Nat)∧k≤l.length∧z ak 86 3 l w wr vo k xs) (fun _ _ ix _=>l.length - (intOf ix).toNat)
 case atStart=>exact⟨0,[],rfl,Z2 _,bc.out⟩
 case round=>
  obtain⟨k,xs,rfl,hk,hI⟩:=hrel
  by_cases ad:k < l.length
  ·have hx:l[k]? =some l[k]:=Zg ad
   have ay:=Z8 ad;generalize l[k]=x at hx ay;obtain⟨g,U,cs,rfl,hg,aq,hc,hP⟩:=HS.out k x hx;obtain⟨b,c,I,-⟩:∃b c,cs=[.int .i64 x.kd,.int .i64 x.n,.slice b x.l.length c]∧True:=Be;subst I;have ao:=hI.below;have aL:=(ao.cell (p:=κ g (U+k*3)) (by dsimp only;exact hg)).trans (hc 0 ω);have aR:=(ao.cell (p:=κ g (U+k*3+1)) (by dsimp only;exact hg)).trans (hc 1 ω);have aV:=(ao.cell (p:=κ g (U+k*3+2)) (by dsimp only;exact hg)).trans (hc 2 ω);have L:decide (k < l.length)=true:=Zy ad;have aa:=am wr (.cells #[ι x.kd,ι x.n,.slice b x.l.length c] 86);have O:=Zh wr 86 [ι x.kd,ι x.n,.slice b x.l.length c];have h:ak (· < (wr.alloc (υ x b c)).heap.size) (wr.alloc (υ x b c)) x [ι x.kd,ι x.n,.slice b x.l.length c]:=Z _ _ w _ _ _ hP (fun q hq i=>(ao.trans (aa.mono ao.size)).cell (p:=κ q i) hq) (fun q hq=>Za hq (ao.trans (aa.mono ao.size)).size);have hX:=HO.out x _ _ ay (ao.trans (aa.mono ao.size)) h;have HI:=χ hI;have a9:k≤10000000000:=ω;clear hc hP hI h;go_upto_region 5 with fail;generalize wr.alloc (υ x b c)=G at *;obtain⟨M,Y,af,-⟩:=kc2 O;go_wp2_with first
    | (go_at_call 40
       refine hX.mono ?_;rintro e E ⟨cs,rfl,ac,hP⟩;have HP:=χ hP;obtain⟨b,c,I,-⟩:∃b c,cs=[.int .i64 x.kd,.int .i64 x.n,.slice b x.l.length c]∧True:=Be;subst I;have ah:=am E (.cells #[ι x.kd,ι x.n,.slice b x.l.length c] 86);have aj:Below (ν wr) wr (E.alloc (υ x b c)):=(aa.trans (ac.mono aa.size)).trans (ah.mono (aa.trans (ac.mono aa.size)).size);have aE:=(HI.out.B8 Z aj).row;have aW:(E.alloc (υ x b c)).heap[E.heap.size]? =some (.cells ([.int .i64 x.kd,.int .i64 x.n,.slice b x.l.length c]:List Value).toArray 86 (0,0)):=Zh E 86 [ι x.kd,ι x.n,.slice b x.l.length c]
       clear hP)
    | (at_builtin
       refine dU _ rfl _ _ 84 86 _ 3 40 underlying84 gE rfl φ φ rfl _ k xs rfl aE (ν E) [ι x.kd,ι x.n,.slice b x.l.length c] rfl aW rfl (by intro u hu;simp only[List.mem_cons,List.not_mem_nil,or_false] at hu;rcases hu with rfl | rfl | rfl <;> rfl) a9 ?_;intro g5 a0 V H h2 h3 h4;have J:z ak 86 3 l w V _ (k+1) _:=HI.out.push Z hx aa.size aj (Z _ _ E _ _ _ HP.out (fun q hq i=>ah.cell (p:=κ q i) hq.2) (fun q hq=>⟨hq.1,Za hq.2 ah.size⟩)) rfl H h2 h3;have HN:=χ J
       clear J H h2 h3 h4 aW aE ah aj ac hX)
   go_roundw
   case' rel=>exact⟨k+1,_,by go_num,ω,HN.out⟩
   case' measure=>simp[intOf];omega
  ·have L:decide (k < l.length)=false:=Zn ad
   obtain rfl:k=l.length:=ω;have HI:=χ hI;obtain⟨av,cv,rfl,-⟩:=hI.row.form;clear hI;go_wp2_with fail;go_ret;exact HI.out.done Z
def d5 (r:Option ih) (w:World) (e:Ending) (w':World):Prop:=Below w.heap.size w w'∧match r with
 | some x=>∃a c,e= .returned (.tuple #[.agg #[.int .i64 x.kind,.int .i64 x.fn,.slice a x.args.length c],.bool true])∧ap (Nw w.heap.size w') w' x.args a 0∧x.args.length≤c∧c≤maxLen
 | none=>e= .returned (.tuple #[.agg #[.int .i64 0,.int .i64 0,.slice none 0 0],.bool false])
def jB (p:List Fn) (F:ba):Bool:=match F.fs.getLast? with
 | none=>false
 | some l=>match p[l.fn]? with
   | none=>false
   | some fn=>(fn.ns[l.nd]?).isSome && decide (F.fs.length≤1000) && decide (l.dn.length≤1000) && l.dn.all small
def na {p F} (h:F.st≠2):fP p F=none:=by unfold fP;rw[if_pos h]
section
variable {o:ab} {w w':World} {g c:Nat} {F:ba} {va fa pa:Option Addr} {vc fc pc:Nat} {xs ys:List a5} {x:a5} {p:List Fn}
def Bf {p:Prop} (h:p:=by
 go_enter func95,ntmps95;go_wp2_with (go_at_call 126;refine γ aE ?_)
 exact Zl (v:= .tuple #[.agg #[ι 0,ι 0,ζ],Δ]) (by simp[results,results95,go_sem,hp.c 0 rfl,hp.c 1 rfl,hp.c 2 rfl]) rfl ⟨HB.out,rfl⟩):p:=h
def u2 (z:Wf o w) (h:a1 o w g c F) (h2:F.st≠2):Calls prog 95 #[π g] w (d5 (fP p F) w):=by
 rw[na h2];obtain⟨w1,aP,-,b1,O⟩:=al1 w 149 [ι 0,ι 0,ζ];have Y:=(tB z b1).kp;obtain⟨_,_,_,_,_,H⟩:=h.kept Y b1.size trivial;have aE:=he H;refine zg ?_;intro y0 f0 y1 f1 y2 f2 hp HB;have hq:(F.st == 2)=false:=by simp[h2]
 clear h H Y O h2;exact Bf
def sO (w):Calls prog 95 #[.pointer none] w (d5 none w):=by obtain⟨w1,aP,-,b1,O⟩:=al1 w 149 [ι 0,ι 0,ζ];have aE:=q1 w1;refine zg ?_;intro y0 f0 y1 f1 y2 f2 hp HB;clear O;exact Bf
def zh {p q:Prop} (k:q) (h:Zq q→p:=by
 intro mq;obtain⟨wb,J⟩:∃u,G.alloc (.cells #[ι nd.op,ι nd.n,.slice la nd.l.length lc] 141)=u:=⟨_,rfl⟩;have aw:Below (ν w1) w1 wb:=by rw[←J];exact aa.alloc aa.size _
 have kb:A wb (ν G) 141 [ι nd.op,ι nd.n,.slice la nd.l.length lc]:=by rw[←J];exact Zh _ _ _
 rw[J];have az:G.heap.size≠w.heap.size:=by have:=aa.size;omega
 revert wb J aw kb az
 exact mq.u):p:=h ⟨k⟩
def xy (z:Wf o w) (h:a1 o w g c F) (hc:bz o w c p) (h2:F.st=2) (hb:jB p F=true):Calls prog 95 #[π g] w (d5 (fP p F) w):=by
 obtain⟨w1,aP,-,b1,O⟩:=al1 w 149 [ι 0,ι 0,ζ];have Y:=(tB z b1).kp;obtain⟨va,vc,fa,fc,xs,h0⟩:=h;have H:=h0.kept Y b1.size trivial;obtain⟨pa,pc,aB⟩:=hc.kept Y b1.size;have ae:=z.below b1;have aE:=he H;rw[h2] at aE;unfold jB at hb;have aF:fP p F=match F.fs.getLast? with
  | none=>none
  | some l=>let x:=f6 p l.fn l.nd;if x.op=14 then some ⟨2,x.n,l.dn⟩ else if x.op=24 then some ⟨3,0,l.dn⟩ else some ⟨1,0,[]⟩:=by
  unfold fP;rw[if_neg (by simp[h2])];rfl
 rw[aF];clear aF;cases hl:F.fs.getLast? with
 | none=>rw[hl] at hb;cases hb
 | some l=>
   rw[hl] at hb;dsimp only at hb ⊢;cases hf:p[l.fn]? with
   | none=>rw[hf] at hb;cases hb
   | some fn=>
     rw[hf] at hb;simp only[Bool.and_eq_true,decide_eq_true_eq] at hb;obtain⟨⟨⟨hn,af⟩,aa⟩,ac⟩:=hb;obtain⟨nd,hn⟩:=Option.isSome_iff_exists.1 hn;rw[jo hf hn];obtain⟨r,e⟩:=gd hl;rw[H.fs] at e;obtain⟨ys,x,rfl,-,rfl⟩:=hZ e;obtain⟨L,rfl⟩:=H.Ci ξ;have aj:ys.length < 100000:=by rw[H.fs] at af;simp at af;omega
     have aS:=iA ae H aB hf hn aj;obtain⟨bp,e',aL,-⟩:=h0.frame (k:=ys.length) (x:=x) ξ;injection e' with e';injection e' with e';subst e'
     have HX:=χ (fun G (hb:Below (ν w1) w1 G)=>(show G.cell? (κ L (ys.length*4+3))=some (.slice x.da x.f.dn.length x.dc)∧Calls prog 128 #[.slice x.da x.f.dn.length x.dc] G (dX ak 3 x.f.dn G) from by
       have bg:=(tB ae hb).kp;have h2:=H.kept bg hb.size trivial;obtain⟨bp,e,-,-,q,-⟩:=h2.frame (k:=ys.length) (x:=x) ξ;injection e with e;injection e with e;subst e
       exact⟨q 3 _ rfl,wC x.f.dn x.da x.dc G (cE.1 h2.BK.C8) ω (fun t ht=>List.all_eq_true.1 ac t ht)⟩))
     have HK:=χ O;clear h0 H hc aB Y O h2 hf hn hl e af aa ac;have ag:∀E,Below (ν w1) w1 E→A E (ν w) 149 [ι 0,ι 0,ζ]:=fun E hb=>HK.out.BE hb;have bC:=HK.out.lt;have aG:∀(k n:Int) (args:List VT) (E:World) (a:Option Addr) (c:Nat),Below (ν w1) w1 E→ap (Nw (ν w1) E) E args a 0→args.length≤c→c≤maxLen →
       d5 (some ⟨k,n,args⟩) w (.returned (.tuple #[.agg #[ι k,ι n,.slice a args.length c],Υ])) (σ3 E (ν w) (ι k) (ι n) (.slice a args.length c)):=by
      intro k n args E a c hb hr H h2;refine⟨cU (b1.trans (hb.mono b1.size)) (Zc _) _ _ _,a,c,rfl,(hr.et fun g' hg q=>Zd (w:=E) ?_).more fun g' hg=>⟨Zp b1.size hg.1,by simpa [World.setCell] using hg.2⟩,H,h2⟩;have ay:g'≠w.heap.size:=by have:=hg.1;omega
      rw[Below.heap_setCell _ _ _ _ ay,Below.heap_setCell _ _ _ _ ay,Below.heap_setCell _ _ _ _ ay]
     have Z:=χ aG;have aD:=χ ag;generalize bc:ys.length*4=n4 at *;generalize hyn:ys.length=yn at *;clear aG ag
     by_cases ai:nd.op=14
     ·rw[if_pos ai]
      have hq:(nd.op == 14)=true:=by simp[ai]
      clear ai;go_enter func95,ntmps95;go_upto_region 6 with first
       | (go_at_call 126;refine γ aE ?_)
       | (go_at_call 127;refine aS.mono ?_;rintro e G ⟨aa,bp,la,lc,e,rfl,bw,bu,-⟩;injection e with e;injection e with e _ _;subst e;unfold bT)
      refine zh ?_;intro wb J aw kb az;clear J aa aS aE aP;obtain⟨wd,ax⟩:∃u,wb.drew=u:=⟨_,rfl⟩;have aM:Below (ν w1) w1 wd:=by rw[←ax];exact aw.drew
      have kd:A wd (ν G) 141 [ι nd.op,ι nd.n,.slice la nd.l.length lc]:=by rw[←ax];exact kb
      obtain⟨d3,bl⟩:=HX.out wd aM;have aH:=kd.lt;have aA:∀E,Below (ν w1) w1 E→E.cell? (κ L (n4+3))=some (.slice x.da x.f.dn.length x.dc):=fun E hb=>(HX.out E hb).1;have aJ:=χ aA;have aO:wd.cell? (κ (ν G) 1)=ι nd.n∧wd.cell? (κ L (n4+3))=some (.slice x.da x.f.dn.length x.dc):=⟨kd.c 1 rfl,d3⟩;clear d3 kb aA;refine bj [(0,true),(1,true),(2,true),(3,true),(4,true),(5,true),(6,false),(7,true),(8,false),(9,false)] (fun w'=>w'.cell? (κ (ν G) 1)=ι nd.n∧w'.cell? (κ L (n4+3))=some (.slice x.da x.f.dn.length x.dc)) ψ ψ (by rw[ax];exact aO) ?_;rw[ax];clear ax;iterate 6 (refine wpC_t ?_;try go_frame)
      refine xP ?_;intro K I;go_at_call 128;refine bl.mono ?_;rintro e M ⟨a3,c3,rfl,ah,aK,a9,am⟩;have ad:Below (ν w1) w1 M:=aM.trans (ah.mono aM.size);have aR:M.cell? (κ (ν G) 1)=ι nd.n∧M.cell? (κ L (n4+3))=some (.slice x.da x.f.dn.length x.dc):=⟨(ah.cell (p:=κ (ν G) 1) aH).trans aO.1,aJ.out M ad⟩;refine I _ _ _ Φ (fun _=>aR) ?_;clear I K;try go_frame
      refine wpC_t ?_;try go_frame
      have an:ap (Nw (ν w1) M) M x.f.dn a3 0:=cE.2 (aK.et (fun _ _ _=>rfl) (fun g' hg=>⟨Zp aM.size hg.1,hg.2⟩) fun t cs hc=>by
        obtain⟨v0,v1,v2,q1,q2⟩:=hc
        exact⟨v0,v1,v2,q1,q2.more fun g' hg=>⟨Zp aM.size hg.1,hg.2⟩⟩)
      have U:=aD.out _ ad;obtain⟨r0,f0,r1,f1,r2,f2,-⟩:=kb2 U;have hp:=cA U (ι 2) (ι nd.n) (.slice a3 x.f.dn.length c3);have ao:=Z.out 2 (nd.n) x.f.dn M a3 c3 ad an a9 am;have aq:=χ ao;clear ao;have aC:(σ3 M (ν w) (ι 2) (ι nd.n) (.slice a3 x.f.dn.length c3):World).cell? (κ (ν G) 1)=ι nd.n∧(σ3 M (ν w) (ι 2) (ι nd.n) (.slice a3 x.f.dn.length c3):World).cell? (κ L (n4+3))=some (.slice x.da x.f.dn.length x.dc):=by
       have hh:∀b,b≠w.heap.size→(σ3 M (ν w) (ι 2) (ι nd.n) (.slice a3 x.f.dn.length c3):World).heap[b]? =M.heap[b]? :=fun b hb=>by rw[Below.heap_setCell _ _ _ _ hb,Below.heap_setCell _ _ _ _ hb,Below.heap_setCell _ _ _ _ hb]
       exact⟨(Zd (w:=M) (hh (ν G) az)).trans aR.1,(Zd (w:=M) (hh L (Yy aL))).trans aR.2⟩
      clear aK an bl;refine xP ?_;intro K I;refine xW ?_;clear I K;try go_frame
      refine xY ?_;go_wp2_with fail;exact Zl (v:= .tuple #[.agg #[ι 2,ι nd.n,.slice a3 x.f.dn.length c3],Υ]) (by simp[results,results95,go_sem,hp.c 0 rfl,hp.c 1 rfl,hp.c 2 rfl]) rfl aq.out
     ·rw[if_neg ai]
      have hq:(nd.op == 14)=false:=by simp[ai]
      clear ai
      by_cases aI:nd.op=24
      ·rw[if_pos aI]
       have be:(nd.op == 24)=true:=by simp[aI]
       clear aI;go_enter func95,ntmps95;go_upto_region 4 with first
        | (go_at_call 126;refine γ aE ?_)
        | (go_at_call 127;refine aS.mono ?_;rintro e G ⟨aa,bp,la,lc,e,rfl,bw,bu,-⟩;injection e with e;injection e with e _ _;subst e;unfold bT)
       refine zh ?_;intro wb J aw kb az;clear J aa aS aE aP;have y0:=kb.c 0 rfl;obtain⟨d3,bl⟩:=HX.out wb aw;go_wp2_with (go_at_call 128;refine bl.mono ?_;rintro e M ⟨a3,c3,rfl,ah,aK,a9,am⟩;have ad:Below (ν w1) w1 M:=aw.trans (ah.mono aw.size);have U:=aD.out _ ad;have r0:=U.c 0 rfl;have r1:=U.c 1 rfl;have r2:=U.c 2 rfl;have f0:=U.fz 0;have f1:=U.fz 1;have f2:=U.fz 2)
       have an:ap (Nw (ν w1) M) M x.f.dn a3 0:=cE.2 (aK.et (fun _ _ _=>rfl) (fun g' hg=>⟨Zp aw.size hg.1,hg.2⟩) fun t cs hc=>by
         obtain⟨v0,v1,v2,q1,q2⟩:=hc
         exact⟨v0,v1,v2,q1,q2.more fun g' hg=>⟨Zp aw.size hg.1,hg.2⟩⟩)
       have hp:=cA U (ι 3) (ι 0) (.slice a3 x.f.dn.length c3);have ao:=Z.out 3 0 x.f.dn M a3 c3 ad an a9 am;exact Zl (v:= .tuple #[.agg #[ι 3,ι 0,.slice a3 x.f.dn.length c3],Υ]) (by simp[results,results95,go_sem,hp.c 0 rfl,hp.c 1 rfl,hp.c 2 rfl]) rfl ao
      ·rw[if_neg aI]
       have be:(nd.op == 24)=false:=by simp[aI]
       clear aI;go_enter func95,ntmps95;go_upto_region 4 with first
        | (go_at_call 126;refine γ aE ?_)
        | (go_at_call 127;refine aS.mono ?_;rintro e G ⟨aa,bp,la,lc,e,rfl,bw,bu,-⟩;injection e with e;injection e with e _ _;subst e;unfold bT)
       refine zh ?_;intro wb J aw kb az;clear J aa aS aE aP;have y0:=kb.c 0 rfl;have U:=aD.out _ aw;obtain⟨r0,f0,r1,f1,r2,f2,-⟩:=kb2 U;have hp:=cA U (ι 1) (ι 0) (.slice none 0 0);have ao:=Z.out 1 0 [] wb none 0 aw (cE.2 (Ym _ _ _ _ _)) (Zc _) (Z2 _);go_wp2_with fail;exact Zl (v:= .tuple #[.agg #[ι 1,ι 0,ζ],Υ]) (by simp[results,results95,go_sem,hp.c 0 rfl,hp.c 1 rfl,hp.c 2 rfl]) rfl ao
end
end
section
def uH (B:Nat) (v:Value) (wr:World) (g:Nat):Prop:=B≤g∧g < wr.heap.size∧v.ownBlock≠some g
structure ck {α:Type} (P:(Nat→Prop)→World→α→List Value→Prop) (an:TypeId) (sz:Nat) (l:List α) (B:Nat) (wr:World) (v:Value) (k:Nat) (xs:List Value):Prop where
 row:aQ wr an sz v k xs
 rd:aD (P (uH B v wr) wr) sz (l.take k) xs
 own:∀q,v.ownBlock=some q→B≤q
 size:B≤wr.heap.size
section
variable {α:Type} {P:(Nat→Prop)→World→α→List Value→Prop} {an:TypeId} {sz k B:Nat} {l:List α} {w wr w1 G E:World} {v:Value} {xs ys:List Value} {x:α} {g cap:Nat}
def ck.start (P an sz) (l:List α) (w) (hB:B≤w.heap.size):ck P an sz l B w (.slice none 0 0) 0 []:=⟨aQ.nil _ _ _,Ya _ _,(fun q h=>by cases h),hB⟩
def ck.et (h:ck P an sz l B wr v k xs) (hP:bX P) (hs:wr.heap.size≤w1.heap.size) (hb:∀q,B≤q→q < wr.heap.size→w1.heap[q]? =wr.heap[q]?):ck P an sz l B w1 v k xs:=
 ⟨h.row.et fun q hq ad=>hb q (h.own q hq) ad,h.rd.mono fun _ _ hx=>hP _ _ _ _ _ _ hx (fun g hg _=>Zd (w:=wr) (hb g hg.1 hg.2.1)) (fun _ hg=>⟨hg.1,Za hg.2.1 hs,hg.2.2⟩),h.own,Zp h.size hs⟩
def ck.push (h:ck P an sz l B wr v k xs) (hP:bX P) (hx:l[k]? =some x) (ae:wr.heap.size≤w1.heap.size) (aa:Below (ν wr) wr G) (hp:P (Nw (ν w1) G) G x ys) (aj:ys.length=sz)
  (hr:aQ E an sz (.slice (Γ g) (k+1) cap) (k+1) (xs ++ ys)) (hg:G.grownBy E v.ownBlock) (ha:v.ownBlock=some g∨g=G.heap.size) :
  ck P an sz l B E (.slice (Γ g) (k+1) cap) (k+1) (xs ++ ys):=by
 have hs:=hg.size;have a':=aa.size;have A:=h.size;refine zR ?_;intro bC af aJ;refine⟨hr,?_,fun q hq=>?_,ω⟩
 ·rw[List.take_add_one,hx]
  exact zT
 ·obtain rfl:g=q:=by simpa [Value.ownBlock] using hq
  rcases ha with e | e
  ·exact h.own _ e
  ·omega
def ck.done (h:ck P an sz l B wr v l.length xs) (hP:bX P):∃a' aA,v= .slice a' l.length aA∧aU (P (Nw B wr) wr) (Nw B wr) wr sz l a'∧l.length≤aA∧aA≤maxLen:=by obtain⟨a,cap,rfl,e1,e2,e3⟩:=h.row.form;refine⟨a,cap,rfl,fun j y hy=>?_,e1,e2⟩;exact zU
end
def gZ (ok:Nat→Prop) (w:World) (x:Nd) (cs:List Value):Prop:=∃(la:Option Addr) (cap:Nat),cs=[.int .i64 x.op,.int .i64 x.n,.slice la x.l.length cap]∧x.l.length≤cap∧cap≤maxLen∧O ok w x.l la∧ag x.op∧ag x.n
def ev (ok:Nat→Prop) (w:World) (f:Fn) (cs:List Value):Prop:=∃(Y:Option Addr) (cap:Nat),cs=[.int .i64 f.ps,.slice Y f.ns.length cap]∧f.ns.length≤cap∧cap≤maxLen∧aV ok w f.ns Y∧ag f.ps
def ho:bX gZ:=fun ok ok' w w' x cs h hc az=>by
 obtain⟨la,cap,H,h2,h3,h4,h5⟩:=h
 exact⟨la,cap,H,h2,h3,(h4.et hc).more az,h5⟩
def g5:bX ev:=fun ok ok' w w' x cs h hc az=>by
 obtain⟨la,cap,H,h2,h3,h4,h5⟩:=h
 exact⟨la,cap,H,h2,h3,(h4.et hc).more az,h5⟩
def mf {ok w l a}:aV ok w l a↔aU (gZ ok w) ok w 3 l a:=by
 constructor
 ·intro h j x hx
  obtain⟨g,o,la,cap,H,h2,h3,h4,h5,h6⟩:=h j x hx;refine⟨g,o,_,H,h2,rfl,fun i hi=>?_,la,cap,rfl,h6⟩;have:i=0∨i=1∨i=2:=ω;rcases this with rfl | rfl | rfl
  ·exact h3
  ·exact h4
  ·exact h5
 ·intro h j x hx
  obtain⟨g,o,cs,H,h2,h3,h4,la,cap,rfl,h5⟩:=h j x hx;exact⟨g,o,la,cap,H,h2,h4 0 ω,h4 1 ω,h4 2 ω,h5⟩
def nZ {ok w l a}:cD ok w l a↔aU (ev ok w) ok w 2 l a:=by
 constructor
 ·intro h j x hx
  obtain⟨g,o,la,cap,H,h2,h3,h4,h5⟩:=h j x hx;refine⟨g,o,_,H,h2,rfl,fun i hi=>?_,la,cap,rfl,h5⟩;have:i=0∨i=1:=ω;rcases this with rfl | rfl
  ·exact h3
  ·exact h4
 ·intro h j x hx
  obtain⟨g,o,cs,H,h2,h3,h4,la,cap,rfl,h5⟩:=h j x hx;exact⟨g,o,la,cap,H,h2,h4 0 ω,h4 1 ω,h5⟩
def oP {ok w l a}:O ok w l a→aU (fun x cs=>cs=[.int .i64 x]∧ag x) ok w 1 l a:=by intro h j x hx;obtain⟨g,o,H,h2,h3,h4⟩:=h j x hx;refine⟨g,o,_,H,h2,rfl,fun i hi=>?_,rfl,h4⟩;obtain rfl:i=0:=ω;rw[Nat.mul_one];exact h3
def wz:(prog.info? 141).map (fun i=>(i.zero,i.size,i.bytes))=some (some (.agg #[ι 0,ι 0,ζ]),3,40):=by kernel_rfl
def uz:(prog.info? 144).map (fun i=>(i.zero,i.size,i.bytes))=some (some (.agg #[ι 0,ζ]),2,32):=by kernel_rfl
def vq {ok w l a} (h:aU dB ok w 1 l a):O ok w l a:=by intro j x hx;obtain⟨g,o,cs,H,h2,h3,h4,rfl,h6⟩:=h j x hx;have:=h4 0 ω;rw[Nat.mul_one] at this;exact⟨g,o,H,h2,this,h6⟩
structure kt (f:Fn) (sb:Nat) (E wr:World) (v:Value) (k:Nat) (xs:List Value):Prop where
 blk:A wr sb 144 [.int .i64 f.ps,v]
 cp:ck gZ 141 3 f.ns E.heap.size wr v k xs
 fr:Fr (·=sb) E wr
def Bg {p q:Prop} (k:q) (h:Zq q→p:=by
 intro mq;have bz:(Value.slice va k vc).ownBlock≠some sb:=bq J az.row φ;have be:(Value.slice va k vc).ownBlock≠some wr.heap.size:=fun e=>by have:=HI.out.cp.row.lt e;omega
 have aG:w7.heap[sb]? =w6.heap[sb]? :=h2.block sb J.lt fun e=>bz e.symm;have aB:w7.heap[wr.heap.size]? =w6.heap[wr.heap.size]? :=h2.block (ν wr) ω fun e=>be e.symm;revert bz be aG aB
 exact mq.u):p:=h ⟨k⟩
def Bh {p:Prop} (h:p:=by
 have e1:Fr (·=sb) E w6:=HI.out.fr.same (ZA aw);have e2:Fr (·=sb) E w7:=e1.trans (Yj (S:=fun b=>(Value.slice va k vc).ownBlock=some b) h2 fun q hq=>.inl hq) (fun q hq e=>by have:=HI.out.cp.own q e;omega)
 exact e2.same (Z4 (.inl rfl))):p:=h
def uZ (f Y cap w) (hf:ev (ο w) w f [ι f.ps,.slice Y f.ns.length cap]) (aI:f.ns.length≤1000) (a3:∀x∈f.ns,x.l.length≤1000) :
  Calls prog 87 #[.agg #[ι f.ps,.slice Y f.ns.length cap]] w (cf ev f w):=by
 obtain⟨bG,aA,e,a9,aS,aP,ae⟩:=hf;simp only[List.cons.injEq,and_true,true_and,Value.slice.injEq] at e;obtain⟨rfl,rfl⟩:=e;obtain⟨w1,bl,bf,a1,O⟩:=al1 w 144 [ι f.ps,.slice Y f.ns.length cap];obtain⟨G,bo,bh,ak,Z,au⟩:=al2 a1 bf 144 [ι 0,ζ];replace O:=au _ _ _ O;clear au;obtain⟨p0,p1,-⟩:=kc1 O;have bC:w.heap.size < G.heap.size:=O.lt;obtain⟨E,bt,-,bg,k2,au⟩:=al2 ak bh 144 [ι f.ps,ζ];replace O:=au _ _ _ O;replace Z:=au _ _ _ Z;clear au;have HN:=χ (mf.1 aP);rw[←bh] at k2;have bE:G.heap.size < E.heap.size:=k2.lt;have bF:w.heap.size+1 < G.heap.size:=ω;have bc:=χ (⟨k2,ck.start gZ 141 3 f.ns E (Zc _),Y8 _ _⟩:kt f (ν G) E E (.slice none 0 0) 0 []);have a0:=χ O;have aX:=χ Z;have aD:=χ bg;have aF:=χ bt;clear aP Z k2 bh bt O;go_enter func87,ntmps87;go_wp2_with fail;rw[aF.out];clear aF bo bl;generalize hsbe:G.heap.size=sb at *;go_loopw [5,12] (fun _ ix wr=>∃(k:Nat) (v:Value) (xs:List Value),ix= .int .i64 (k:Nat)∧k≤f.ns.length∧kt f sb E wr v k xs) (fun _ ix _=>f.ns.length - (intOf ix).toNat)
 case atStart=>exact⟨0,_,[],rfl,Z2 _,bc.out⟩
 case round=>
  obtain⟨k,v,xs,rfl,hk,hI⟩:=hrel
  by_cases ad:k < f.ns.length
  ·have hx:f.ns[k]? =some f.ns[k]:=Zg ad
   have ay:=Z8 ad;generalize f.ns[k]=x at hx ay;obtain⟨g,U,cs,rfl,hg,aq,hc,la,lc,rfl,bw,bu,bx,aH,bA⟩:=HN.out k x hx;obtain⟨va,vc,rfl,aZ,aT,-⟩:=hI.cp.row.form;have z:∀q i,q < w.heap.size→wr.cell? (κ q i)=w.cell? (κ q i):=fun q i hq=>(Zd (w:=E) (hI.fr.block q (Za hq aD.out.size) ω)).trans (aD.out.cell (p:=κ q i) hq);have aL:=(z g (U+k*3) hg).trans (hc 0 ω);have aR:=(z g (U+k*3+1) hg).trans (hc 1 ω);have aV:=(z g (U+k*3+2) hg).trans (hc 2 ω);have L:decide (k < f.ns.length)=true:=Zy ad;have a7:sb < wr.heap.size:=hI.blk.lt;have a8:x.l.length≤1000:=a3 x ay;obtain⟨M,aJ⟩:∃u,wr.alloc (.cells #[ι x.op,ι x.n,.slice la x.l.length lc] 141)=u:=⟨_,rfl⟩;have ah:Below (ν wr) wr M:=by rw[←aJ];exact am wr _
   have kb:A M (ν wr) 141 [ι x.op,ι x.n,.slice la x.l.length lc]:=by rw[←aJ];exact Zh _ _ _
   obtain⟨wd,ax⟩:∃u,M.drew=u:=⟨_,rfl⟩;have aM:Below (ν wr) wr wd:=by rw[←ax];exact ah.drew
   have kd:A wd (ν wr) 141 [ι x.op,ι x.n,.slice la x.l.length lc]:=by rw[←ax];exact kb
   have aO:wd.cell? (κ sb 1)=some (.slice va k vc)∧wd.cell? (κ (ν wr) 0)=ι x.op∧wd.cell? (κ (ν wr) 1)=ι x.n∧wd.cell? (κ (ν wr) 2)=some (.slice la x.l.length lc):=⟨(aM.cell (p:=κ sb 1) a7).trans (hI.blk.c 1 rfl),kd.c 0 rfl,kd.c 1 rfl,kd.c 2 rfl⟩;have bp:aU dB (ο wd) wd 1 x.l la:=oP ((bx.et fun q hq i=>(aM.cell (p:=κ q i) Ω).trans (z q i hq)).more fun q hq=>by have:=aM.size;omega);have bB:=fI x.l la lc wd bp ω;have aa:=kd.lt;have HI:=χ hI;have a9:k≤10000000000:=ω;have HX:=χ (⟨hx,aH,bA⟩:f.ns[k]? =some x∧ag x.op∧ag x.n);have aE:wr.heap.size≤wd.heap.size:=aM.size;clear hc bx hI z kb bp hx ay aH bA kd;go_upto_region 5 with fail;refine bj [(0,true),(1,true),(2,true),(3,true),(4,true),(5,true),(6,true),(7,true),(8,false),(9,true),(10,false),(11,false),(12,false),(13,false)] (fun w'=>w'.cell? (κ sb 1)=some (.slice va k vc)∧w'.cell? (κ (ν wr) 0)=ι x.op∧w'.cell? (κ (ν wr) 1)=ι x.n∧w'.cell? (κ (ν wr) 2)=some (.slice la x.l.length lc)) ψ ψ (by rw[ax];exact aO) ?_;rw[ax];clear aJ ax;iterate 8 (refine wpC_t ?_;try go_frame)
   refine xP ?_;intro K I;go_at_call 86;refine bB.mono ?_;rintro e V ⟨a4,c4,rfl,ai,aY,a6,bi⟩;have aC:V.cell? (κ sb 1)=some (.slice va k vc)∧V.cell? (κ (ν wr) 0)=ι x.op∧V.cell? (κ (ν wr) 1)=ι x.n∧V.cell? (κ (ν wr) 2)=some (.slice la x.l.length lc):=⟨(ai.cell (p:=κ sb 1) Ω).trans aO.1,(ai.cell (p:=κ (ν wr) 0) aa).trans aO.2.1,(ai.cell (p:=κ (ν wr) 1) aa).trans aO.2.2.1,(ai.cell (p:=κ (ν wr) 2) aa).trans aO.2.2.2⟩;refine xW ?_;clear I K;try go_frame
   refine wpC_t ?_;try go_frame
   refine xP ?_;intro K I;have aj:=am V (.cells #[ι x.op,ι x.n,.slice a4 x.l.length c4] 141);have aW:(V.alloc (.cells #[ι x.op,ι x.n,.slice a4 x.l.length c4] 141)).heap[V.heap.size]? =some (.cells ([.int .i64 x.op,.int .i64 x.n,.slice a4 x.l.length c4]:List Value).toArray 141 (0,0)):=Zh V 141 _;have ba:wr.heap.size < V.heap.size:=Za aa ai.size;have ap:(V.alloc (.cells #[ι x.op,ι x.n,.slice a4 x.l.length c4] 141)).cell? (κ sb 1)=some (.slice va k vc)∧(V.alloc (.cells #[ι x.op,ι x.n,.slice a4 x.l.length c4] 141)).cell? (κ (ν wr) 0)=ι x.op∧(V.alloc (.cells #[ι x.op,ι x.n,.slice a4 x.l.length c4] 141)).cell? (κ (ν wr) 1)=ι x.n∧(V.alloc (.cells #[ι x.op,ι x.n,.slice a4 x.l.length c4] 141)).cell? (κ (ν wr) 2)=some (.slice la x.l.length lc):=⟨(aj.cell (p:=κ sb 1) Ω).trans aC.1,(aj.cell (p:=κ (ν wr) 0) ba).trans aC.2.1,(aj.cell (p:=κ (ν wr) 1) ba).trans aC.2.2.1,(aj.cell (p:=κ (ν wr) 2) ba).trans aC.2.2.2⟩;refine I _ _ _ Φ (fun _=>ap) ?_;clear I K;try go_frame
   have aw:Below (ν wr) wr (V.alloc (.cells #[ι x.op,ι x.n,.slice a4 x.l.length c4] 141)):=(aM.trans (ai.mono aM.size)).trans (aj.mono (Yx ba));have az:=HI.out.cp.et ho aw.size (fun q _ hq=>aw.block q hq);have bv:gZ (Nw (ν wd) (V.alloc (.cells #[ι x.op,ι x.n,.slice a4 x.l.length c4] 141))) (V.alloc (.cells #[ι x.op,ι x.n,.slice a4 x.l.length c4] 141)) x [ι x.op,ι x.n,.slice a4 x.l.length c4]:=⟨a4,c4,rfl,a6,bi,(vq (aY.et (fun q hq i=>aj.cell (p:=κ q i) hq.2) (fun q hq=>⟨hq.1,Za hq.2 aj.size⟩) (fun _ _ h=>h))),HX.out.2⟩;have bD:V.heap.size < (V.alloc (.cells #[ι x.op,ι x.n,.slice a4 x.l.length c4] 141)).heap.size:=by simp
   generalize (V.alloc (.cells #[ι x.op,ι x.n,.slice a4 x.l.length c4] 141))=w6 at *;refine aN rfl (fun K I=>?_);refine ij _ (by rfl) _ _ 142 141 _ 3 40 underlying142 wz rfl φ φ (by rfl) (.slice va k vc) _ _ (by rfl) az.row (ν V) [ι x.op,ι x.n,.slice a4 x.l.length c4] (by rfl) aW rfl (by intro u hu;simp only[List.mem_cons,List.not_mem_nil,or_false] at hu;rcases hu with rfl | rfl | rfl <;> rfl) a9 ?_;intro g7 aQ w7 H h2 h3 h4 h5;have J:A w6 sb 144 [ι f.ps,.slice va k vc]:=HI.out.blk.BE aw;refine Bg ?_;intro bz be aG aB;have bb:w7.cell? (κ sb 1)=some (.slice va k vc)∧w7.cell? (κ (ν wr) 0)=ι x.op∧w7.cell? (κ (ν wr) 1)=ι x.n∧w7.cell? (κ (ν wr) 2)=some (.slice la x.l.length lc):=⟨(Zd (w:=w6) aG).trans ap.1,(Zd (w:=w6) aB).trans ap.2.1,(Zd (w:=w6) aB).trans ap.2.2.1,(Zd (w:=w6) aB).trans ap.2.2.2⟩;refine I _ _ _ Φ (fun _=>bb) ?_;clear I K;refine xR ?_;intro K I;refine I _ _ _ Φ (fun _=>bb) ?_;clear I K;try go_frame
   have a5:=HI.out.cp.push ho HX.out.1 aE aw bv rfl H h2 h3;have ab:A w7 sb 144 [ι f.ps,.slice va k vc]:=aG.trans J;have f7:=ab.fz 1;have ac:kt f sb E (σ w7 sb 1 (.slice (Γ g7) (k+1) aQ)) (.slice (Γ g7) (k+1) aQ) (k+1) (xs ++ [.int .i64 x.op,.int .i64 x.n,.slice a4 x.l.length c4]):=by refine⟨ab.set 1 _,a5.et ho (by simp[World.setCell]) (fun q hq _=>Z0 _ _ _ _ Ω),?_⟩;exact Bh
   have bd:=χ ac;clear H h2 h3 h4 h5 az a5 bv aW ac J ab aY;refine xY ?_;go_wp2_with fail;go_roundw
   case' rel=>exact⟨k+1,_,_,by go_num,ω,bd.out⟩
   case' measure=>simp[intOf];omega
  ·have L:decide (k < f.ns.length)=false:=Zn ad
   obtain rfl:k=f.ns.length:=ω;obtain⟨va,vc,rfl,aK,aZ,aT⟩:=hI.cp.done ho;obtain⟨c0,c1,-⟩:=kc1 hI.blk;have af:A wr (η w) 144 [ι 0,ζ]:=(hI.fr.block (η w) aX.out.lt ω).trans aX.out;obtain⟨r0,f0,r1,f1,-⟩:=kb1 af;have hp:=(af.set 0 (ι f.ps)).set 1 (.slice va f.ns.length vc);have ao:Below (ν w) w wr:=aD.out.trans (Yh hI.fr (ν w) (fun q hq e=>by omega) aD.out.size)
   have a':=χ (show cf ev f w (.returned (.agg #[ι f.ps,.slice va f.ns.length vc])) (σ2 wr (η w) (ι f.ps) (.slice va f.ns.length vc)) from by
     refine⟨[.int .i64 f.ps,.slice va f.ns.length vc],rfl,(ao.setCell Ω _).setCell Ω _,va,vc,rfl,aZ,aT,?_,ae⟩;refine mf.2 (aK.et (fun q hq i=>Zd (w:=wr) ?_) (fun q hq=>⟨by have:=aD.out.size;have:=hq.1;omega,by simpa [World.setCell] using hq.2⟩) fun x cs hc=>ho _ _ _ _ _ _ hc (fun q hq i=>Zd (w:=wr) ?_) (fun q hq=>⟨by have:=aD.out.size;have:=hq.1;omega,by simpa [World.setCell] using hq.2⟩))
     ·rw[Below.heap_setCell _ _ _ _ (by have:=hq.1;dsimp only;omega),Below.heap_setCell _ _ _ _ (by have:=hq.1;dsimp only;omega)]
     ·rw[Below.heap_setCell _ _ _ _ (by have:=hq.1;dsimp only;omega),Below.heap_setCell _ _ _ _ (by have:=hq.1;dsimp only;omega)])
   clear hI aK af;go_wp2_with fail;exact Zl (v:= .agg #[ι f.ps,.slice va f.ns.length vc]) (by simp[results,results87,go_sem,hp.c 0 rfl,hp.c 1 rfl]) rfl a'.out
end
structure j8 (p:List Fn) (sb:Nat) (E wr:World) (v:Value) (k:Nat) (xs:List Value):Prop where
 blk:A wr sb 56 [v]
 cp:ck ev 144 2 p E.heap.size wr v k xs
 fr:Fr (·=sb) E wr
def m8 (p:List Fn) (w:World) (e:Ending) (w':World):Prop:=∃a c,e= .returned (.agg #[.slice a p.length c])∧Below w.heap.size w w'∧b0 (Nw w.heap.size w') w' p a c
def qN (p pa pc w) (hP:b0 (ο w) w p pa pc) (aI:p.length≤1000) (aY:∀f∈p,f.ns.length≤1000∧∀x∈f.ns,x.l.length≤1000) :
  Calls prog 58 #[.agg #[.slice pa p.length pc]] w (m8 p w):=by
 obtain⟨w1,bl,bf,a1,O⟩:=al1 w 56 [.slice pa p.length pc];obtain⟨G,bo,bh,ak,Z,au⟩:=al2 a1 bf 56 [ζ];replace O:=au _ _ _ O;clear au;have p0:=O.c 0 rfl;have bC:w.heap.size < G.heap.size:=O.lt;obtain⟨E,bt,-,bg,k2,au⟩:=al2 ak bh 56 [ζ];replace O:=au _ _ _ O;replace Z:=au _ _ _ Z;clear au;have HN:=χ (nZ.1 hP.fs);rw[←bh] at k2;have bE:G.heap.size < E.heap.size:=k2.lt;have bF:w.heap.size+1 < G.heap.size:=ω;have bc:=χ (⟨k2,ck.start ev 144 2 p E (Zc _),Y8 _ _⟩:j8 p (ν G) E E (.slice none 0 0) 0 []);have aX:=χ Z;have aD:=χ bg;have aF:=χ bt;clear hP Z k2 bh bt O;go_enter func58,ntmps58;go_wp2_with fail;rw[aF.out];clear aF bo bl;generalize hsbe:G.heap.size=sb at *;go_loopw [5,9] (fun _ ix wr=>∃(k:Nat) (v:Value) (xs:List Value),ix= .int .i64 (k:Nat)∧k≤p.length∧j8 p sb E wr v k xs) (fun _ ix _=>p.length - (intOf ix).toNat)
 case atStart=>exact⟨0,_,[],rfl,Z2 _,bc.out⟩
 case round=>
  obtain⟨k,v,xs,rfl,hk,hI⟩:=hrel
  by_cases ad:k < p.length
  ·have hx:p[k]? =some p[k]:=Zg ad
   have ay:=Z8 ad;generalize p[k]=x at hx ay;obtain⟨g,U,cs,rfl,hg,aq,hc,Y,nc,rfl,aA,hnm,aP,ae⟩:=HN.out k x hx;obtain⟨va,vc,rfl,aZ,aT,-⟩:=hI.cp.row.form;have z:∀q i,q < w.heap.size→wr.cell? (κ q i)=w.cell? (κ q i):=fun q i hq=>(Zd (w:=E) (hI.fr.block q (Za hq aD.out.size) ω)).trans (aD.out.cell (p:=κ q i) hq);have aL:=(z g (U+k*2) hg).trans (hc 0 ω);have aR:=(z g (U+k*2+1) hg).trans (hc 1 ω);have L:decide (k < p.length)=true:=Zy ad;have a7:sb < wr.heap.size:=hI.blk.lt;obtain⟨M,aJ⟩:∃u,wr.alloc (.cells #[ι x.ps,.slice Y x.ns.length nc] 144)=u:=⟨_,rfl⟩;have ah:Below (ν wr) wr M:=by rw[←aJ];exact am wr _
   have kb:A M (ν wr) 144 [ι x.ps,.slice Y x.ns.length nc]:=by rw[←aJ];exact Zh _ _ _
   obtain⟨wd,ax⟩:∃u,M.drew=u:=⟨_,rfl⟩;have aM:Below (ν wr) wr wd:=by rw[←ax];exact ah.drew
   have kd:A wd (ν wr) 144 [ι x.ps,.slice Y x.ns.length nc]:=by rw[←ax];exact kb
   have aO:wd.cell? (κ sb 0)=some (.slice va k vc)∧wd.cell? (κ (ν wr) 0)=ι x.ps∧wd.cell? (κ (ν wr) 1)=some (.slice Y x.ns.length nc):=⟨(aM.cell (p:=κ sb 0) a7).trans (hI.blk.c 0 rfl),kd.c 0 rfl,kd.c 1 rfl⟩;have ag:ev (ο wd) wd x [ι x.ps,.slice Y x.ns.length nc]:=⟨Y,nc,rfl,aA,hnm,(aP.et fun q hq i=>(aM.cell (p:=κ q i) Ω).trans (z q i hq)).more fun q hq=>(by have:=aM.size;omega),ae⟩;have bB:=uZ x Y nc wd ag (aY x ay).1 (aY x ay).2;have aa:=kd.lt;have HI:=χ hI;have a9:k≤10000000000:=ω;have HX:=χ hx;have aE:wr.heap.size≤wd.heap.size:=aM.size;clear hc aP hI z kb ag hx ay ae kd;go_upto_region 5 with fail;refine bj [(0,true),(1,true),(2,true),(3,false),(4,false),(5,false),(6,false),(7,false)] (fun w'=>w'.cell? (κ sb 0)=some (.slice va k vc)∧w'.cell? (κ (ν wr) 0)=ι x.ps∧w'.cell? (κ (ν wr) 1)=some (.slice Y x.ns.length nc)) ψ ψ (by rw[ax];exact aO) ?_;rw[ax];clear aJ ax;iterate 3 (refine wpC_t ?_;try go_frame)
   refine xP ?_;intro K I;go_at_call 87;refine bB.mono ?_;rintro e V ⟨aS,rfl,ai,bp⟩;obtain⟨a4,c4,rfl,a6,bi,an,aH⟩:=bp;have aC:V.cell? (κ sb 0)=some (.slice va k vc)∧V.cell? (κ (ν wr) 0)=ι x.ps∧V.cell? (κ (ν wr) 1)=some (.slice Y x.ns.length nc):=⟨(ai.cell (p:=κ sb 0) Ω).trans aO.1,(ai.cell (p:=κ (ν wr) 0) aa).trans aO.2.1,(ai.cell (p:=κ (ν wr) 1) aa).trans aO.2.2⟩;refine xW ?_;clear I K;refine xR ?_;intro K I;have aj:=am V (.cells #[ι x.ps,.slice a4 x.ns.length c4] 144);have aW:(V.alloc (.cells #[ι x.ps,.slice a4 x.ns.length c4] 144)).heap[V.heap.size]? =some (.cells ([.int .i64 x.ps,.slice a4 x.ns.length c4]:List Value).toArray 144 (0,0)):=Zh V 144 _;have ba:wr.heap.size < V.heap.size:=Za aa ai.size;have ap:(V.alloc (.cells #[ι x.ps,.slice a4 x.ns.length c4] 144)).cell? (κ sb 0)=some (.slice va k vc)∧(V.alloc (.cells #[ι x.ps,.slice a4 x.ns.length c4] 144)).cell? (κ (ν wr) 0)=ι x.ps∧(V.alloc (.cells #[ι x.ps,.slice a4 x.ns.length c4] 144)).cell? (κ (ν wr) 1)=some (.slice Y x.ns.length nc):=⟨(aj.cell (p:=κ sb 0) Ω).trans aC.1,(aj.cell (p:=κ (ν wr) 0) ba).trans aC.2.1,(aj.cell (p:=κ (ν wr) 1) ba).trans aC.2.2⟩;refine I _ _ _ Φ (fun _=>ap) ?_;clear I K;try go_frame
   have aw:Below (ν wr) wr (V.alloc (.cells #[ι x.ps,.slice a4 x.ns.length c4] 144)):=(aM.trans (ai.mono aM.size)).trans (aj.mono (Yx ba));have az:=HI.out.cp.et g5 aw.size (fun q _ hq=>aw.block q hq);have bv:ev (Nw (ν wd) (V.alloc (.cells #[ι x.ps,.slice a4 x.ns.length c4] 144))) (V.alloc (.cells #[ι x.ps,.slice a4 x.ns.length c4] 144)) x [ι x.ps,.slice a4 x.ns.length c4]:=⟨a4,c4,rfl,a6,bi,(an.et fun q hq i=>aj.cell (p:=κ q i) hq.2).more (fun q hq=>⟨hq.1,Za hq.2 aj.size⟩),aH⟩;have bD:V.heap.size < (V.alloc (.cells #[ι x.ps,.slice a4 x.ns.length c4] 144)).heap.size:=by simp
   generalize (V.alloc (.cells #[ι x.ps,.slice a4 x.ns.length c4] 144))=w6 at *;refine aN rfl (fun K I=>?_);refine ij _ (by rfl) _ _ 54 144 _ 2 32 underlying54 uz rfl φ φ (by rfl) (.slice va k vc) _ _ (by rfl) az.row (ν V) [ι x.ps,.slice a4 x.ns.length c4] (by rfl) aW rfl (by intro u hu;simp only[List.mem_cons,List.not_mem_nil,or_false] at hu;rcases hu with rfl | rfl <;> rfl) a9 ?_;intro g7 aQ w7 H h2 h3 h4 h5;have J:A w6 sb 56 [.slice va k vc]:=HI.out.blk.BE aw;refine Bg ?_;intro bz be aG aB;have bb:w7.cell? (κ sb 0)=some (.slice va k vc)∧w7.cell? (κ (ν wr) 0)=ι x.ps∧w7.cell? (κ (ν wr) 1)=some (.slice Y x.ns.length nc):=⟨(Zd (w:=w6) aG).trans ap.1,(Zd (w:=w6) aB).trans ap.2.1,(Zd (w:=w6) aB).trans ap.2.2⟩;refine I _ _ _ Φ (fun _=>bb) ?_;clear I K;refine xR ?_;intro K I;refine I _ _ _ Φ (fun _=>bb) ?_;clear I K;try go_frame
   have a5:=HI.out.cp.push g5 HX.out aE aw bv rfl H h2 h3;have ab:A w7 sb 56 [.slice va k vc]:=aG.trans J;have f7:=ab.fz 0;have ac:j8 p sb E (σ w7 sb 0 (.slice (Γ g7) (k+1) aQ)) (.slice (Γ g7) (k+1) aQ) (k+1) (xs ++ [.int .i64 x.ps,.slice a4 x.ns.length c4]):=by refine⟨ab.set 0 _,a5.et g5 (by simp[World.setCell]) (fun q hq _=>Z0 _ _ _ _ Ω),?_⟩;exact Bh
   have bd:=χ ac;clear H h2 h3 h4 h5 az a5 bv aW ac J ab an;refine xY ?_;go_wp2_with fail;go_roundw
   case' rel=>exact⟨k+1,_,_,by go_num,ω,bd.out⟩
   case' measure=>simp[intOf];omega
  ·have L:decide (k < p.length)=false:=Zn ad
   obtain rfl:k=p.length:=ω;obtain⟨va,vc,rfl,aK,aZ,aT⟩:=hI.cp.done g5;have c0:=hI.blk.c 0 rfl;have af:A wr (η w) 56 [ζ]:=(hI.fr.block (η w) aX.out.lt ω).trans aX.out;obtain⟨r0,f0,-⟩:=kb0 af;have hp:=af.set 0 (.slice va p.length vc);have ao:Below (ν w) w wr:=aD.out.trans (Yh hI.fr (ν w) (fun q hq e=>by omega) aD.out.size)
   have a':=χ (show m8 p w (.returned (.agg #[.slice va p.length vc])) (σ wr (η w) 0 (.slice va p.length vc)) from by
     refine⟨va,vc,rfl,ao.setCell Ω _,⟨?_,aZ,aT⟩⟩;refine nZ.2 (aK.et (fun q hq i=>Zd (w:=wr) ?_) (fun q hq=>⟨by have:=aD.out.size;have:=hq.1;omega,by simpa [World.setCell] using hq.2⟩) fun x cs hc=>g5 _ _ _ _ _ _ hc (fun q hq i=>Zd (w:=wr) ?_) (fun q hq=>⟨by have:=aD.out.size;have:=hq.1;omega,by simpa [World.setCell] using hq.2⟩))
     ·rw[Below.heap_setCell _ _ _ _ (by have:=hq.1;dsimp only;omega)]
     ·rw[Below.heap_setCell _ _ _ _ (by have:=hq.1;dsimp only;omega)])
   clear hI aK af;go_wp2_with fail;exact Zl (v:= .agg #[.slice va p.length vc]) (by simp[results,results58,go_sem,hp.c 0 rfl]) rfl a'.out
def hY (o:ab) (p:List Fn) (w:World) (e:Ending) (w':World):Prop:=Below w.heap.size w w'∧if bS p=true then ∃c,e= .returned (.tuple #[.pointer (some ⟨c,0,none⟩),.int .i64 0])∧bz o w' c p∧w.heap.size≤c else e= .returned (.tuple #[.pointer none,.int .i64 2])
def pk {p} (h:bS p=true):0 < p.length:=by have:=(lI.1 h).1.1;omega
def pW (o p pa pc w) (z:Wf o w) (hP:b0 (ο w) w p pa pc) (aI:p.length≤1000) (aY:∀f∈p,f.ns.length≤1000∧∀x∈f.ns,x.l.length≤1000) :
  Calls prog 62 #[.agg #[.slice pa p.length pc]] w (hY o p w):=by
 obtain⟨w1,aP,-,b1,O⟩:=al1 w 56 [.slice pa p.length pc];have aj:=hP.later b1;have ag:=hD p pa pc w1 aj;unfold dD at ag;have y0:=O.c 0 rfl;have ak:=O.lt;have bu:=χ (fun G (hb:Below (ν w1) w1 G)=>qN p pa pc G (aj.later hb) aI aY);cases az:bS p with
 | false=>rw[az] at ag;have HF:=χ (show ∀w',Below (ν w) w w'→hY o p w (.returned (.tuple #[.pointer none,ι 2])) w' from fun w' hb=>⟨hb,by rw[az];rfl⟩);clear hP aj az aI aY O;go_enter func62,ntmps62;go_wp2_with (go_at_call 60;refine δ ag ?_;intro G aa);go_ret2;exact HF.out _ (b1.trans (aa.mono b1.size))
 | true=>
   rw[az] at ag;have U:=pk az
   have HF:=χ (show ∀G a c,Below (ν w) w G→b0 (Nw (ν w) G) G p a c→hY o p w (.returned (.tuple #[ϖ G,ι 0])) (G.alloc (.cells #[.slice a p.length c] 130)) from fun G a c hb aF=>by
     refine⟨hb.alloc hb.size _,?_⟩;rw[az,if_pos rfl];have aL:=am G (.cells #[.slice a p.length c] 130)
     refine⟨G.heap.size,rfl,⟨a,c,Zh G 130 [.slice a p.length c],z.ge hb.size,⟨(aF.fs.et fun q hq i=>aL.cell (p:=κ q i) hq.2).more fun q hq=>⟨z.ge hq.1,Za hq.2 aL.size⟩,aF.le,aF.cap⟩,U⟩,hb.size⟩)
   clear hP aj az aI aY O;go_enter func62,ntmps62;go_wp2_with first
    | (go_at_call 60;refine δ ag ?_;intro G aa;have bl:=bu.out G aa;have y0:=(aa.cell (p:=κ (ν w) 0) ak).trans y0)
    | (go_at_call 58;refine bl.mono ?_;rintro e E ⟨a3,c3,rfl,ac,ad⟩)
   go_ret2;have ap:Below (ν w1) w1 E:=aa.trans (ac.mono aa.size);exact HF.out E a3 c3 (b1.trans (ap.mono b1.size)) ⟨ad.fs.more fun q hq=>⟨Zp (Zp b1.size aa.size) hq.1,hq.2⟩,ad.le,ad.cap⟩
def s5 (o:ab) (w:World) (c:Nat) (R:ba) (e:Ending) (w':World):Prop:=∃g o',e= .returned (.tuple #[.pointer (some ⟨g,0,none⟩),.int .i64 0])∧w.heap.size≤g∧J (fun _=>False) o w o' w'∧a1 o' w' g c R
def aF.made {o w} (z:Wf o w) {c f:Nat} {l va vc} (hv:ap (Fz o w) w l va 0) (H:l.length≤vc) (h2:vc≤maxLen) :
  ∃o',J Θ o w o' ((w.alloc (.cells #[ι f,ι 0,.slice va l.length vc,ζ] 249)).alloc (.cells #[π c,ι 0,ι 0,ι 0,ζ,.slice (Γ (ν w)) 1 1] 253)) ∧
   aF o' ((w.alloc (.cells #[ι f,ι 0,.slice va l.length vc,ζ] 249)).alloc (.cells #[π c,ι 0,ι 0,ι 0,ζ,.slice (Γ (ν w)) 1 1] 253)) (η w) c ⟨0,vZ,[⟨f,0,l,[]⟩]⟩ none 0 (some ⟨w.heap.size,0,none⟩) 1 [⟨⟨f,0,l,[]⟩,va,vc,none,0⟩]:=by
 obtain⟨w1,aP,z1,b1,O⟩:=al1 w 249 [ι f,ι 0,.slice va l.length vc,ζ];rw[aP];obtain⟨G,aB⟩:∃u,w1.alloc (.cells #[π c,ι 0,ι 0,ι 0,ζ,.slice (Γ (ν w)) 1 1] 253)=u:=⟨_,rfl⟩;have z2:G.heap.size=w.heap.size+1+1:=by rw[←aB];simp[z1]
 have b2:Below (ν w) w G:=by rw[←aB];exact b1.alloc b1.size _
 have h:A G (ν w) 249 [ι f,ι 0,.slice va l.length vc,ζ]:=by rw[←aB];exact O.alloc _
 have Z:A G (η w) 253 [π c,ι 0,ι 0,ι 0,ζ,.slice (Γ (ν w)) 1 1]:=by rw[←aB,←z1];exact Zh w1 _ _
 rw[aB];have t0:=tB z b2;have t1:=(t0.BN (b:=w.heap.size+1) (k:=w.heap.size+1) ω ω ω (.inr ω)).BN (b:=w.heap.size) (k:=w.heap.size+1) ω ω ω (.inr ω);have I:=t1.kp;have o1:((o.set (η w) (some (w.heap.size+1))).set (ν w) (some (w.heap.size+1))) (w.heap.size+1)=some (w.heap.size+1):=by rw[ab.BG _ _ ω,ab.BT]
 have E:((o.set (η w) (some (w.heap.size+1))).set (ν w) (some (w.heap.size+1))) w.heap.size=some (w.heap.size+1):=Zw _ _ _;refine⟨_,t1,Z,o1,?_,rfl,?_,?_,ZU _ _,.inr rfl⟩
 ·show aG _ _ (.mk 0 0 []) _
  rw[aG];exact⟨none,0,rfl,by unfold ag;omega,by unfold ag;omega,Zc _,Z2 _,by rw[ap];trivial⟩
 ·refine⟨cb ⟨⟨f,0,l,[]⟩,va,vc,none,0⟩,⟨⟨rfl,.inr ⟨w.heap.size,1,_,rfl,h,Zc _,by unfold maxLen;omega,by simp,by simp[cb]⟩⟩,fun q hq=>?_⟩,?_⟩
  ·obtain rfl:w.heap.size=q:=by simpa [Value.ownBlock] using hq
   exact E
  ·exact Y9 rfl rfl
 ·intro x hx
  rw[List.mem_singleton.1 hx];exact⟨hv.kept I t1.size,H,h2,Yd _ _ _ _ _ _⟩
def wo {o w c p pa pc f} {fn:Fn} {R} (l a cap) (z:Wf o w) (hc:dW o w c p pa pc) (hl:aU (ak (ο w) w) (ο w) w 3 l a) (aI:l.length≤1000) (aY:p.length≤1000000) (hf:p[f]? =some fn) (ae:fn.ps=l.length) (hr:∀x∈l,right x=true) (hk:df p dJ [⟨f,0,l,[]⟩]=true) (hR:cJ p dJ [⟨f,0,l,[]⟩]=R) :
  Calls prog 90 #[π c,ι f,.slice a l.length cap] w (s5 o w c R):=by
 have aA:f < p.length:=(Ze.1 hf).1;obtain⟨g1,o1,Y,nc,rfl,aG,q1,q2,q3,q4,-,-⟩:=hc.pat.fs f fn hf;have hm:=w5 hc aY;have cc:=hc.blk.c 0 rfl;rw[ae] at q1;have aJ:decide ((f:Int) < 0)=false:=by simp
 have aS:decide (p.length≤f)=false:=by simp;omega
 have HN:=χ hl;have HR:=χ hr;have HC:=χ hc;have HW:=χ z;have HK:=χ (⟨hk,hR⟩:_∧_);obtain⟨i,hi,hz,a8,aH⟩:=cq gE;obtain⟨w1,aC,aX,aw⟩:=run_make_own (P:=prog) w (ν w) 84 86 i _ 3 underlying84 hi hz a8 .i64 .i64 l.length (by rw[aH];omega) (by unfold maxLen;omega) (Zc _);have af:Below (ν w) w w1:=⟨aw.os,aw.tape,aw.output,aw.size,fun q hq=>aw.block q hq (fun h=>by cases h)⟩;have bc:=χ (⟨⟨aQ.Ca aX,Ya _ _,(fun q hq=>(aX.lt q hq).1),af.size⟩,af⟩:ck ak 86 3 l (ν w) w1 (.slice (Γ (ν w)) 0 l.length) 0 []∧Below (ν w) w w1);have Z:bX ak:=e4;clear hl hr hc z hk hR aX aw af hi hz a8 aH;go_enter func90,ntmps90;go_wp2_with (go_at_call 57;refine γ hm ?_);go_loopw [6,7,8,10,43] (fun _ _ vo _ ix wr=>∃(k:Nat) (xs:List Value),ix= .int .i64 (k:Nat)∧k≤l.length∧ck ak 86 3 l (ν w) wr vo k xs∧Below (ν w) w wr) (fun _ _ _ _ ix _=>l.length - (intOf ix).toNat)
 case atStart=>exact⟨0,[],rfl,Z2 _,bc.out⟩
 case round=>
  obtain⟨k,xs,rfl,hk,hI,ao⟩:=hrel
  by_cases ad:k < l.length
  ·have hx:l[k]? =some l[k]:=Zg ad
   have ay:=Z8 ad;generalize l[k]=x at hx ay;obtain⟨g,U,cs,rfl,hg,aq,be,v0,v1,v2,rfl,hv⟩:=HN.out k x hx;obtain⟨b,c1,e,-,-⟩:=hv.three;injection e with e;simp only[Array.mk.injEq,List.cons.injEq,and_true] at e;obtain⟨rfl,rfl,rfl⟩:=e;obtain⟨va,vc,rfl,aZ,aT,-⟩:=hI.row.form;have aL:=(ao.cell (p:=κ g (U+k*3)) (by dsimp only;exact hg)).trans (be 0 ω);have aR:=(ao.cell (p:=κ g (U+k*3+1)) (by dsimp only;exact hg)).trans (be 1 ω);have aV:=(ao.cell (p:=κ g (U+k*3+2)) (by dsimp only;exact hg)).trans (be 2 ω);have L:decide (k < l.length)=true:=Zy ad;obtain⟨G,aB,-,aa,O⟩:=al1 wr 86 [ι x.kd,ι x.n,.slice b x.l.length c1];have ab:=(hv.later ao).later aa;have ag:=fQ x _ G ab;rw[if_pos (HR.out x ay)] at ag;have hsm:=gR (HR.out x ay);have bu:=χ (fun E (hb:Below (ν G) G E)=>ce x _ E hsm (ab.later hb));obtain⟨y0,y1,y2,-⟩:=kc2 O;have a3:=O.lt;have HI:=χ hI;have aN:=χ ao;have HX:=χ hx;have a9:k≤10000000000:=ω;clear be hv ab hI ao O hx ay hsm;go_wp2_with first
    | (go_at_call 122;refine δ ag ?_;intro E ac;have bl:=bu.out E ac;have y0:=(ac.cell (p:=κ (ν wr) 0) a3).trans y0;have y1:=(ac.cell (p:=κ (ν wr) 1) a3).trans y1;have y2:=(ac.cell (p:=κ (ν wr) 2) a3).trans y2)
    | (go_at_call 40
       refine bl.mono ?_;rintro e M ⟨v',rfl,ah,an⟩;obtain⟨b3,c3,rfl,-,-⟩:=an.three;have HV:=χ an;have ai:=am M (.cells #[ι x.kd,ι x.n,.slice b3 x.l.length c3] 86);have I:Below (ν wr) wr M:=(aa.trans (ac.mono aa.size)).trans (ah.mono (Zp aa.size ac.size));have aj:Below (ν wr) wr (M.alloc (υ x b3 c3)):=I.trans (ai.mono I.size);have aE:=(HI.out.et Z aj.size (fun q _ hq=>aj.block q hq)).row;have aW:(M.alloc (υ x b3 c3)).heap[M.heap.size]? =some (.cells ([.int .i64 x.kd,.int .i64 x.n,.slice b3 x.l.length c3]:List Value).toArray 86 (0,0)):=Zh M 86 [ι x.kd,ι x.n,.slice b3 x.l.length c3]
       clear an)
    | (at_builtin
       refine dU _ rfl _ _ 84 86 _ 3 40 underlying84 gE rfl φ φ rfl _ k xs rfl aE (ν M) [ι x.kd,ι x.n,.slice b3 x.l.length c3] rfl aW rfl (by intro u hu;simp only[List.mem_cons,List.not_mem_nil,or_false] at hu;rcases hu with rfl | rfl | rfl <;> rfl) a9 ?_;intro g5 a0 V H h2 h3 h4;have bf:wr.heap.size≤E.heap.size:=Zp aa.size ac.size;have J:ck ak 86 3 l (ν w) V _ (k+1) _:=HI.out.push Z HX.out bf aj (Z _ _ M _ _ _ (⟨_,_,_,rfl,HV.out⟩:ak _ M x [ι x.kd,ι x.n,.slice b3 x.l.length c3]) (fun q hq i=>ai.cell (p:=κ q i) hq.2) (fun q hq=>⟨hq.1,Za hq.2 ai.size⟩)) rfl H h2 h3;have aO:Below (ν w) w V:=(aN.out.trans (aj.mono aN.out.size)).trans (Yh (S:=fun b=>(Value.slice va k vc).ownBlock=some b) (Yj h2 fun q hq=>.inl hq) (ν w) (fun q hq e=>by have:=HI.out.own q e;omega) (Zp aN.out.size aj.size));have aP:=χ (⟨J,aO⟩:_∧_)
       clear J aO H h2 h3 h4 aW aE ai aj ah I bf)
   go_roundw
   case' rel=>exact⟨k+1,_,by go_num,ω,aP.out⟩
   case' measure=>simp[intOf];omega
  ·have L:decide (k < l.length)=false:=Zn ad
   obtain rfl:k=l.length:=ω;obtain⟨va,vc,rfl,aK,aZ,aT⟩:=hI.done Z;have az:=HW.out.below ao;have bI:ap (Fz o wr) wr l va 0:=cE.2 (aK.et (fun _ _ _=>rfl) (fun q hq=>⟨HW.out.ge hq.1,hq.2⟩) fun x cs hc=>Z _ _ _ _ _ _ hc (fun _ _ _=>rfl) fun q hq=>⟨HW.out.ge hq.1,hq.2⟩);obtain⟨o',t1,f1⟩:=aF.made az (c:=c) (f:=f) bI aZ aT;have aM:=ao.size;have be:=HC.out.kept ((tB HW.out ao).kp) aM;have ax:=nB (az.BD t1) f1 (be.kept (t1.kp) t1.size) rfl dJ HK.out.2 HK.out.1;have HT:=χ (⟨tB HW.out ao,t1,aM⟩:_∧_∧_);clear hI aK bI f1 be az t1 ao;go_wp2_with (go_at_call 123;refine ax.mono ?_;rintro e V ⟨rfl,o5,t5,f5⟩);go_ret2;refine⟨_,o5,rfl,ω,?_,f5⟩;obtain⟨u1,u2,u3⟩:=HT.out;exact (u1.same HW.out u2).trans HW.out t5 (fun q hq e=>by omega)
end Go.Proofs.YtmchabopafimeaaGreatDoor
