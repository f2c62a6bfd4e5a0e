import Derived.Test.YtmchabopafimeaaGreatDoorQay
namespace Go.Proofs.YtmchabopafimeaaGreatDoor
set_option maxRecDepth 100000
set_option maxHeartbeats 16000000
set_option linter.all false
open Go.RowKit Go.Sort Tryz
section
section
variable {o o' o2:ab} {w w' w1 G:World} {W T c bx:Nat} {t t' t1:aS} {wm wm' wm1:aH} {L L' Ls Ls':List Nat} {p:List Fn} {bd aW l:List a0}
def nc (W T c:Nat) (p:List Fn) (t:aS) (wm:aH) (next d:Int) (F:Nat) (an:List Nat→List Nat→ab→World→Ending→World→Prop):Prop:=(∀(args:Array Value) (w:World),(callFunc F args).run prog w= .ok (.enter F args) w)∧(∀{w:World} {mm:Nat},H w mm ej→(Instr.lookup 155 (.map (some mm)) (.int .i64 d) true).run prog w= .ok (.tuple #[.func (.func F) #[] #[],.bool true]) w) ∧
 ∀(o:ab) (w:World) (L Ls:List Nat),Wf o w→aI o w W wm L→a6 o w→bN o w→a7 o w T c t Ls→bz o w c p→(∀k∈Ls,k∉L)→Calls prog F #[.pointer (some ⟨T,0,none⟩),.pointer (some ⟨W,0,none⟩),.int .i64 next] w (an L Ls o w)
def r5 {next} (h:gy p t wm next=some (some (t1,wm1,bd))):∃d F,f2 p t=some d∧nc W T c p t wm next d F (b8 W T c t1 wm1 bd):=by
 unfold gy at h;obtain⟨d,hd,h⟩:=Zt.1 h
 split at h
 case isTrue e=>
  subst e;obtain⟨x,hx,e⟩:=Zs.1 h;cases e
  exact⟨1,_,hd,fun _ _=>by kernel_rfl,qB,fun o w L Ls z hI _ _ U hc hd=>pK z hI U hc hd _ next hx⟩
 split at h
 case isTrue e=>
  subst e;obtain⟨x,hx,e⟩:=Zs.1 h;cases e
  exact⟨2,_,hd,fun _ _=>by kernel_rfl,tx,fun o w L Ls z hI hE _ U hc hd=>t2 z hI hE U hc hd next hx⟩
 split at h
 case isTrue e=>
  subst e;obtain⟨x,hx,e⟩:=Zs.1 h;cases e
  exact⟨3,_,hd,fun _ _=>by kernel_rfl,vF,fun o w L Ls z hI _ _ U hc hd=>ra z hI U hc hd _ next hx⟩
 split at h
 case isTrue e=>
  subst e;obtain⟨x,hx,e⟩:=Zs.1 h;cases e
  exact⟨4,_,hd,fun _ _=>by kernel_rfl,s2,fun o w L Ls z hI _ hF U hc hd=>xd z hI hF U hd _ next hx⟩
 split at h
 case isTrue e=>subst e;exact⟨6,_,hd,fun _ _=>by kernel_rfl,mO,fun o w L Ls z hI _ _ U hc hd=>vg z hI U hd next h⟩
 split at h
 case isTrue e=>
  subst e;obtain⟨x,hx,e⟩:=Zs.1 h;cases e
  exact⟨7,_,hd,fun _ _=>by kernel_rfl,w3,fun o w L Ls z hI hE _ U hc hd=>tZ z hI hE U hd next hx⟩
 case isFalse=>cases h
def rW {next} (h:gy p t wm next=some none):∃d F,f2 p t=some d∧nc W T c p t wm next d F f8:=by
 unfold gy at h;obtain⟨d,hd,h⟩:=Zt.1 h
 split at h
 case isTrue e=>obtain⟨x,hx,e⟩:=Zs.1 h;cases e
 split at h
 case isTrue e=>obtain⟨x,hx,e⟩:=Zs.1 h;cases e
 split at h
 case isTrue e=>obtain⟨x,hx,e⟩:=Zs.1 h;cases e
 split at h
 case isTrue e=>obtain⟨x,hx,e⟩:=Zs.1 h;cases e
 split at h
 case isTrue e=>subst e;exact⟨6,_,hd,fun _ _=>by kernel_rfl,mO,fun o w L Ls z hI _ _ U hc hd=>xa z hI U hd next h⟩
 split at h
 case isTrue e=>obtain⟨x,hx,e⟩:=Zs.1 h;cases e
 case isFalse=>cases h
def l4 (W T c bx:Nat) (t':aS) (wm':aH) (l:List a0) (L Ls:List Nat) (o:ab) (w:World) (e:Ending) (w':World):Prop:=e= .returned (.tuple #[])∧∃o' L' Ls',J (fun k=>(k∈L∨k∈Ls)∨k=bx) o w o' w'∧aI o' w' W wm' L'∧a7 o' w' T c t' Ls'∧bG o' w' bx l∧(∀k∈L',k∈L∨w.heap.size≤k)∧(∀k∈Ls',k∈Ls∨w.heap.size≤k)∧∀k∈Ls',k∉L'
def r0 {next} {F n:Nat} (z:Wf o w) (hI:aI o w W wm L) (U:a7 o w T c t Ls) (hc:bz o w c p) (hl:bG o w bx []) (aj:bx∉Ls) (bE:bx∉L) (hF:Λ F) (aD:Calls prog F #[π T,π W,ι next] w (b8 W T c t1 wm1 bd L Ls o w)) (aM:e5 p (some wm1) n t1=some (t',aW)) (ak:(bd ++ aW).length≤1000000) (b1 b2 b3 b4) (Z:A w b1 153 [.func (.func F) #[] #[]]) (k2:A w b2 38 [π T]) (k3:A w b3 27 [π W]) (k4:A w b4 3 [ι next]) (n2:o b2=none) (n3:o b3=none) :
  Calls prog 73 #[bJ bx,π b1,π b2,π b3,π b4] w (l4 W T c bx t' wm1 (bd ++ aW) L Ls o w):=by
 have aO:=hl.lt
 have ac:=χ (show ∀(o2:ab) (G:World) (L2 Ls2:List Nat) (a:Option Addr) (cp:Nat),ao W T c t1 wm1 L Ls o w o2 G L2 Ls2→cB o2 G bd a→Calls prog 106 #[.slice a bd.length cp,π bx] G fun e E=>e= .returned (.tuple #[])∧E.cell? (κ b2 0)=π T∧E.cell? (κ b3 0)=π W∧Calls prog 74 #[π T,π W,bJ bx] E (l4 W T c bx t' wm1 (bd ++ aW) L Ls o w) from fun o2 G L2 Ls2 a cp hS Y=>by
   obtain⟨q1,q2,q3,q4,q5,q6⟩:=hS;have ap:=z.BD q1;have a':=q1.size;have ca:bx∉Ls2:=fun e=>(q5 bx e).elim aj fun e=>by omega
   have H:bx∉L2:=fun e=>(q4 bx e).elim bE fun e=>by omega
   have aA:=hl.kept (q1.et (K:=fun k=>k∉L∧k∉Ls) fun k h e=>e.elim h.1 h.2) a' ⟨bE,aj⟩;have a9:bd.length≤1000000:=by rw[List.length_append] at ak;omega
   refine (iN (c:=cp) ap aA Y ξ a9).mono ?_;rintro e E ⟨rfl,o3,t3,l3⟩;rw[List.nil_append] at l3;have aU:=t3.et (K:=(·≠bx)) fun _ h=>h;have a5:=t3.size;have ax:=ap.BD t3;have ba:=q2.kept aU a5 fun k hk e=>H (e ▸ hk);have ag:=q3.kept aU a5 fun k hk e=>ca (e ▸ hk);have aa:=(hc.kept q1.frozen a').kept aU a5;obtain⟨j2,i2⟩:=q1.frozen.BF k2 n2;obtain⟨j3,I⟩:=q1.frozen.BF k3 n3;obtain⟨j2,-⟩:=t3.frozen.BF j2 i2;obtain⟨j3,-⟩:=t3.frozen.BF j3 I;refine⟨rfl,j2.c 0 rfl,j3.c 0 rfl,?_⟩;refine (m9 (wx:=some (W,wm1,L2)) ax ag l3 ca aa ⟨rfl,ba⟩ (fun k hk=>⟨fun e=>q6 k e hk,fun e=>H (e ▸ hk)⟩) ak aM).mono ?_;rintro e M ⟨rfl,o4,Ls4,a1,a2,a3,a4⟩;have aZ:=a1.size;have bI:=q2.lt;refine⟨rfl,o4,L2,Ls4,(q1.more' fun _ h=>Or.inl h).trans z ((t3.more' fun _ h=>Or.inr h).same ap a1) fun k hk hD=>?_,ba.kept (a1.et (K:=fun k=>k∉Ls2∧k≠bx) fun k h e=>e.elim h.1 h.2) aZ (fun k hk=>⟨fun e=>q6 k e hk,fun e=>H (e ▸ hk)⟩),a2,a3,q4,fun k hk=>?_,fun k hk e=>?_⟩
   ·rcases hD with e | e
    ·exact .inl (.inr ((q5 k e).elim id fun e=>by omega))
    ·exact .inr e
   ·rcases a4 k hk with e | e
    ·exact q5 k e
    ·exact .inr ω
   ·rcases a4 k hk with e2 | e2
    ·exact q6 k e2 e
    ·have:=bI k e
     omega)
 have ay:=aD;have c1:=Z.c 0 rfl;have c2:=k2.c 0 rfl;have c3:=k3.c 0 rfl;have c4:=k4.c 0 rfl;clear z hI U hc hl aj bE aD aM ak Z k2 k3 k4 n2 n3 aO;unfold bJ at *;go_enter func73,ntmps73;go_wp2_with first
  | (go_at_call 106;refine bM.mono ?_;rintro e E ⟨rfl,c2,c3,ai⟩)
  | (go_at_call 74;refine δ ai ?_;intro M ai)
  | (refine ay.mono ?_;rintro e G ⟨o2,L2,Ls2,a,cp,O,rfl,Y⟩;have bM:=ac.out o2 G L2 Ls2 a cp O Y)
 refine xQ ?_;exact⟨rfl,ai⟩
def rc {next} {F:Nat} (tv) (hF:Λ F) (aD:Calls prog F #[π T,π W,ι next] w (f8 L Ls o w)) (b1 b2 b3 b4) (Z:A w b1 153 [.func (.func F) #[] #[]]) (k2:A w b2 38 [π T]) (k3:A w b3 27 [π W]) (k4:A w b4 3 [ι next]) :
  Calls prog 73 #[tv,π b1,π b2,π b3,π b4] w (f8 L Ls o w):=by have c1:=Z.c 0 rfl;have c2:=k2.c 0 rfl;have c3:=k3.c 0 rfl;have c4:=k4.c 0 rfl;have ay:=aD;clear Z k2 k3 k4 aD;unfold f8 h' fL at *;go_enter func73,ntmps73;go_wp2_with (refine ay.mono ?_;rintro e G ⟨rfl,o2,aq⟩);refine⟨by simp,?_⟩;exact⟨rfl,o2,aq⟩
def Bp {p:Prop} (h:p:=by
 refine bv rfl (fun K I=>?_);go_simp;refine I _ _ _ Φ (fun _=>aA.out _ aY) ?_;clear I K;refine pe ?_;iterate 3 (refine wpG_t ?_;refine pe ?_)
 obtain⟨r0,f0,-⟩:=kb0 kb;have aT:Below (ν E) E (σ w8 x 0 (.func (.func F) #[] #[])):=aY.setCell (p:=κ x 0) hz _
 exact yr):p:=h
def nF {next d} {F:Nat} (Q:Value→Int→World→Prop) (z:Wf o w) (hI:aI o w W wm L) (U:a7 o w T c t Ls) (hc:bz o w c p) (hov:t.over=false) (aG:f2 p t=some d) (a9:∀{w:World} {mm:Nat},H w mm ej→(Instr.lookup 155 (.map (some mm)) (ι d) true).run prog w= .ok (.tuple #[.func (.func F) #[] #[],Υ]) w) (af:∀(M:World) (b1 b2 b3 b4:Nat),Below (ν w) w M→A M b1 153 [.func (.func F) #[] #[]]→A M b2 38 [π T]→A M b3 27 [π W]→A M b4 3 [ι next]→w.heap.size≤b1→w.heap.size≤b2→w.heap.size≤b3→w.heap.size≤b4→Calls prog 72 #[π T,.func (.func 73) #[] #[π b1,π b2,π b3,π b4]] M fun e w'=>∃v n,e= .returned (.tuple #[v,ι n])∧Q v n w') :
  Calls prog 43 #[π T,π W,ι next] w fun e w'=>∃v n,e= .returned (.tuple #[v,ι n])∧Q v n w':=by
 obtain⟨w1,bl,bf,a1,O⟩:=al1 w 38 [π T];obtain⟨G,bo,bh,ak,Z,au⟩:=al2 a1 bf 27 [π W];replace O:=au _ _ _ O;clear au;obtain⟨E,bt,bq,bg,k2,au⟩:=al2 ak bh 3 [ι next];replace O:=au _ _ _ O;replace Z:=au _ _ _ Z;clear au;have ba:=hI.kept (kB z bg) bg.size fun _ _=>Zk;have ag:=U.below z bg;have ax:=z.below bg;have aa:=hc.below z bg;have bc:Calls prog 69 #[π W] E (μ (.bool false) E):=by obtain⟨Y,aB,aF,aC,cs,ds,hW,-⟩:=ba;exact ot hW
 obtain⟨aJ,t3,t4⟩:Calls prog 46 #[π T] E (fun e w'=>e= .returned (.bool false)∧E=w')∧E.cell? (κ T 3)=Δ∧E.cell? (κ T 4)=Δ:=by obtain⟨xs,pa,va,pc,vc,h,-⟩:=ag;exact⟨gn h,by rw[←hov];exact h.blk.c 3 rfl,h.blk.c 4 rfl⟩
 have ad:=χ (fun w' (hb:Below (ν E) E w')=>vJ (ax.below hb) (ag.below ax hb) (aa.below ax hb) aG);have c0:=O.c 0 rfl;have d0:=Z.c 0 rfl;have aA:=χ (fun w' (hb:Below (ν E) E w')=>(show w'.cell? (κ (ν w) 0)=π T∧w'.cell? (κ (η w) 0)=π W from⟨(hb.cell (p:=κ (ν w) 0) O.lt).trans c0,(hb.cell (p:=κ (η w) 0) Z.lt).trans d0⟩));have ac:=χ (fun M (x:Nat) (hb:Below (ν E) E M) (kx:A M x 153 [.func (.func F) #[] #[]]) (hx:E.heap.size≤x)=>af M x (ν w) (η w) (w.heap.size+1+1) (bg.trans (hb.mono bg.size)) kx ((hb.block _ O.lt).trans O) ((hb.block _ Z.lt).trans Z) ((hb.block _ k2.lt).trans k2) ω ω ω ω);clear z hI U hc hov aG ba ag ax aa O Z k2 af a1 ak bg bq;go_enter func43,ntmps43;go_upto_region 5 with first
  | (go_at_call 69;refine γ bc ?_)
  | (go_at_call 46;refine γ aJ ?_)
 clear bl bo bt bc aJ;refine mW (X:=Nat×Nat) (fun a' X=>(((((((((a'.put (some 28) (π T)).put (some 27) (.map (some X.2))).put (some 29) (ι d)).put (some 30) (.tuple #[.func (.func F) #[] #[],Υ])).put (some 26) (.tuple #[.func (.func F) #[] #[],Υ])).put (some 31) (.func (.func F) #[] #[])).put (some 32) (.bool true)).put (some 8) (π X.1)).put (some 9) (.bool true))) (fun X w'=>Below (ν E) E w'∧A w' X.1 153 [.func (.func F) #[] #[]]∧E.heap.size≤X.1) ?reg ?rest
 case reg=>
  refine ik 20 [7] [(1,true),(0,false),(2,false),(3,false),(4,true),(5,true),(6,true),(8,false),(9,true)] (fun w'=>w'.cell? (κ (ν w) 0)=π T∧w'.cell? (κ (η w) 0)=π W) ψ ψ (aA.out _ (Zj _ _).drew) ?_;have ah:Below (ν E) E E.drew:=(Zj _ _).drew;generalize E.drew=M at *;refine wpG_t ?_;refine pe ?_;refine cG rfl rfl (fun K I=>?fa1) (fun _ K I=>?oa1)
  case fa1=>go_simp;have kb:=Zh M 153 [.nilFunc];have ai:=ah.trans ((am M (.cells #[.nilFunc] 153)).mono ah.size);have hz:=ah.size;refine I _ _ _ Φ (aA.out _ ai) ?_;clear I K;refine pe ?_;generalize M.alloc (.cells #[.nilFunc] 153)=V at *;generalize M.heap.size=x at *;refine bv rfl (fun K I=>?_);go_simp;go_at_call 70;refine (nV V).mono ?_;rintro e w6 ⟨rfl,ap,aP⟩;have aw:=ai.trans (aP.mono ai.size);replace kb:=(aP.block x (ZE kb)).trans kb;refine xX ?_;clear I K;refine pe ?_;refine bv rfl (fun K I=>?_);have J:=ad.out w6 aw;go_simp;go_at_call 71;refine δ J ?_;intro w7 aM;have ae:=aw.trans (aM.mono aw.size);replace ap:=ap.below aM;replace kb:=(aM.block x (ZE kb)).trans kb;refine I _ _ _ Φ (fun _=>aA.out _ ae) ?_;clear I K;refine pe ?_;clear J aM;exact Bc
  case oa1=>
   go_simp;go_at_call 70;refine (nV M).mono ?_;rintro e w6 ⟨rfl,ap,aP⟩;have aw:=ah.trans (aP.mono ah.size);refine xX ?_;clear I K;refine pe ?_;refine cG rfl rfl (fun K I=>?fa2) (fun _ K I=>?oa2)
   case fa2=>go_simp;have kb:=Zh w6 153 [.nilFunc];have ae:=aw.trans ((am w6 (.cells #[.nilFunc] 153)).mono aw.size);have hz:=aw.size;replace ap:=ap.below (am w6 (.cells #[.nilFunc] 153));refine I _ _ _ Φ (aA.out _ ae) ?_;clear I K;refine pe ?_;generalize w6.alloc (.cells #[.nilFunc] 153)=w7 at *;generalize w6.heap.size=x at *;refine bv rfl (fun K I=>?_);have J:=ad.out w7 ae;go_simp;go_at_call 71;refine δ J ?_;intro w8 aM;have aY:=ae.trans (aM.mono ae.size);replace ap:=ap.below aM;replace kb:=(aM.block x (ZE kb)).trans kb;refine I _ _ _ Φ (fun _=>aA.out _ aY) ?_;clear I K;refine pe ?_;clear J aM;exact Bp
   case oa2=>
    have J:=ad.out w6 aw;go_simp;go_at_call 71;refine δ J ?_;intro w7 aM;have ae:=aw.trans (aM.mono aw.size);replace ap:=ap.below aM;refine I _ _ _ Φ (fun _=>aA.out _ ae) ?_;clear I K;refine pe ?_;clear J aM;refine cG rfl rfl (fun K I=>?fa3) (fun _ K I=>?oa3)
    case fa3=>go_simp;have kb:=Zh w7 153 [.nilFunc];have aY:=ae.trans ((am w7 (.cells #[.nilFunc] 153)).mono ae.size);have hz:=ae.size;replace ap:=ap.below (am w7 (.cells #[.nilFunc] 153));refine I _ _ _ Φ (aA.out _ aY) ?_;clear I K;refine pe ?_;generalize w7.alloc (.cells #[.nilFunc] 153)=w8 at *;generalize w7.heap.size=x at *;exact Bp
    case oa3=>
     go_simp;refine I _ _ _ Φ (fun _=>aA.out _ ae) ?_;clear I K;refine pe ?_;iterate 3 (refine wpG_t ?_;refine pe ?_)
     refine cG rfl rfl (fun K I=>?_) (fun hd=>(ZR (hd.symm.trans ψ)).elim);go_simp;have kb:=Zh w7 153 [.nilFunc];have aY:=ae.trans ((am w7 (.cells #[.nilFunc] 153)).mono ae.size);have hz:=ae.size;replace ap:=ap.below (am w7 (.cells #[.nilFunc] 153));refine I _ _ _ Φ (aA.out _ aY) ?_;clear I K;refine pe ?_;generalize w7.alloc (.cells #[.nilFunc] 153)=w8 at *;generalize w7.heap.size=x at *;obtain⟨r0,f0,-⟩:=kb0 kb;have aT:Below (ν E) E (σ w8 x 0 (.func (.func F) #[] #[])):=aY.setCell (p:=κ x 0) hz _;exact yr
 case rest=>rintro ⟨x,mp⟩ M ⟨ah,kx,hx⟩;have bu:=ac.out M x ah kx hx;have aR:=aA.out M ah;obtain⟨e0,e1⟩:=aR;clear ac aA ad ah kx hx c0 d0 t3 t4;simp only[Act.put,List.setIfInBounds_toArray,List.set_cons_succ,List.set_cons_zero];go_wp2_with (go_at_call 72;refine bu.mono ?_;rintro e V ⟨v,n,rfl,hQ⟩);exact Zl (v:= .tuple #[v,ι n]) (by simp[results,results43,go_sem]) rfl ⟨_,_,rfl,hQ⟩
end
end
section
section
variable {o o' o2:ab} {w w' w1 G:World} {W T c bx:Nat} {t t' t1:aS} {wm wm' wm1:aH} {L L' Ls Ls':List Nat} {p:List Fn} {es bd aW l:List a0}
def k6 (W T c:Nat) (t':aS) (wm':aH) (es:List a0) (L Ls:List Nat) (o:ab) (w:World) (v:Value) (n:Int) (w':World):Prop:=∃o' L' Ls' a cp bx,v= .slice a es.length cp∧n=0∧ao W T c t' wm' L Ls o w o' w' L' Ls'∧bx∉L'∧bx∉Ls'∧w.heap.size≤bx∧bx < w'.heap.size∧ax (bA (Fz o' w') w') o' w' bx 88 10 (.slice a es.length cp) es
def rf {next} (z:Wf o w) (hI:aI o w W wm L) (hE:a6 o w) (aw:bN o w) (U:a7 o w T c t Ls) (hc:bz o w c p) (hd:∀k∈Ls,k∉L) (h:eL p t wm next=some (.ok t' wm' es)) (ak:es.length≤1000000) :
  Calls prog 43 #[π T,π W,ι next] w fun e w'=>∃v n,e= .returned (.tuple #[v,ι n])∧k6 W T c t' wm' es L Ls o w v n w':=by
 unfold eL at h
 split at h
 case isTrue=>cases h
 case isFalse hov=>
 obtain⟨r,hr,h⟩:=Zt.1 h
 split at h
 case h_1=>cases h
 case h_2 x=>
 obtain⟨q,aM,e⟩:=Zs.1 h;obtain⟨t1,wm1,bd⟩:=x;obtain⟨t2,aW⟩:=q;cases e
 obtain⟨d,F,aG,hF,a9,aE⟩:=r5 (W:=W) (T:=T) (c:=c) hr;have E:=hI.lt;have ad:=U.lt;refine nF _ z hI U hc (by simpa using hov) aG a9 fun M b1 b2 b3 b4 hb Z k2 k3 k4 l1 l2 l3 l4=>?_;have aK:=z.below hb;have aZ:=hb.size;have A:=(tB z hb).kp;refine (oA (T:=T) (l:=bd ++ aW) (D:=fun k=>k∈L∨k∈Ls) 73 #[π b1,π b2,π b3,π b4] (fun bx o' w'=>∃L' Ls',aI o' w' W wm1 L'∧a7 o' w' T c t2 Ls'∧(∀k∈L',k∈L∨w.heap.size≤k)∧(∀k∈Ls',k∈Ls∨w.heap.size≤k)∧(∀k∈Ls',k∉L')∧bx∉L'∧bx∉Ls') aK (fun k hk=>hk.elim (fun h=>Za (E k h) aZ) fun h=>Za (ad k h) aZ) Ψ fun o5 V bx be az ai ba H h2 h3 h4=>?_).mono ?_
 ·have bb:=az.kp
  have aX:=az.size;have aL:=aK.BD az;have bB:=(hI.kept A aZ fun _ _=>Zk).kept bb aX fun _ _=>Zk;have ac:=(U.kept A aZ fun _ _=>Zk).kept bb aX fun _ _=>Zk;have O:=(hc.kept A aZ).kept bb aX;obtain⟨j2,n2⟩:=az.frozen.BF k2 (z.ge l2);obtain⟨j3,n3⟩:=az.frozen.BF k3 (z.ge l3);have j1:=(ai.block b1 Z.lt).trans Z;have Y:=(ai.block b4 k4.lt).trans k4;have aO:=ba.lt;refine (r0 aL bB ac O ba (fun e=>by have:=ad bx e;omega) (fun e=>by have:=E bx e;omega) hF (aE _ _ _ _ aL bB ((hE.kept A).kept bb) ((aw.kept A).kept bb) ac O hd) aM (by simpa using ak) b1 b2 b3 b4 j1 j2 j3 Y n2 n3).mono ?_;rintro e w6 ⟨rfl,o6,L6,Ls6,q1,q2,q3,q4,q5,q6,q7⟩;have m1:∀k∈L6,k≠bx∧k≠be:=fun k hk=>by
   rcases q5 k hk with e | e
   ·have:=E k e;omega
   ·omega
  have m2:∀k∈Ls6,k≠bx∧k≠be:=fun k hk=>by
   rcases q6 k hk with e | e
   ·have:=ad k e;omega
   ·omega
  exact⟨rfl,o6,q1,q4,fun w7 I hs=>⟨L6,Ls6,q2.kept I hs m1,q3.kept I hs m2,fun k hk=>(q5 k hk).imp id fun e=>by omega,fun k hk=>(q6 k hk).imp id fun e=>by omega,q7,fun e=>(m1 _ e).1 rfl,fun e=>(m2 _ e).1 rfl⟩⟩
 ·rintro e w6 ⟨o6,a,cp,bx,rfl,t6,⟨L6,Ls6,q1,q2,q3,q4,q5,q6,q7⟩,g1,g2,ao⟩
  exact⟨_,_,rfl,o6,L6,Ls6,a,cp,bx,rfl,rfl,⟨(Zb z hb).same z t6,q1,q2,q3,q4,q5⟩,q6,q7,ω,g2,ao⟩
def kY (L Ls:List Nat) (o:ab) (w:World) (v:Value) (n:Int) (w':World):Prop:=v= .slice none 0 0∧n=6∧∃o',J (fun k=>k∈L∨k∈Ls) o w o' w'
def vv {next} (z:Wf o w) (hI:aI o w W wm L) (hE:a6 o w) (aw:bN o w) (U:a7 o w T c t Ls) (hc:bz o w c p) (hd:∀k∈Ls,k∉L) (h:eL p t wm next=some .full) :
  Calls prog 43 #[π T,π W,ι next] w fun e w'=>∃v n,e= .returned (.tuple #[v,ι n])∧kY L Ls o w v n w':=by
 unfold eL at h
 split at h
 case isTrue=>cases h
 case isFalse hov=>
 obtain⟨r,hr,h⟩:=Zt.1 h
 split at h
 case h_2 x=>obtain⟨q,aM,e⟩:=Zs.1 h;cases e
 case h_1=>
 obtain⟨d,F,aG,hF,a9,aE⟩:=rW (W:=W) (T:=T) (c:=c) hr;have E:=hI.lt;have ad:=U.lt;refine nF _ z hI U hc (by simpa using hov) aG a9 fun M b1 b2 b3 b4 hb Z k2 k3 k4 l1 l2 l3 l4=>?_;have aK:=z.below hb;have aZ:=hb.size;have A:=(tB z hb).kp;refine (rE (T:=T) (D:=fun k=>k∈L∨k∈Ls) 73 #[π b1,π b2,π b3,π b4] 6 aK (fun k hk=>hk.elim (fun h=>Za (E k h) aZ) fun h=>Za (ad k h) aZ) Ψ fun o5 V bx be az ai ba H h2 h3 h4=>?_).mono ?_
 ·have bb:=az.kp
  have aX:=az.size;have aL:=aK.BD az;have bB:=(hI.kept A aZ fun _ _=>Zk).kept bb aX fun _ _=>Zk;have ac:=(U.kept A aZ fun _ _=>Zk).kept bb aX fun _ _=>Zk;have O:=(hc.kept A aZ).kept bb aX;exact rc _ hF (aE _ _ _ _ aL bB ((hE.kept A).kept bb) ((aw.kept A).kept bb) ac O hd) b1 b2 b3 b4 ((ai.block b1 Z.lt).trans Z) ((ai.block b2 k2.lt).trans k2) ((ai.block b3 k3.lt).trans k3) ((ai.block b4 k4.lt).trans k4)
 ·rintro e w6 ⟨rfl,o6,t6⟩
  exact⟨_,_,rfl,rfl,rfl,o6,(Zb z hb).same z t6⟩
def oY {S m} (h:a8 o w S m Ls):Calls prog 112 #[π S] w (μ (ι m.at_) w):=by
 obtain⟨_,_,_,_,_,_,_,_,h,-⟩:=h
 by_cases h0:m.at_=0
 ·have c1:=h.blk.c 1 rfl
  rw[h0] at c1 ⊢;clear h h0;have hn:Calls prog 155 #[π S] w (μ (.bool true) w):=by go_enter func155,ntmps155;go_wp2_with fail;go_ret;exact⟨rfl,rfl⟩
  clear c1;exact zd
 ·exact hw h h0
def jM (b:Bool) (o:ab) (w:World) (e:Ending) (w':World):Prop:=e= .returned (.bool b)∧∃o',J (fun _=>False) o w o' w'
def pi {b} (z:Wf o w) (hI:aI o w W wm L) (U:a7 o w T c t Ls) (h:gH t wm=some b):Calls prog 76 #[π T,π W] w (jM b o w):=by
 have bc:Calls prog 69 #[π W] w (μ (.bool false) w):=by obtain⟨Y,aB,aF,aC,cs,ds,hW,-⟩:=hI;exact ot hW
 obtain⟨xs,pa,va,pc,vc,hA,ad⟩:=id U;have aJ:=gn hA;obtain⟨-,-,-,t3,t4,-⟩:=kc4 hA.blk;unfold gH at h
 split at h
 case isTrue hov=>
  cases h
  rw[hov] at t3;have HW:=χ z;clear z hI U hA;go_enter func76,ntmps76;go_wp2_with first
   | (go_at_call 69;refine γ bc ?_)
   | (go_at_call 46;refine γ aJ ?_)
  go_ret;exact⟨rfl,o,ZM _ HW.out⟩
 case isFalse hov=>
  rw[show t.over=false by simpa using hov] at t3;clear hov;have E:(∀m,t.parts.getLast? ≠some (.meet m))→b=true→Calls prog 76 #[π T,π W] w (jM b o w):=by
   intro hn hb;subst hb;have H:=lD hA hn;have HW:=χ z;clear z hI U hA h hn;go_enter func76,ntmps76;go_wp2_with first
    | (go_at_call 69;refine γ bc ?_)
    | (go_at_call 46;refine γ aJ ?_)
    | (go_at_call 111;refine δ H ?_;intro w1 af)
   go_ret;exact⟨rfl,o,Zb HW.out af⟩
  split at h
  case h_2 hg=>
   cases h
   exact E (fun m e=>hg m e) rfl
  case h_1 m hg=>
   have hF:dy t=some m:=by unfold dy;rw[hg]
   obtain⟨ys,x,pa,va,pc,vc,f',ps,wa,bi,wc,bf,ll,hA,ad,hm,aT,O,a4,-,-,-⟩:=U.meet z hF;have H:=gU hA hm;have aO:=O.blk.lt;have d1:=Zz O.blk 1 rfl;have hsy:=O.sy
   split at h
   case h_2 hsm=>
    cases h
    rw[hsm] at hsy;obtain rfl:ps=none:=by
     cases ps with
     | none=>rfl
     | some S=>exact hsy.elim
    have HW:=χ z;clear z hI U hA O hsy E hg hF a4 ad aT hm hsm;generalize x.b=M at *;go_enter func76,ntmps76;go_wp2_with first
     | (go_at_call 69;refine γ bc ?_)
     | (go_at_call 46;refine γ aJ ?_)
     | (go_at_call 111;refine δ H ?_;intro w1 af;have d1:=(af.cell (p:=κ M 1) aO).trans d1)
     | (go_at_call 112;refine γ (rM w1) ?_)
    go_ret;exact⟨rfl,o,Zb HW.out af⟩
   case h_1 s hsm=>
    rw[hsm] at hsy;obtain⟨S,rfl⟩:∃S,ps=some S:=by
     cases ps with
     | none=>exact hsy.elim
     | some S=>exact⟨S,rfl⟩
    have a3:=χ (fun w1 (hb:Below (ν w) w w1) (h0:s.at_≠0)=>(show Calls prog 112 #[π S] w1 (fun e w'=>e= .returned (ι s.at_)∧w1=w')∧Calls prog 114 #[π S] w1 (fun e w'=>e= .returned (ι s.own)∧w1=w') from by
      obtain⟨_,_,_,_,_,_,_,_,ak,-⟩:=YA hsy (kB z hb) hb.size fun _ _=>Zk
      exact⟨hw ak h0,j7 ak h0⟩))
    split at h
    case isFalse h3=>
     cases h
     have I:=χ (fun w1 (hb:Below (ν w) w w1)=>oY (YA hsy (kB z hb) hb.size fun _ _=>Zk));have bl:(s.at_ != 3)=true:=by simp[h3]
     have HW:=χ z;clear z hI U hA O hsy E hg hF a4 ad aT hm hsm a3 h3;generalize x.b=M at *;go_enter func76,ntmps76;go_wp2_with first
      | (go_at_call 69;refine γ bc ?_)
      | (go_at_call 46;refine γ aJ ?_)
      | (go_at_call 111;refine δ H ?_;intro w1 af;have d1:=(af.cell (p:=κ M 1) aO).trans d1;have ah:=I.out w1 af)
      | (go_at_call 112;refine γ ah ?_)
     go_ret;exact⟨rfl,o,Zb HW.out af⟩
    case isTrue h3=>
     split at h
     case h_2=>cases h
     case h_1 u wm1 hgd=>
     split at h
     case h_2=>cases h
     case h_1 y wm2 hs=>
     cases h
     obtain⟨a5,-⟩:=eT hgd;have bl:(s.at_ != 3)=false:=by simp[h3]
     have aA:=χ (fun w1 (hb:Below (ν w) w w1)=>(e7 (z.below hb) (hI.kept (kB z hb) hb.size fun _ _=>Zk) a5 hs).2);have HW:=χ z;have h0:s.at_≠0:=ω;clear z hI U hA O hsy E hg hF a4 ad aT hm hsm a5 hs hgd h3;generalize x.b=M at *;go_enter func76,ntmps76;go_wp2_with first
      | (go_at_call 69;refine γ bc ?_)
      | (go_at_call 46;refine γ aJ ?_)
      | (go_at_call 111;refine δ H ?_;intro w1 af;have d1:=(af.cell (p:=κ M 1) aO).trans d1;obtain⟨ah,hOF⟩:=a3.out w1 af h0;have aK:=aA.out w1 af)
      | (go_at_call 112;refine γ ah ?_)
      | (go_at_call 114;refine γ hOF ?_)
      | (go_at_call 113;refine aK.mono ?_;rintro e G ⟨o2,aq,cs,rfl,hC⟩;obtain⟨aQ,ay,av,cb,cc,cv,rfl,-⟩:=hC)
     go_ret;have ae:=HW.out.below af;exact⟨rfl,o2,((Zb HW.out af).same HW.out aq).same HW.out (Zb (ae.BD aq) (am _ _))⟩
def mR {r} (fv) (h:∀w1,Below (ν w) w w1→Calls prog 94 #[π T] w1 (ϑ fv w1)) (bV:∀G,Below (ν w) w G→Calls prog 95 #[fv] G (d5 r G)) :
  Calls prog 68 #[π T] w (d5 r w):=by
 obtain⟨w1,aP,z1,b1,O⟩:=al1 w 149 [ι 0,ι 0,ζ];have ax:=h w1 b1;have H:=χ (fun G (hb:Below (ν w1) w1 G)=>bV G (b1.trans (hb.mono b1.size)));have HK:=χ O;have bu:=χ (Zf b1 z1);clear h bV O b1 z1;cases r with
 | none=>
   go_enter func68,ntmps68;go_wp2_with first
    | (go_at_call 94;refine δ ax ?_;intro G aa;have a1:=H.out G aa)
    | (go_at_call 95;refine a1.mono ?_;rintro e E ⟨ac,rfl⟩;have kb:=HK.out.BE (aa.trans (ac.mono aa.size));have y0:=Zz (w:=E) kb 0 rfl;have y1:=Zz (w:=E) kb 1 rfl;have y2:=Zz (w:=E) kb 2 rfl;have f0:=ZD (w:=E) kb 0;have f1:=ZD (w:=E) kb 1;have f2:=ZD (w:=E) kb 2)
   have hp:=cA kb (ι 0) (ι 0) (.slice none 0 0);have ag:=aa.trans (ac.mono aa.size);exact Zl (v:= .tuple #[.agg #[ι 0,ι 0,ζ],Δ]) (by simp[results,results68,go_sem,hp.c 0 rfl,hp.c 1 rfl,hp.c 2 rfl]) rfl ⟨cU (bu.out.1.trans (ag.mono bu.out.1.size)) (Zc _) _ _ _,rfl⟩
 | some x=>
   go_enter func68,ntmps68;go_wp2_with first
    | (go_at_call 94;refine δ ax ?_;intro G aa;have a1:=H.out G aa)
    | (go_at_call 95;refine a1.mono ?_;rintro e E ⟨ac,a,cc,rfl,hR,aB,hc2⟩;have kb:=HK.out.BE (aa.trans (ac.mono aa.size));have y0:=Zz (w:=E) kb 0 rfl;have y1:=Zz (w:=E) kb 1 rfl;have y2:=Zz (w:=E) kb 2 rfl;have f0:=ZD (w:=E) kb 0;have f1:=ZD (w:=E) kb 1;have f2:=ZD (w:=E) kb 2)
   have hp:=cA kb (ι x.kind) (ι x.fn) (.slice a x.args.length cc);have ag:=aa.trans (ac.mono aa.size);have z:=bu.out.1.trans (ag.mono bu.out.1.size);have hz:=bu.out.2;have a':=aa.size;refine Zl (v:= .tuple #[.agg #[ι x.kind,ι x.fn,.slice a x.args.length cc],Υ]) (by simp[results,results68,go_sem,hp.c 0 rfl,hp.c 1 rfl,hp.c 2 rfl]) rfl ⟨cU z (Zc _) _ _ _,a,cc,rfl,(hR.et fun g' hg q=>Zd (w:=E) ?_).more fun g' hg=>⟨by have:=hg.1;omega,by simpa [World.setCell] using hg.2⟩,aB,hc2⟩;have ay:g'≠w.heap.size:=by have:=hg.1;omega
   exact (((Z0 _ _ _ _ ay).trans (Z0 _ _ _ _ ay)).trans (Z0 _ _ _ _ ay))
def gw (p:List Fn) (t:aS):Option (Option ih):=match t.parts.getLast? with
 | some (.act F)=>eM p F
 | _=>some none
def lK {r} (z:Wf o w) (U:a7 o w T c t Ls) (hc:bz o w c p) (h:gw p t=some r):Calls prog 68 #[π T] w (d5 r w):=by
 unfold gw at h
 split at h
 case h_1 F hg=>
  have hF:b7 t=some F:=by unfold b7;rw[hg]
  obtain⟨ys,x,pa,va,pc,vc,g,hA,ad,hm,-,hb,-,hf,-,-⟩:=U.act z hF;exact mR _ (fun w1 af=>i1 (hA.kept (kB z af) af.size fun _ _=>Zk) hm ((af.block _ hb.lt).trans hb)) fun G aa=>gQ (z.below aa) (hf.below z aa) (hc.below z aa) h
 case h_2 hg=>
  cases h
  refine mR (.pointer none) (fun w1 af=>?_) fun G aa=>sO G;obtain⟨xs,pa,va,pc,vc,hA,-⟩:=U.below z af;rcases List.eq_nil_or_concat xs with rfl | ⟨ys,x,rfl⟩
  ·exact oN hA
  ·rw[List.concat_eq_append] at hA
   cases hm:x.m with
   | act F=>exact absurd (by rw[hA.pts];simp[hm]) (hg F)
   | meet m=>exact qo hA hm
end
end
section
section
variable {o o' o2:ab} {w w' G:World} {T c bx:Nat} {t t' t1:aS} {Ls Ls':List Nat} {p:List Fn} {es l:List a0}
def v' {n b1} (z:Wf o w) (U:a7 o w T c t Ls) (hl:bG o w bx []) (aj:bx∉Ls) (hc:bz o w c p) (ak:es.length≤1000000) (h:e5 p none n t=some (t',es)) (Z:A w b1 38 [π T]) :
  Calls prog 91 #[bJ bx,π b1] w (oC T c bx t' es Ls o w):=by have hA:=m9 (wx:=none) z U hl aj hc rfl (fun k hk=>by cases hk) (by simpa using ak) h;have c1:=Z.c 0 rfl;clear z U hl aj hc ak h Z;unfold bJ at *;go_enter func91,ntmps91;go_wp2_with (go_at_call 74;refine δ hA ?_;intro M ai);refine xQ ?_;exact⟨rfl,ai⟩
def kz (c:Nat) (t:aS) (o:ab) (w:World) (e:Ending) (w':World):Prop:=∃o' T Ls,e= .returned (.tuple #[.pointer (some ⟨T,0,none⟩),.int .i64 0])∧J (fun _=>False) o w o' w'∧a7 o' w' T c t Ls∧∀k∈Ls,w.heap.size≤k
def nN {num f} (args a cap) (z:Wf o w) (hc:bz o w c p) (hl:aU (ak (ο w) w) (ο w) w 3 args a) (h:gz p num f args=some t) :
  Calls prog 64 #[π c,ι num,ι f,.slice a args.length cap] w (kz c t o w):=by
 unfold gz at h
 split at h
 case isFalse=>cases h
 case isTrue hb=>
 obtain⟨hb,aw,aN⟩:=hb;obtain⟨q,aM,h⟩:=Zt.1 h
 split at h
 case isFalse=>cases h
 case isTrue hq=>
 cases h
 obtain⟨t9,es⟩:=q;obtain rfl:es=[]:=Z5 hq;unfold k4 at hb
 split at hb
 case h_2=>cases hb
 case h_1 fn hf=>
 simp only[Bool.and_eq_true,decide_eq_true_eq,List.all_eq_true] at hb;obtain⟨⟨⟨⟨e1,e2⟩,e3⟩,e4⟩,e5⟩:=hb;obtain⟨pa,pc,hC⟩:=id hc;have M:=wo args a cap z hC hl e2 e3 hf e1 e4 e5 rfl;have hm:decide (num < 0)=false:=Zn ω;have HW:=χ z;have HC:=χ hc;clear hl hf e1 e2 e3 e4 e5 hC z hc;go_enter func64,ntmps64;go_upto_region 8 with (go_at_call 90;refine M.mono ?_;rintro e G ⟨g,o2,rfl,hg,aq,a8⟩);obtain⟨x1,bA,aH,aV,O⟩:=al1 G 207 [π g];obtain⟨x2,a5,bc,aR,Z,au⟩:=al2 aV aH 103 [.iface 205 (ϖ G)];replace O:=au _ _ _ O;clear au;obtain⟨x3,ag,ad,ao,k2,au⟩:=al2 aR bc 101 [π c,ι num,.slice (Γ (η G)) 1 1,Δ,Δ,ι 0,ι 0,ζ];replace O:=au _ _ _ O;replace Z:=au _ _ _ Z;clear au;obtain⟨x4,am,aj,af,k3,au⟩:=al2 ao ad 38 [π (ς G)];replace O:=au _ _ _ O;replace Z:=au _ _ _ Z;replace k2:=au _ _ _ k2;clear au;go_upto_region 9 with fail;clear bA a5 ag am;have ap:=HW.out.BD aq;have a':=aq.size;have hc2:=HC.out.kept aq.frozen a';have an:=a8.lt;have t1:J Θ o2 G ((o2.set (G.heap.size+1+1) (some (G.heap.size+1+1))).set (η G) (some (G.heap.size+1+1))) x4:=((tB ap af).BN ω ω ω (.inr ω)).BN ω ω ω (.inr ω);obtain⟨T,ah⟩:∃T,G.heap.size+1+1=T:=⟨_,rfl⟩;have E:((o2.set (G.heap.size+1+1) (some (G.heap.size+1+1))).set (η G) (some (G.heap.size+1+1))) G.heap.size=none:=by rw[ab.BG _ _ ω,ab.BG _ _ ω];exact ap.ge (Zc _)
 have oa:((o2.set (G.heap.size+1+1) (some (G.heap.size+1+1))).set (η G) (some (G.heap.size+1+1))) (G.heap.size+1)=some (G.heap.size+1+1):=Zw _ _ _;have ob:((o2.set (G.heap.size+1+1) (some (G.heap.size+1+1))).set (η G) (some (G.heap.size+1+1))) (G.heap.size+1+1)=some (G.heap.size+1+1):=by rw[ab.BG _ _ ω];exact Zw _ _ _
 have o3:((o2.set (G.heap.size+1+1) (some (G.heap.size+1+1))).set (η G) (some (G.heap.size+1+1))) (G.heap.size+1+1+1)=none:=by rw[ab.BG _ _ ω,ab.BG _ _ ω];exact ap.ge ω
 generalize (o2.set (G.heap.size+1+1) (some (G.heap.size+1+1))).set (η G) (some (G.heap.size+1+1))=o4 at *;have Y:=a8.kept (t1.kp) t1.size trivial;have U:=hc2.kept t1.frozen t1.size;have aa:a7 o4 x4 T c ⟨num,[.act (cJ p dJ [⟨f,0,args,[]⟩])],false,vZ⟩ [T,g]:=by
  refine⟨[⟨.act (cJ p dJ [⟨f,0,args,[]⟩]),G.heap.size,[g]⟩],some ⟨G.heap.size+1,0,none⟩,none,1,0,⟨by rw[←ah];exact k2,by rw[←ah];exact ob,rfl,⟨_,⟨aQ.BP Z 1 rfl φ,fun q hq=>?_⟩,Y9 rfl rfl⟩,fun x hx=>?_,ZU _ _,fun x hx=>?_,by simp,e6 _ _⟩,rfl⟩
  ·obtain rfl:G.heap.size+1=q:=by simpa [Value.ownBlock] using hq
   rw[←ah];exact oa
  ·rw[List.mem_singleton.1 hx]
   exact⟨g,O,E,Y,rfl⟩
  ·rw[List.mem_singleton.1 hx]
   intro e;have:=Yo.1 e;omega
 have aK:=ap.BD t1;have bu:=oA (T:=T) (l:=[]) (D:=fun k=>k∈[T,g]) 91 #[π (G.heap.size+1+1+1)] (fun bx o' w'=>∃Ls',a7 o' w' T c t9 Ls'∧∀k∈Ls',w.heap.size≤k) aK aa.lt Ψ fun o5 V bx be az ai ba H h2 h3 h4=>by
   have bb:=az.kp;have aX:=az.size;have aL:=aK.BD az;have ac:=aa.kept bb aX fun _ _=>Zk;have aO:=ba.lt;have ay:bx∉[T,g]:=fun e=>by have:=aa.lt bx e;omega
   refine (v' aL ac ba ay (U.kept bb aX) ξ aM ((ai.block _ k3.lt).trans (by rw[←ah];exact k3))).mono ?_;rintro e w6 ⟨rfl,o6,Ls6,a1,a2,a3,a4⟩;have ae:∀k∈Ls6,(k=T∨k=g)∨V.heap.size≤k:=fun k hk=>(a4 k hk).imp (fun e=>by simpa using e) id;refine⟨rfl,o6,a1,a3,fun w7 I hs=>⟨Ls6,a2.kept I hs fun k hk=>?_,fun k hk=>?_⟩⟩
   ·rcases ae k hk with (e | e) | e <;> omega
   ·rcases ae k hk with (e | e) | e <;> omega
 have HT:=χ (Zf aq t1);have y3:=k3.c 0 rfl;have HK:=χ (Zf k3 o3);clear aa a8 Y hc2 U t1 aq O Z k2 E oa ob o3 ap aK aM M;have aE:w.heap.size≤T:=ω;have zx:=aH;clear aH bc ad aj;rw[ah] at *;go_wp2_with (go_at_call 72;refine bu.mono ?_;rintro e w6 ⟨o6,a6,c6,ax,rfl,t6,⟨Ls6,q1,q2⟩,g1,-⟩;obtain⟨k6,-⟩:=t6.frozen.BF HK.out.1 HK.out.2;have y6:=Zz (w:=w6) k6 0 rfl);obtain⟨aq,t1⟩:=HT.out
 exact Zl (v:= .tuple #[π T,ι 0]) (by simp[results,results64,go_sem]) rfl ⟨o6,T,Ls6,rfl,(aq.same HW.out t1).trans HW.out t6 fun k hk e=>by
   simp only[List.mem_cons,List.not_mem_nil,or_false] at e
   omega,q1,q2⟩
end
end
section
def Z (l:List Nat):Nat:=(l.map fun i=>2 ^ i).sum
def bF (m:bg) (c W:Nat) (ta ea ua:Option Addr) (tc ec uc:Nat):List Value:=[.int .i64 m.cells,.int .i64 m.threads,.int .i64 m.fuel,.pointer (some ⟨c,0,none⟩),.pointer (some ⟨W,0,none⟩),.slice ta m.ths.length tc,.int .u64 (Z m.runs),.bool m.full,.slice ea m.trace.length ec,.slice ua m.turns.length uc]
def d1 (n:Int):Value:= .iface 92 (.agg #[.int .i64 n])
def ed (n:Int):Ending:= .panicked [{v:=d1 n,recovered:=false}]
def ub (n w):(Instr.typeAssert (d1 n) 20 92 true).run prog w= .ok (.tuple #[.agg #[ι n],Υ]) w:=by
 unfold d1
 kernel_rfl
section
variable {w:World} {Y c W:Nat} {m:bg} {ta ea ua:Option Addr} {tc ec uc:Nat}
def vs (w):Calls prog 22 #[.pointer none] w (μ (.bool true) w):=by go_enter func22,ntmps22;go_wp2_with fail;go_ret;exact⟨rfl,rfl⟩
def ee (h:A w Y 32 (bF m c W ta ea ua tc ec uc)):Calls prog 22 #[π Y] w (μ (.bool false) w):=by have c3:=h.c 3 rfl;clear h;go_enter func22,ntmps22;go_wp2_with fail;go_ret;exact⟨rfl,rfl⟩
def hm (w):Calls prog 23 #[ι 0] w (μ (.tuple #[]) w):=by go_enter func23,ntmps23;go_wp2_with fail;exact⟨rfl,.tuple #[],by simp[results,results23,go_sem],rfl,rfl⟩
def gM (n) (h:n≠0) (w):Calls prog 23 #[ι n] w fun e w'=>e=ed n∧w=w':=by
 have hq:(n != 0)=true:=by simp[h]
 clear h;unfold ed d1;go_enter func23,ntmps23;go_wp2_with fail;refine⟨by simp,?_⟩;exact⟨rfl,rfl⟩
def no (v w):Calls prog 21 #[.nilIface,v] w (μ (.tuple #[]) w):=by go_enter func21,ntmps21;go_wp2_with fail;exact⟨rfl,.tuple #[],by simp[results,results21,go_sem],rfl,rfl⟩
def k9 (n) {be v0 w} (h:A w be 33 [v0]):Calls prog 21 #[d1 n,π be] w fun e w'=>e= .returned (.tuple #[])∧A w' be 33 [ι n]∧Fr (fun b=>b=be) w w':=by have L:=fun wx=>ub n wx;have l0:=h.lt;obtain⟨w1,aP,-,b1,Z⟩:=al1 w 92 [ι n];have O:=(b1.block be l0).trans h;obtain⟨r0,g0,-⟩:=kb0 O;have r1:=Z.c 0 rfl;have HP:=χ (show A (σ w1 be 0 (ι n)) be 33 [ι n]∧Fr (fun b=>b=be) w (σ w1 be 0 (ι n)) from⟨Yi O 0 _,(ZA b1).same (Z4 (q:=κ be 0) (.inl rfl))⟩);clear h O Z b1;unfold d1 at *;go_enter func21,ntmps21;go_wp2_with fail;refine xQ ?_;exact⟨rfl,HP.out⟩
def xx (h:A w Y 32 (bF m c W ta ea ua tc ec uc)):Calls prog 29 #[π Y] w (μ (.bool m.full) w):=by have c7:=h.c 7 rfl;clear h;go_enter func29,ntmps29;go_wp2_with fail;go_ret;exact⟨rfl,rfl⟩
def wd (h:A w Y 32 (bF m c W ta ea ua tc ec uc)):Calls prog 31 #[π Y] w (μ (.bool ((Z m.runs:Int) == 0)) w):=by have c6:=h.c 6 rfl;clear h;go_enter func31,ntmps31;go_wp2_with fail;go_ret;exact⟨rfl,rfl⟩
def re (h:A w Y 32 (bF m c W ta ea ua tc ec uc)):Calls prog 30 #[π Y] w (ϑ (.bool (decide (m.fuel≤(m.turns.length:Int)))) w):=by have c2:=h.c 2 rfl;have c9:=h.c 9 rfl;clear h;go_enter func30,ntmps30;go_wp2_with fail;go_region;go_wp2_with fail;go_ret;exact⟨rfl,(Zj _ _).drew⟩
def pL (a b f) (H:1≤a) (h2:a≤65536) (h3:1≤b) (h4:b≤64) (h5:0≤f) (h6:f≤1048576) (w):Calls prog 61 #[.agg #[ι a,ι b,ι f]] w (ϑ (.bool true) w):=by have hb:=am w (.cells #[ι a,ι b,ι f] 58);go_enter func61,ntmps61;go_wp2_with fail;go_ret;exact⟨rfl,hb⟩
def wb (b f w):Calls prog 61 #[.agg #[ι 0,ι b,ι f]] w (ϑ (.bool false) w):=by have hb:=am w (.cells #[ι 0,ι b,ι f] 58);go_enter func61,ntmps61;go_wp2_with fail;go_ret;exact⟨rfl,hb⟩
def kT (n:Nat) (h:0 < n) (hm:n≤64) (w):Calls prog 41 #[.int .u64 0,ι n] w (μ (.tuple #[ι 0,Υ]) w):=by
 have hd:decide ((n:Int) < 1)=false:=Zn ω;have z:IntKind.u64.wrap (n:Int)=n:=by simp[IntKind.wrap,IntKind.signed,IntKind.bits];omega
 go_enter func41,ntmps41;go_wp2_with fail;exact Zl (v:= .tuple #[ι 0,Υ]) (by simp[results,results41,go_sem]) rfl ⟨rfl,rfl⟩
end
end
section
structure b4 (o:ab) (w:World):Prop where
 lt:0 < w.heap.size
 own:o 0=none
 c0:w.cell? ⟨0,0,none⟩=some (.int .u8 0)
 c1:w.cell? ⟨0,1,none⟩=some (.int .u8 1)
def b4.kept {o o' w w' K} (h:b4 o w) (I:aM K o w o' w') (hs:w.heap.size≤w'.heap.size):b4 o' w':=by obtain⟨H,h2⟩:=I _ h.lt (fun k hk=>by rw[h.own] at hk;cases hk);exact⟨Za h.lt hs,h2.trans h.own,(Zd H).trans h.c0,(Zd H).trans h.c1⟩
def yG {p:Prop} (h:p:=by
 go_enter func47,ntmps47;go_wp2_with fail;go_ret
 exact⟨by kernel_rfl,rfl⟩):p:=h
def rF (w):Calls prog 47 #[.int .u64 0] w (μ (ι 0) w):=by exact yG
def oV (w):Calls prog 47 #[.int .u64 1] w (μ (ι 1) w):=by exact yG
def r2 (w):Calls prog 47 #[.int .u64 2] w (μ (ι 1) w):=by exact yG
def vh (w):Calls prog 47 #[.int .u64 3] w (μ (ι 2) w):=by exact yG
section
variable {o:ab} {w:World}
def pw (h:b4 o w):Calls prog 48 #[.int .u64 1] w (μ (ι 0) w):=by
 have c0:=h.c0;clear h;go_enter func48,ntmps48;have key:IntKind.u64.wrap (bits BinOp.and IntKind.u64 1 (IntKind.u64.wrap (-1))*285870213051353865) / 288230376151711744=0:=by kernel_rfl
 go_wp2_with (simp only[key]);go_ret;exact⟨by kernel_rfl,rfl⟩
def xE (h:b4 o w):Calls prog 48 #[.int .u64 2] w (μ (ι 1) w):=by
 have c1:=h.c1;clear h;go_enter func48,ntmps48;have key:IntKind.u64.wrap (bits BinOp.and IntKind.u64 2 (IntKind.u64.wrap (-2))*285870213051353865) / 288230376151711744=1:=by kernel_rfl
 go_wp2_with (simp only[key]);go_ret;exact⟨by kernel_rfl,rfl⟩
def wN (h:b4 o w):Calls prog 48 #[.int .u64 3] w (μ (ι 0) w):=by
 have c0:=h.c0;clear h;go_enter func48,ntmps48;have key:IntKind.u64.wrap (bits BinOp.and IntKind.u64 3 (IntKind.u64.wrap (-3))*285870213051353865) / 288230376151711744=0:=by kernel_rfl
 go_wp2_with (simp only[key]);go_ret;exact⟨by kernel_rfl,rfl⟩
end
end
section
def oz:(prog.info? 3).map (fun i=>(i.zero,i.size,i.bytes))=some (some (.int .i64 0),1,8):=by kernel_rfl
def aR (l:List Nat):Prop:=l=[]∨l=[0]∨l=[1]∨l=[0,1]
def aR.tail {i r} (h:aR (i :: r)):aR r:=by
 rcases h with h | h | h | h
 ·cases h
 ·injection h with _ h;exact .inl h
 ·injection h with _ h;exact .inl h
 ·injection h with _ h;exact .inr (.inr (.inl h))
def Bq {p:Prop} (h:p:=by
 rcases iq h with h | h | h | h
 ·cases h
 ·injection h with H h2;subst H h2;kernel_rfl
 ·injection h with H h2;subst H h2;kernel_rfl
 ·injection h with H h2;subst H h2;kernel_rfl):p:=h
def aR.next {i r} (h:aR (i :: r)):bits BinOp.and IntKind.u64 (Z (i :: r):Int) (IntKind.u64.wrap ((Z (i :: r):Int) - 1))=(Z r:Int):=by exact Bq
def aR.nz {i r} (h:aR (i :: r)):(((Z (i :: r):Int) != 0)=true):=by exact Bq
def aR.CY {o w i r} (h:aR (i :: r)) (hE:b4 o w):Calls prog 48 #[.int .u64 (Z (i :: r):Nat)] w (μ (ι i) w):=by
 rcases h with h | h | h | h
 ·cases h
 ·injection h with H h2;subst H h2;exact pw hE
 ·injection h with H h2;subst H h2;exact xE hE
 ·injection h with H h2;subst H h2;exact wN hE
def aR.C1 {l} (h:aR l) (w):Calls prog 47 #[.int .u64 (Z l:Nat)] w (μ (ι l.length) w):=by
 rcases h with rfl | rfl | rfl | rfl
 ·exact rF w
 ·exact oV w
 ·exact r2 w
 ·exact vh w
def aR.le {l} (h:aR l):l.length≤2:=by rcases h with rfl | rfl | rfl | rfl <;> decide
def cn (l:List Nat):List Value:=l.map fun i:Nat=>.int .i64 i
def gO (l:List Nat) (w:World) (e:Ending) (w':World):Prop:=∃g cap,e= .returned (.slice (some ⟨g,0,none⟩) l.length cap)∧w.heap.size≤g∧Below w.heap.size w w'∧aQ w' 3 1 (.slice (some ⟨g,0,none⟩) l.length cap) l.length (cn l)
def iX (l:List Nat) (w:World) (k:Nat) (s0 s3:Value) (wr:World):Prop:=∃d r g cap,d ++ r=l∧r.length=k∧aR r∧s0= .int .u64 (Z r:Nat)∧s3= .slice (some ⟨g,0,none⟩) d.length cap∧w.heap.size≤g∧Below w.heap.size w wr∧aQ wr 3 1 (.slice (some ⟨g,0,none⟩) d.length cap) d.length (cn d)
section
variable {o:ab} {w:World}
def j9 {l} (z:Wf o w) (hE:b4 o w) (h:aR l):Calls prog 32 #[.int .u64 (Z l:Nat)] w (gO l w):=by
 have I:=h.C1 w;obtain⟨i,hi,hz,a8,aH⟩:=cq oz;obtain⟨w1,aC,aX,aw⟩:=run_make_own (P:=prog) w (ν w) 47 3 i _ 1 underlying47 hi hz a8 .i64 .i64 l.length (by rw[aH];have:=h.le;omega) (by have:=h.le;unfold maxLen;omega) (Zc _);have af:Below (ν w) w w1:=⟨aw.os,aw.tape,aw.output,aw.size,fun q hq=>aw.block q hq (fun h=>by cases h)⟩;have a9:=h.le;have H0:iX l w l.length (.int .u64 (Z l:Nat)) (.slice (Γ (ν w)) 0 l.length) w1:=⟨[],l,w.heap.size,l.length,rfl,rfl,h,rfl,rfl,Zc _,af,aQ.Ca aX⟩;have aU:=χ (Zf z hE);clear z hE aX aw af hi hz a8 aH;go_enter func32,ntmps32;go_upto_region 2 with (go_at_call 47;refine γ I ?_);go_loopg [0,3] l.length (fun k s0 s3 wr=>iX l w k s0 s3 wr)
 case atStart=>exact H0
 case round=>
  clear H0 aC I;obtain⟨d,r,g,cap,an,hk,U,rfl,rfl,hg,hb,aE⟩:=hrel;cases r with
  | nil=>
    obtain rfl:d=l:=by simpa using an
    go_wp2_with fail;go_ret;exact⟨g,cap,rfl,hg,hb,aE⟩
  | cons i r=>
    have ap:=U.nz;have G:=U.next;have L:=U.CY (aU.out.2.kept ((tB aU.out.1 hb).kp) hb.size);generalize ak:Z (i :: r)=sn at *;have ah:=am wr (.cells #[ι i] 3);have aj:=hb.trans (ah.mono hb.size);have b1:aQ (wr.alloc (.cells #[ι i] 3)) 3 1 (.slice (Γ g) d.length cap) d.length (cn d):=aE.et fun q _ ad=>ah.block _ ad;have aW:(wr.alloc (.cells #[ι i] 3)).heap[wr.heap.size]? =some (.cells ([.int .i64 i]:List Value).toArray 3 (0,0)):=Zh wr 3 [ι i];have a4:d.length≤10000000000:=by have:=congrArg List.length an;rw[List.length_append] at this;omega
    have HS:=χ (Zf hg (Zf ah.size (Zf U.tail hk)));have HB:=χ aj;have HD:=χ an;clear hb ah hg U an hk aE aj;go_wp2_with first
     | (go_at_call 48;refine γ L ?_)
     | (at_builtin;go_loud (
        refine dU _ rfl _ _ 47 3 _ 1 8 underlying47 oz rfl φ φ rfl _ d.length (cn d) rfl b1 (ν wr) [ι i] rfl aW rfl (by intro u hu;rw[List.mem_singleton.1 hu];rfl) a4 ?_;intro g5 a0 V H h2 h3 h4;replace h2:(wr.alloc (.cells #[ι i] 3)).grownBy V (some g):=h2;replace h3:(some g=some g5)∨g5=(wr.alloc (.cells #[ι i] 3)).heap.size:=h3;have J:iX l w r.length (.int .u64 (Z r:Nat)) (.slice (Γ g5) (d.length+1) a0) V:=by
         have hg:=HS.out.1;have hs:=HB.out.size;have E:w.heap.size≤g5:=by
          rcases h3 with e | e
          ·injection e with e
           omega
          ·have:=HS.out.2.1;rw[e];exact hs
         refine⟨d ++ [i],r,g5,a0,by rw[List.append_assoc];exact HD.out,rfl,HS.out.2.2.1,rfl,by rw[List.length_append];rfl,E,?_,?_⟩
         ·exact⟨h2.os.trans HB.out.os,h2.tape.trans HB.out.tape,h2.output.trans HB.out.output,Zp hs h2.size,fun q hq=>(h2.block q (Za hq hs) (fun e=>by injection e with e;omega)).trans (HB.out.block q hq)⟩
         ·rw[show cn (d ++ [i])=cn d ++ [.int .i64 i] by simp[cn],List.length_append]
          exact H
        have HN:=χ J
        clear J H h2 h3 h4 aW b1))
    go_roundg r.length
    case measure=>have:=HS.out.2.2.2;simp at this;omega
    case rel=>exact HN.out
end
end
section
structure TX where
 m:aS
 b:Nat
 ls:List Nat
def fA (x:TX) (cs:List Value):Prop:=cs=[.pointer (some ⟨x.b,0,none⟩)]
def nI (x:List Nat×Nat) (cs:List Value):Prop:=cs=[.int .u64 (Z x.1:Nat),.int .u8 (x.2:Nat)]
structure aC (o:ab) (w:World) (Y c W:Nat) (m:bg) (ta ea ua:Option Addr) (tc ec uc:Nat) (xs:List TX) (L:List Nat):Prop where
 blk:A w Y 32 (bF m c W ta ea ua tc ec uc)
 own:o Y=some Y
 code:bz o w c m.p
 wld:aI o w W m.w L
 ths:m.ths=xs.map TX.m
 row:ax fA o w Y 38 1 (.slice ta m.ths.length tc) xs
 ok:∀x∈xs,a7 o w x.b c x.m x.ls
 dis:∀(i j:Nat) (x y:TX),xs[i]? =some x→xs[j]? =some y→i≠j→∀k∈x.ls,k∉y.ls
 ml:Y∉L
 mx:∀x∈xs,Y∉x.ls
 lx:∀x∈xs,∀k∈x.ls,k∉L
 tr:ax (bA (Fz o w) w) o w Y 88 10 (.slice ea m.trace.length ec) m.trace
 tu:ax nI o w Y 75 2 (.slice ua m.turns.length uc) m.turns
 two:aR m.runs
def aR.or {d r i} (h:aR (d ++ i :: r)):bits BinOp.or IntKind.u64 (Z d:Int) (IntKind.u64.wrap (2 ^ i))=(Z (d ++ [i]):Int):=by
 rcases d with _ | ⟨a,_ | ⟨b,d⟩⟩
 ·simp only[List.nil_append] at h
  have:i=0∨i=1:=by
   rcases h with h | h | h | h
   ·cases h
   ·injection h with h;exact .inl h
   ·injection h with h;exact .inr h
   ·injection h with h;exact .inl h
  rcases this with e | e
  ·subst e
   exact (show bits BinOp.or IntKind.u64 (Z []:Int) (IntKind.u64.wrap (2 ^ 0))=(Z [0]:Int) by kernel_rfl)
  ·subst e
   exact (show bits BinOp.or IntKind.u64 (Z []:Int) (IntKind.u64.wrap (2 ^ 1))=(Z [1]:Int) by kernel_rfl)
 ·simp only[List.cons_append,List.nil_append] at h
  rcases h with h | h | h | h
  ·cases h
  ·injection h with h h2;cases h2
  ·injection h with h h2;cases h2
  ·injection h with h h2
   injection h2 with h2 h3;subst h h2
   kernel_rfl
 ·rcases h with h | h | h | h <;> simp at h
def oE {wm i t ts l} (h:dj wm i (t :: ts)=some l):∃b r,gH t wm=some b∧dj wm (i+1) ts=some r∧l=if b=true then i :: r else r:=by unfold dj at h;obtain⟨b,hb,h⟩:=Zt.1 h;obtain⟨r,hr,rfl⟩:=Zs.1 h;exact⟨b,r,hb,hr,rfl⟩
def qJ (l:List Nat) (o:ab) (w:World) (e:Ending) (w':World):Prop:=e= .returned (.int .u64 (Z l:Nat))∧∃o',J (fun _=>False) o w o' w'
def il (wm:aH) (ths:List aS) (l:List Nat) (o:ab) (w:World) (k:Nat) (s7 aN:Value) (wr:World):Prop:=∃d r i o',dj wm i (ths.drop i)=some r∧d ++ r=l∧i+k=ths.length∧s7= .int .u64 (Z d:Nat)∧aN= .int .i64 (i:Nat)∧J (fun _=>False) o w o' wr
section
variable {o:ab} {w:World} {Y c W tc:Nat} {ta:Option Addr} {L:List Nat} {xs:List TX} {wm:aH} {l:List Nat}
def Br {p:Prop} (h:p:=by
 clear bT hb hl A U an O;go_wp2_with (go_at_call 76;refine ak.mono ?_;rintro e G ⟨rfl,o2,aq⟩);go_roundg (xs.length - (i+1))
 case measure=>omega
 case rel=>exact HN.out o2 G aq):p:=h
def tR (z:Wf o w) (hI:aI o w W wm L) (aE:ax fA o w Y 38 1 (.slice ta xs.length tc) xs) (az:∀x∈xs,a7 o w x.b c x.m x.ls) (h2:aR l) (hn:xs.length≤64) (h:dj wm 0 (xs.map TX.m)=some l) :
  Calls prog 75 #[.slice ta xs.length tc,π W,.func (.func 76) #[] #[]] w (qJ l o w):=by
 have HX:=χ (show ∀(o':ab) (wr:World),J Θ o w o' wr→∀(i:Nat) (x:TX),xs[i]? =some x→∃g,ta=some ⟨g,0,none⟩∧wr.cell? (κ g i)=π x.b∧∀b,gH x.m wm=some b→Calls prog 76 #[π x.b,π W] wr (jM b o' wr) from fun o' wr U i x hx=>by
   have I:=U.kp;obtain⟨a,cap,e,-,-,hf⟩:=(aE.kept I trivial fun _ _ e=>e).form;obtain⟨g,cs,rfl,-,-,-,hc,-,hp⟩:=hf i x hx;injection e with e;refine⟨g,e,?_,fun b hb=>pi (z.BD U) (hI.kept I U.size fun _ _=>Zk) ((az x (Zi hx)).kept I U.size fun _ _=>Zk) hb⟩;subst hp
   simpa using hc 0 φ)
 have H0:il wm (xs.map TX.m) l o w xs.length (.int .u64 (0:Nat)) (ι (0:Nat)) w:=⟨[],l,0,o,h,rfl,by simp,rfl,rfl,ZM _ z⟩;have HW:=χ z;clear z hI aE az h;go_enter func75,ntmps75;go_upto_region 3 with fail;go_loopg [7,12] xs.length (fun k s7 aN wr=>il wm (xs.map TX.m) l o w k s7 aN wr)
 case atStart=>exact H0
 case round=>
  clear H0;obtain⟨d,r,i,o',hl,an,hk,rfl,rfl,U⟩:=hrel;rw[List.length_map] at hk
  by_cases hi:i < xs.length
  ·have ad:decide (i < xs.length)=true:=Zy hi
   obtain⟨x,hx⟩:∃x,xs[i]? =some x:=⟨_,Zg hi⟩;obtain⟨g,rfl,aJ,bT⟩:=HX.out o' wr U i x hx;have O:i < (xs.map TX.m).length:=by simpa using hi
   rw[List.drop_eq_getElem_cons O] at hl;obtain⟨b,V,hb,A,hr⟩:=oE hl;rw[show (xs.map TX.m)[i]=x.m by rw[List.getElem_map];congr 1;exact (List.getElem?_eq_some_iff.1 hx).2] at hb;have ak:=bT b hb;have E:i+1+(xs.length - (i+1))=(xs.map TX.m).length:=by rw[List.length_map];omega
   cases b with
   | false=>rw[if_neg Bool.false_ne_true] at hr;subst hr;have HN:=χ (show ∀o2 G,J Θ o' wr o2 G→il wm (xs.map TX.m) l o w (xs.length - (i+1)) (.int .u64 (Z d:Nat)) (ι ((i:Nat)+1)) G from fun o2 G aq=>⟨d,_,i+1,o2,A,an,E,rfl,by simp,U.same HW.out aq⟩);exact Br
   | true=>rw[if_pos rfl] at hr;subst hr;have be:=(show aR (d ++ i :: V) from an ▸ h2).or;have HN:=χ (show ∀o2 G,J Θ o' wr o2 G→il wm (xs.map TX.m) l o w (xs.length - (i+1)) (.int .u64 (Z (d ++ [i]):Nat)) (ι ((i:Nat)+1)) G from fun o2 G aq=>⟨d ++ [i],V,i+1,o2,A,by rw[List.append_assoc];exact an,E,rfl,by simp,U.same HW.out aq⟩);exact Br
  ·have ad:decide (i < xs.length)=false:=Zn hi
   rw[List.drop_eq_nil_of_le Ξ] at hl;cases hl
   rw[List.append_nil] at an;subst an;have HT:=χ U;clear U;go_wp2_with fail;go_ret;exact⟨rfl,o',HT.out⟩
end
end
section
section
variable {o o':ab} {w w':World} {Y c W tc ec uc:Nat} {ta ea ua:Option Addr} {L l:List Nat} {xs:List TX} {m:bg} {K:Nat→Prop}
def aC.kept (h:aC o w Y c W m ta ea ua tc ec uc xs L) (I:aM K o w o' w') (hs:w.heap.size≤w'.heap.size) (hM:K Y) (hL:∀k∈L,K k) (hx:∀x∈xs,∀k∈x.ls,K k):aC o' w' Y c W m ta ea ua tc ec uc xs L:=by obtain⟨H,h2⟩:=I.blk h.blk h.own hM;exact⟨H,h2,h.code.kept I hs,h.wld.kept I hs hL,h.ths,h.row.kept I hM fun _ _ e=>e,fun x z=>(h.ok x z).kept I hs (hx x z),h.dis,h.ml,h.mx,h.lx,h.tr.kept I hM fun _ _ e=>e.kept I hs,h.tu.kept I hM fun _ _ e=>e,h.two⟩
def aC.lt (h:aC o w Y c W m ta ea ua tc ec uc xs L):Y < w.heap.size:=h.blk.lt
def ax.ne {α:Type} {P an T sz k g v} {r:List α} {cs} (h:ax P o w k an sz v r) (hb:A w g T cs) (U:T≠an):v.ownBlock≠some g:=by obtain⟨ys,h,-⟩:=h;exact bq hb h.row U
def aC.looked (h:aC o w Y c W m ta ea ua tc ec uc xs L) (z:Wf o w) (h2:aR l):J (·=Y) o w o (σ w Y 6 (.int .u64 (Z l:Nat)):World)∧aC o (σ w Y 6 (.int .u64 (Z l:Nat))) Y c W {m with runs:=l} ta ea ua tc ec uc xs L:=by have U:J (·=Y) o w o (σ w Y 6 (.int .u64 (Z l:Nat))):=Z3 (D:=(·=Y)) z h.own rfl _ _;have I:=U.et (K:=(·≠Y)) fun _ h=>h;have hs:=U.size;exact⟨U,h.blk.set 6 _,h.own,h.code.kept I hs,h.wld.kept I hs fun k hk e=>h.ml (e ▸ hk),h.ths,h.row.BH (h.row.ne h.blk φ) _ _ fun _ _ e=>e,fun x hx=>(h.ok x hx).kept I hs fun k hk e=>h.mx x hx (e ▸ hk),h.dis,h.ml,h.mx,h.lx,h.tr.BH (h.tr.ne h.blk φ) _ _ fun _ _ e=>e.kept I hs,h.tu.BH (h.tu.ne h.blk φ) _ _ fun _ _ e=>e,h2⟩
def kU (Y c W:Nat) (m:bg) (ta ea ua:Option Addr) (tc ec uc:Nat) (xs:List TX) (L:List Nat) (o:ab) (w:World) (e:Ending) (w':World):Prop:=e= .returned (.tuple #[])∧∃o',J (·=Y) o w o' w'∧aC o' w' Y c W m ta ea ua tc ec uc xs L
def k7 (z:Wf o w) (h:aC o w Y c W m ta ea ua tc ec uc xs L) (h2:aR l) (hn:xs.length≤64) (hl:dj m.w 0 m.ths=some l):Calls prog 44 #[π Y] w (kU Y c W {m with runs:=l} ta ea ua tc ec uc xs L o w):=by
 have aH:=h.ths;rw[aH] at hl;have aE:=h.row;rw[aH,List.length_map] at aE;have ax:w.heap.size≤w.drew.heap.size:=(Zj (ν w) w).drew.size;have aV:=z.BD (tB z (Zj _ _).drew);have bh:=(tB z (Zj _ _).drew).kp;have E:=tR aV (h.wld.kept bh ax fun _ _=>Zk) (aE.kept bh trivial fun _ _ e=>e) (fun x hx=>(h.ok x hx).kept bh ax fun _ _=>Zk) h2 hn hl;have c5:=h.blk.c 5 rfl;rw[aH,List.length_map] at c5
 have HF:=χ (show ∀(o2:ab) (G:World),J Θ o w.drew o2 G→J (·=Y) o w o2 (σ G Y 6 (.int .u64 (Z l:Nat)):World)∧aC o2 (σ G Y 6 (.int .u64 (Z l:Nat))) Y c W {m with runs:=l} ta ea ua tc ec uc xs L∧A G Y 32 (bF m c W ta ea ua tc ec uc) from fun o2 G aq=>by
   have U:=(tB z (Zj _ _).drew).same z aq;have H:=h.kept (U.kp) U.size trivial (fun _ _=>Zk) fun _ _ _ _=>Zk;obtain⟨q1,q2⟩:=H.looked (z.BD U) h2
   exact⟨(U.more' fun _ e=>e.elim).same z q1,q2,H.blk⟩)
 have HC:=χ (show ∀(o2:ab) (G:World),J Θ o w.drew o2 G→G.cell? (κ Y 4)=π W∧G.cell? (κ Y 5)=some (.slice ta xs.length tc) from fun o2 G aq=>by
   have hb:=(HF.out o2 G aq).2.2
   exact⟨hb.c 4 rfl,by have:=hb.c 5 rfl;rw[aH,List.length_map] at this;exact this⟩)
 have V:J Θ o w.drew o w.drew:=ZM _ aV;have aI:m.ths.length=xs.length:=by rw[aH,List.length_map]
 clear z h hl aE aV bh aH;go_enter func44,ntmps44;go_upto_region 0 with fail;refine bj [(0,true),(1,true),(2,true),(3,true),(4,true),(5,true),(6,true),(7,true),(8,true),(9,false),(10,true),(11,true),(12,false)] (fun w'=>w'.cell? (κ Y 4)=π W∧w'.cell? (κ Y 5)=some (.slice ta xs.length tc)) ψ ψ (HC.out _ _ V) ?_;generalize w.drew=w1 at *;iterate 9 (refine wpC_t ?_;refine pe ?_)
 refine xP ?_;intro K I;go_at_call 75;refine E.mono ?_;rintro e G ⟨rfl,o2,aq⟩;obtain⟨ag,az,kb⟩:=HF.out o2 G aq;refine I _ _ _ Φ (fun _=>HC.out _ _ aq) ?_;clear I K;refine pe ?_;obtain⟨-,-,-,-,-,-,-,-,-,-,-,-,r0,f0,-⟩:=kb6 kb;have HM:=χ (Zf ag az);clear ag az kb;iterate 2 (refine wpC_t ?_;refine pe ?_)
 refine xP ?_;intro K I;refine I _ _ _ Φ (fun _=>⟨HM.out.2.blk.c 4 rfl,by rw[←aI];exact HM.out.2.blk.c 5 rfl⟩) ?_;clear I K;refine pe ?_;refine bn ?_;go_wp2_with fail;refine xQ ?_;exact⟨rfl,o2,HM.out⟩
end
end
section
section
variable {w w':World} {Y c W tc ec uc:Nat} {ta ea ua:Option Addr} {l:List Nat} {m:bg}
def pQ (a b c:Bool):List MapEntry:=[⟨.int .i64 3,.bool a,0⟩,⟨.int .i64 4,.bool b,1⟩,⟨.int .i64 2,.bool c,2⟩]
def tF {w mm z a b c} (h:w.heap[mm]? =some (.map (pQ a b c).toArray z)) :
  (Instr.lookup 71 (.map (some mm)) (ι 3) false).run prog w= .ok (.bool a) w ∧
  (Instr.lookup 71 (.map (some mm)) (ι 4) false).run prog w= .ok (.bool b) w ∧
  (Instr.lookup 71 (.map (some mm)) (ι 2) false).run prog w= .ok (.bool c) w:=
 ⟨(f3 underlying71 underlying45 h (j:=0) rfl).1,(f3 underlying71 underlying45 h (j:=1) rfl).1,(f3 underlying71 underlying45 h (j:=2) rfl).1⟩
def wQ (a b c) (aJ:Calls prog 22 #[π Y] w (μ (.bool false) w)) (hf:∀w',Below (ν w) w w'→Calls prog 29 #[π Y] w' fun e G=>e= .returned (.bool a)∧Below (ν w') w' G) (hp:∀w',Below (ν w) w w'→Calls prog 30 #[π Y] w' fun e G=>e= .returned (.bool b)∧Below (ν w') w' G) (hs:∀w',Below (ν w) w w'→Calls prog 31 #[π Y] w' fun e G=>e= .returned (.bool c)∧Below (ν w') w' G) :
  Calls prog 9 #[π Y] w (ϑ (ι (if a=true then 3 else if b=true then 4 else if c=true then 2 else 1)) w):=by
 have am:=@run_makeMap prog;have i0:∀w,(Instr.index 72 (.agg #[ι 3,ι 4,ι 2]) (ι 0)).run prog w= .ok (ι 3) w:=fun _=>by kernel_rfl
 have H:∀w,(Instr.index 72 (.agg #[ι 3,ι 4,ι 2]) (ι 1)).run prog w= .ok (ι 4) w:=fun _=>by kernel_rfl
 have i2:∀w,(Instr.index 72 (.agg #[ι 3,ι 4,ι 2]) (ι 2)).run prog w= .ok (ι 2) w:=fun _=>by kernel_rfl
 have az:=dF w (.map #[] 0);have A:=ZP w (.map #[] 0);have hF:=hf _ az;have HP:=χ hp;have HS:=χ hs;clear hf hp hs;go_enter func9,ntmps9;go_upto_region 5 with first
  | (go_at_call 22;refine γ aJ ?_)
  | (go_at_call 29
     refine δ hF ?_;intro w1 af;have O:=(af.block (ν w) (aO A)).trans A;obtain⟨G,aK,z,aa⟩:=h (P:=prog) underlying71 underlying45 3 (.bool a) (az.trans (af.mono az.size)) (Zc _) O rfl
     have hP:=HP.out G aa)
  | (go_at_call 30
     refine δ hP ?_;intro E ac;have J:=(ac.block (ν w) (aO z)).trans z;obtain⟨M,aq,I,ah⟩:=h (P:=prog) underlying71 underlying45 4 (.bool b) (aa.trans (ac.mono aa.size)) (Zc _) J rfl
     have hS:=HS.out M ah)
  | (go_at_call 31
     refine δ hS ?_;intro V ai;have aj:=(ai.block (ν w) (aO I)).trans I
     obtain⟨w6,ao,U,aw⟩:=h (P:=prog) underlying71 underlying45 2 (.bool c) (ah.trans (ai.mono ah.size)) (Zc _) aj rfl)
 obtain⟨l1,l2,l3⟩:=tF (a:=a) (b:=b) (c:=c) U;have HB:=χ aw;clear A O z J I aj U az af aa ac ah ai aw aK aq ao;go_wp2_with fail;refine ZV 4 ?_;rw[rounds_succ];cases a with
 | true=>go_wp2_with fail;go_ret;exact⟨rfl,HB.out⟩
 | false=>
   go_wp2_with fail;rw[rounds_succ];cases b with
   | true=>go_wp2_with fail;go_ret;exact⟨rfl,HB.out⟩
   | false=>
     go_wp2_with fail;rw[rounds_succ];cases c with
     | true=>go_wp2_with fail;go_ret;exact⟨rfl,HB.out⟩
     | false=>go_wp2_with fail;rw[rounds_succ];go_wp2_with fail;go_ret;exact⟨rfl,HB.out⟩
def aR.zero {l} (h:aR l):((Z l:Int) == 0)=decide (l.length=0):=by rcases h with rfl | rfl | rfl | rfl <;> rfl
def ht (hb:A w Y 32 (bF m c W ta ea ua tc ec uc)) (h2:aR m.runs):Calls prog 9 #[π Y] w (ϑ (ι (cI m)) w):=by
 have hk:∀w',Below (ν w) w w'→A w' Y 32 (bF m c W ta ea ua tc ec uc):=fun w' h=>(h.block Y hb.lt).trans hb;refine (wQ m.full (decide (m.fuel≤(m.turns.length:Int))) (decide (m.runs.length=0)) (ee hb) (fun w' h=>(xx (hk w' h)).mono ?_) (fun w' h=>re (hk w' h)) (fun w' h=>(wd (hk w' h)).mono ?_)).mono ?_
 ·rintro e G ⟨rfl,rfl⟩
  exact⟨rfl,Zj _ _⟩
 ·rintro e G ⟨rfl,rfl⟩
  exact⟨by rw[h2.zero],Zj _ _⟩
 ·rintro e G ⟨rfl,aa⟩
  refine⟨?_,aa⟩;unfold cI;simp only[decide_eq_true_eq]
end
end
end Go.Proofs.YtmchabopafimeaaGreatDoor
