import Derived.Test.YtmchabopafimeaaGreatDoorQaz
namespace Go.Proofs.YtmchabopafimeaaGreatDoor
set_option maxRecDepth 100000
set_option maxHeartbeats 16000000
set_option linter.all false
open Go.RowKit Go.Sort Tryz
section
section
variable {o o':ab} {w w':World} {Y c W T tc ec uc:Nat} {ta ea ua:Option Addr} {Ls:List Nat} {m:bg} {t:aS} {K:Nat→Prop} {p:List Fn}
def fB (c:Nat) (ac:List aS) (o:ab) (w:World) (e:Ending) (w':World):Prop:=∃o',J (fun _=>False) o w o' w'∧((ac=[]∧e= .returned (.slice none 0 0))∨∃y T Ls g,ac=[y]∧e= .returned (.slice (some ⟨g,0,none⟩) 1 1)∧A w' g 38 [.pointer (some ⟨T,0,none⟩)]∧w.heap.size≤g∧o' g=none∧a7 o' w' T c y Ls∧∀k∈Ls,w.heap.size≤k)
def Bs {p:Prop} (h:p:=by
 clear hr hk;go_enter func42,ntmps42;go_wp2_with (go_at_call 68;refine hW.mono ?_;rintro e G ⟨aa,a,cc,rfl,-⟩);go_ret
 exact⟨o,Zb HW.out (aa.trans ((am G _).mono aa.size)),.inl ⟨rfl,rfl⟩⟩):p:=h
def js {next r} (Mv) (z:Wf o w) (hW:Calls prog 68 #[π T] w (d5 r w)) (hr:∀x,r=some x→x.kind=2→next < 0):Calls prog 42 #[Mv,π T,ι next] w (fB c [] o w):=by
 have HW:=χ z;clear z;cases r with
 | none=>clear hr;go_enter func42,ntmps42;go_wp2_with (go_at_call 68;refine hW.mono ?_;rintro e G ⟨aa,rfl⟩);go_ret;exact⟨o,Zb HW.out (aa.trans ((am G _).mono aa.size)),.inl ⟨rfl,rfl⟩⟩
 | some x=>
   by_cases hk:x.kind=2
   ·have hq:(x.kind != 2)=false:=by simp[hk]
    have hd:decide (next < 0)=true:=Zy (hr x rfl hk);exact Bs
   ·have hq:(x.kind != 2)=true:=by simp[hk]
    exact Bs
def qz {next x y} {f:Nat} (z:Wf o w) (hb:A w Y 32 (bF m c W ta ea ua tc ec uc)) (hc:bz o w c m.p) (hW:Calls prog 68 #[π T] w (d5 (some x) w)) (hk:x.kind=2) (hn:0≤next) (hf:x.fn=f) (h:gz m.p next f x.args=some y):Calls prog 42 #[π Y,π T,ι next] w (fB c [y] o w):=by
 have hq:(x.kind != 2)=false:=by simp[hk]
 have hd:decide (next < 0)=false:=Zn ω
 have HX:=χ (show ∀(G:World) (a:Option Addr) (cc:Nat),Below (ν w) w G→ap (Nw (ν w) G) G x.args a 0→Wf o (G.alloc (.cells #[ι x.kind,ι x.fn,.slice a x.args.length cc] 149))∧J Θ o w o (G.alloc (.cells #[ι x.kind,ι x.fn,.slice a x.args.length cc] 149)).drew∧A (G.alloc (.cells #[ι x.kind,ι x.fn,.slice a x.args.length cc] 149)).drew (ν G) 149 [ι x.kind,ι x.fn,.slice a x.args.length cc]∧A (G.alloc (.cells #[ι x.kind,ι x.fn,.slice a x.args.length cc] 149)).drew Y 32 (bF m c W ta ea ua tc ec uc)∧Calls prog 64 #[π c,ι next,ι x.fn,.slice a x.args.length cc] (G.alloc (.cells #[ι x.kind,ι x.fn,.slice a x.args.length cc] 149)).drew (kz c y o (G.alloc (.cells #[ι x.kind,ι x.fn,.slice a x.args.length cc] 149)).drew) from fun G a cc aa hR=>by
   have ac:=am G (.cells #[ι x.kind,ι x.fn,.slice a x.args.length cc] 149);have k3:=Zh G 149 [ι x.kind,ι x.fn,.slice a x.args.length cc];have ah:=(aa.trans (ac.mono aa.size));have ai:=ah.drew;have O:=ac.drew;refine⟨z.below ah,Zb z ai,k3.drew,(ai.block Y hb.lt).trans hb,?_⟩;have hN:=nN x.args a cc (z.below ai) (hc.below z ai) (cE.1 ((hR.et fun g hg q=>O.cell (p:=κ g q) hg.2).more fun g hg=>Za hg.2 O.size)) h;rw[←hf] at hN
   exact hN)
 have HW:=χ z;clear z hb hc h hk hn hf;go_enter func42,ntmps42;go_upto_region 4 with (go_at_call 68;refine hW.mono ?_;rintro e G ⟨aa,a,cc,rfl,hR,-⟩);obtain⟨ax,ag,k3,kM,aD⟩:=HX.out G a cc aa hR;clear hW hR;obtain⟨-,r1,r2,-⟩:=kc2 k3;have U:=kM.c 3 rfl;generalize G.heap.size=g0 at *;generalize G.alloc (.cells #[ι x.kind,ι x.fn,.slice a x.args.length cc] 149)=E at *
 have HS:=χ (show ∀(o5:ab) (V:World),J Θ o E.drew o5 V→V.cell? (κ Y 3)=π c∧V.cell? (κ g0 1)=ι x.fn∧V.cell? (κ g0 2)=some (.slice a x.args.length cc) from fun o5 V az=>by
   have I:=az.kp;have Z:=(I Y kM.lt fun _ _=>Zk).1.trans kM;have ad:=(I g0 k3.lt fun _ _=>Zk).1.trans k3
   exact⟨Zz (w:=V) Z 3 rfl,Zz (w:=V) ad 1 rfl,Zz (w:=V) ad 2 rfl⟩)
 have HT:=χ (Zf ax ag);clear k3 kM ax ag HX aa;refine bj [(0,true),(1,true),(2,true),(3,true),(4,true),(5,true),(6,true),(7,true),(8,true),(9,false),(10,true),(11,true),(12,true),(13,true),(14,true)] (fun w'=>w'.cell? (κ Y 3)=π c∧w'.cell? (κ g0 1)=ι x.fn∧w'.cell? (κ g0 2)=some (.slice a x.args.length cc)) ψ ψ ⟨U,r1,r2⟩ ?_;generalize E.drew=M at *;iterate 9 (refine wpC_t ?_;refine pe ?_)
 refine xP ?_;intro K I;go_at_call 64;refine aD.mono ?_;rintro e V ⟨o5,T5,Ls5,rfl,az,bB,aG⟩;refine I _ _ _ Φ (fun _=>HS.out _ _ az) ?_;clear I K;refine yf ?_;have HX:=χ (Zf az (Zf bB aG));clear az bB aG aD HS r1 r2 U;go_wp2_with (go_at_call 23;refine γ (hm V) ?_);go_ret;obtain⟨az,bB,aG⟩:=HX.out;obtain⟨ax,ag⟩:=HT.out;have H:=ag.same HW.out az;have aL:=HW.out.BD H;have bo:=am V (.cells #[π T5] 38);have aX:=H.size;exact⟨o5,H.same HW.out (Zb aL bo),.inr ⟨y,T5,Ls5,V.heap.size,rfl,rfl,Zh V _ _,aX,aL.ge (Zc _),bB.below aL bo,fun k hk=>Zp ag.size (aG k hk)⟩⟩
def n3 {next ac} (z:Wf o w) (hb:A w Y 32 (bF m c W ta ea ua tc ec uc)) (hc:bz o w c m.p) (U:a7 o w T c t Ls) (h:gq m t next=some ac):Calls prog 42 #[π Y,π T,ι next] w (fB c ac o w):=by
 unfold gq at h
 split at h
 case h_1 F hg=>
  obtain⟨r,hr,h⟩:=Zt.1 h;have E:gw m.p t=some r:=by unfold gw;rw[hg];exact hr
  have hW:=lK z U hc E;cases r with
  | none=>cases h;exact js _ z hW fun x e=>by cases e
  | some x=>
    dsimp only at h
    split at h
    case isTrue hk=>
     split at h
     case isFalse=>cases h
     case isTrue hf=>
     obtain⟨y,hy,rfl⟩:=Zs.1 h;exact qz z hb hc hW hk.1 hk.2 (by omega:x.fn=(x.fn.toNat:Nat)) hy
    case isFalse hk=>
     cases h
     exact js _ z hW fun x' e hk2=>by cases e;omega
 case h_2 hg=>
  cases h
  have E:gw m.p t=some none:=by
   unfold gw
   split
   ·rename_i F hF;exact absurd hF (hg F)
   ·rfl
  exact js _ z (lK z U hc E) fun x e=>by cases e
end
end
section
section
variable {o o' o1:ab} {w w' w1:World} {Y c W tc ec uc:Nat} {ta ea ua:Option Addr} {L L' Ls':List Nat} {xs:List TX} {x:TX} {m:bg} {t':aS} {wm':aH}
def aC.CE (h:aC o w Y c W m ta ea ua tc ec uc xs L) {i} (hx:xs[i]? =some x) (hS:ao W x.b c t' wm' L x.ls o w o' w' L' Ls') :
  aC o' w' Y c W {m with w:=wm',ths:=m.ths.set i t'} ta ea ua tc ec uc (xs.set i ⟨t',x.b,Ls'⟩) L':=by
 obtain⟨q1,q2,q3,q4,q5,q6⟩:=hS;have hs:=q1.size;have ay:x∈xs:=Zi hx;have z:i < xs.length:=(Ze.1 hx).1;have I:aM (fun k=>k∉L∧k∉x.ls) o w o' w':=q1.et fun k h e=>e.elim h.1 h.2;have hM:Y∉L∧Y∉x.ls:=⟨h.ml,h.mx x ay⟩;have ad:∀y∈xs,∀k∈y.ls,k < w.heap.size:=fun y hy=>(h.ok y hy).lt;have G:=h.lt;obtain⟨b1,b2⟩:=I.blk h.blk h.own hM;have aI:(m.ths.set i t').length=m.ths.length:=List.length_set;have aV:∀(j:Nat) (y:TX),(xs.set i ⟨t',x.b,Ls'⟩)[j]? =some y→(j=i∧y=⟨t',x.b,Ls'⟩)∨(j≠i∧xs[j]? =some y):=fun j y hy=>by
  rw[List.getElem?_set] at hy
  split at hy
  ·rename_i e
   cases hy
   exact .inl ⟨e.symm,rfl⟩
  ·rename_i e
   exact .inr ⟨fun e2=>e e2.symm,hy⟩
 refine⟨?_,b2,h.code.kept I hs,q2,?_,?_,fun y hy=>?_,fun a b y O hy hz bc k hk E=>?_,fun e=>?_,fun y hy e=>?_,fun y hy k hk e=>?_,h.tr.kept I hM fun _ _ e=>e.kept I hs,h.tu.kept I hM fun _ _ e=>e,h.two⟩
 ·unfold bF at b1 ⊢
  rw[aI];exact b1
 ·rw[h.ths,List.map_set]
 ·rw[aI]
  obtain⟨rs,r1,r2⟩:=h.row.kept I hM (fun _ _ e=>e);refine⟨rs,by rw[List.length_set];exact r1,by rw[List.length_set];exact r2.1,fun j O hz=>?_⟩;rcases aV j O hz with ⟨rfl,rfl⟩ | ⟨-,e⟩
  ·exact r2.2 j x hx
  ·exact r2.2 j O e
 ·obtain⟨j,hj⟩:=ZI.1 hy
  rcases aV j y hj with ⟨rfl,rfl⟩ | ⟨e,hj⟩
  ·exact q3
  ·exact (h.ok y (Zi hj)).kept I hs fun k hk=>⟨h.lx y (Zi hj) k hk,h.dis j i y x hj hx e k hk⟩
 ·rcases aV a y hy with ⟨e1,rfl⟩ | ⟨e1,hy2⟩
  ·rcases aV b O hz with ⟨e2,rfl⟩ | ⟨e2,aw⟩
   ·exact bc (e1.trans e2.symm)
   ·rcases q5 k hk with e | e
    ·exact h.dis _ _ _ _ hx aw (fun e3=>e2 e3.symm) k e E
    ·have:=ad O (Zi aw) k E;omega
  ·rcases aV b O hz with ⟨e2,rfl⟩ | ⟨e2,aw⟩
   ·rcases q5 k E with e | e
    ·exact h.dis _ _ _ _ hy2 hx e1 k hk e
    ·have:=ad y (Zi hy2) k hk;omega
   ·exact h.dis _ _ _ _ hy2 aw bc k hk E
 ·exact (q4 Y e).elim h.ml fun e=>by omega
 ·obtain⟨j,hj⟩:=ZI.1 hy
  rcases aV j y hj with ⟨rfl,rfl⟩ | ⟨-,hj⟩
  ·exact (q5 Y e).elim hM.2 fun e=>by omega
  ·exact h.mx y (Zi hj) e
 ·obtain⟨j,hj⟩:=ZI.1 hy
  rcases aV j y hj with ⟨rfl,rfl⟩ | ⟨-,hj⟩
  ·exact q6 k hk e
  ·have A:=Zi hj
   rcases q4 k e with e | e
   ·exact h.lx y A k hk e
   ·have:=ad y A k hk;omega
def aQ.CH {an G sz E n O g v v' cs ba} (h:aQ w an sz v n cs) (V:aQ w G E v' O ba) (hE:G≠an) (hg:v'.ownBlock=some g):v.ownBlock≠some g:=by
 intro hv;rcases h.2 with ⟨rfl,-⟩ | ⟨g1,_,_,rfl,a1,-⟩
 ·cases hv
 ·rcases V.2 with ⟨rfl,-⟩ | ⟨g2,_,_,rfl,a2,-⟩
  ·cases hg
  ·obtain rfl:g1=g:=by simpa [Value.ownBlock] using hv
   obtain rfl:g2=g1:=by simpa [Value.ownBlock] using hg
   rw[a1] at a2;simp only[Option.some.injEq,Obj.cells.injEq] at a2;exact hE a2.2.1.symm
def aC.grown {an sz n O v v' cs ys} (h:aC o w Y c W m ta ea ua tc ec uc xs L) (z:Wf o w) (aE:aw o w Y an sz v n cs) (hE:32≠an) (q1:aQ w1 an sz v' O ys) (q2:w.grownBy w1 v.ownBlock) (q3:∀g,v'.ownBlock=some g→v.ownBlock=some g∨g=w.heap.size) :
  ∃o1,J (·=Y) o w o1 w1∧aw o1 w1 Y an sz v' O ys∧A w1 Y 32 (bF m c W ta ea ua tc ec uc)∧o1 Y=some Y∧v'.ownBlock≠some Y∧∀{α:Type} {Q:α→List Value→Prop} {G:TypeId} {E:Nat} {u:Value} {r:List α},ax Q o w Y G E u r→G≠an→ax Q o1 w1 Y G E u r:=by obtain⟨o1,t1,g1,Z⟩:=aE.Cl z h.lt q1 q2 q3;have ay:v.ownBlock≠some Y:=bq h.blk aE.row hE;obtain⟨e1,e2⟩:=Z Y h.lt ay;have af:A w1 Y 32 (bF m c W ta ea ua tc ec uc):=e1.trans h.blk;refine⟨o1,t1,g1,af,e2.trans h.own,bq af g1.row hE,fun {α Q G E u r} hr hEE=>?_⟩;obtain⟨rs,r1,r2⟩:=hr;have H:∀g,u.ownBlock=some g→g < w.heap.size∧v.ownBlock≠some g:=fun g hg=>⟨r1.row.lt hg,aE.row.CH r1.row hEE hg⟩;exact⟨rs,⟨r1.row.et fun g hg ad=>(Z g ad (H g hg).2).1,fun g hg=>(Z g (H g hg).1 (H g hg).2).2.trans (r1.own g hg)⟩,r2⟩
def aC.Cv (h:aC o w Y c W m ta ea ua tc ec uc xs L) (z:Wf o w) (y) {g cap rs} (r1:aw o w Y 75 2 (.slice ua m.turns.length uc) m.turns.length rs) (r2:aD nI 2 m.turns rs) (q1:aQ w1 75 2 (.slice (Γ g) (m.turns.length+1) cap) (m.turns.length+1) (rs ++ [.int .u64 (Z y.1:Nat),.int .u8 (y.2:Nat)])) (q2:w.grownBy w1 (Value.slice ua m.turns.length uc).ownBlock) (q3:(Value.slice ua m.turns.length uc).ownBlock=some g∨g=w.heap.size) :
  ∃o1,J (·=Y) o w o1 w1∧A w1 Y 32 (bF m c W ta ea ua tc ec uc)∧J (·=Y) o w o1 (σ w1 Y 9 (.slice (Γ g) (m.turns.length+1) cap):World)∧aC o1 (σ w1 Y 9 (.slice (Γ g) (m.turns.length+1) cap)) Y c W {m with turns:=m.turns ++ [y]} ta ea (some ⟨g,0,none⟩) tc ec cap xs L:=by
 obtain⟨o1,t1,g1,af,G,ay,M⟩:=h.grown z r1 φ q1 q2 fun g' aa=>by
  obtain rfl:g=g':=by simpa [Value.ownBlock] using aa
  exact q3
 have ae:=z.BD t1;have t3:=t1.same z (Z3 (D:=(·=Y)) ae G rfl 9 (.slice (Γ g) (m.turns.length+1) cap));have I:=t3.et (K:=(·≠Y)) fun _ h=>h;have hs:=t3.size;have aI:(m.turns ++ [y]).length=m.turns.length+1:=by simp
 have H:=M h.row φ;have h2:=M h.tr φ;refine⟨o1,t1,af,t3,?_,G,h.code.kept I hs,h.wld.kept I hs fun k hk e=>h.ml (e ▸ hk),h.ths,H.BH (H.ne af φ) _ _ fun _ _ e=>e,fun x hx=>(h.ok x hx).kept I hs fun k hk e=>h.mx x hx (e ▸ hk),h.dis,h.ml,h.mx,h.lx,h2.BH (h2.ne af φ) _ _ fun _ _ e=>e.kept I hs,⟨_,by rw[aI];exact g1.BH ay 9 _,r2.push rfl rfl⟩,h.two⟩;unfold bF at af ⊢;rw[aI];exact af.set 9 _
def aC.Cs (h:aC o w Y c W m ta ea ua tc ec uc xs L) (z:Wf o w) (es) {v' rs ys} (r1:aw o w Y 88 10 (.slice ea m.trace.length ec) m.trace.length rs) (r2:aD (bA (Fz o w) w) 10 m.trace rs) (r3:aD (bA (Fz o w) w) 10 es ys) (q1:aQ w1 88 10 v' (m.trace.length+es.length) (rs ++ ys)) (q2:w.grownBy w1 (Value.slice ea m.trace.length ec).ownBlock) (q3:∀g,v'.ownBlock=some g→(Value.slice ea m.trace.length ec).ownBlock=some g∨g=w.heap.size) :
  ∃o1 a1 c1,v'= .slice a1 (m.trace.length+es.length) c1∧J (·=Y) o w o1 w1∧A w1 Y 32 (bF m c W ta ea ua tc ec uc)∧J (·=Y) o w o1 (σ w1 Y 8 v':World)∧aC o1 (σ w1 Y 8 v') Y c W {m with trace:=m.trace ++ es} ta a1 ua tc c1 uc xs L:=by
 obtain⟨o1,t1,g1,af,G,ay,M⟩:=h.grown z r1 φ q1 q2 q3;obtain⟨a1,c1,rfl,-⟩:=g1.row.form;have ae:=z.BD t1;have t3:=t1.same z (Z3 (D:=(·=Y)) ae G rfl 8 (.slice a1 (m.trace.length+es.length) c1));have I:=t3.et (K:=(·≠Y)) fun _ h=>h;have hs:=t3.size;have aI:(m.trace ++ es).length=m.trace.length+es.length:=by simp
 have H:=M h.row φ;have h2:=M h.tu φ;refine⟨o1,a1,c1,rfl,t1,af,t3,?_,G,h.code.kept I hs,h.wld.kept I hs fun k hk e=>h.ml (e ▸ hk),h.ths,H.BH (H.ne af φ) _ _ fun _ _ e=>e,fun x hx=>(h.ok x hx).kept I hs fun k hk e=>h.mx x hx (e ▸ hk),h.dis,h.ml,h.mx,h.lx,⟨_,by rw[aI];exact g1.BH ay 8 _,(r2.mono fun _ _ e=>e.kept I hs).app (r3.mono fun _ _ e=>e.kept I hs)⟩,h2.BH (h2.ne af φ) _ _ fun _ _ e=>e,h.two⟩;unfold bF at af ⊢;rw[aI];exact af.set 8 _
def aC.Cz (h:aC o w Y c W m ta ea ua tc ec uc xs L) (z:Wf o w) (ys) (hy:∀y∈ys,a7 o w y.b c y.m y.ls) (bH:∀y∈ys,∀k∈y.ls,k≠Y∧k∉L∧∀x∈xs,k∉x.ls) (bo:ys.length≤1) {v' rs} (r1:aw o w Y 38 1 (.slice ta m.ths.length tc) xs.length rs) (r2:aD fA 1 xs rs) (q1:aQ w1 38 1 v' (xs.length+ys.length) (rs ++ ys.map fun y=>.pointer (some ⟨y.b,0,none⟩))) (q2:w.grownBy w1 (Value.slice ta m.ths.length tc).ownBlock) (q3:∀g,v'.ownBlock=some g→(Value.slice ta m.ths.length tc).ownBlock=some g∨g=w.heap.size) :
  ∃o1 a1 c1,v'= .slice a1 (xs.length+ys.length) c1∧J (·=Y) o w o1 w1∧A w1 Y 32 (bF m c W ta ea ua tc ec uc)∧J (·=Y) o w o1 (σ w1 Y 5 v':World)∧aC o1 (σ w1 Y 5 v') Y c W {m with ths:=m.ths ++ ys.map TX.m} a1 ea ua c1 ec uc (xs ++ ys) L:=by
 obtain⟨o1,t1,g1,af,G,ay,M⟩:=h.grown z r1 φ q1 q2 q3;obtain⟨a1,c1,rfl,-⟩:=g1.row.form;have ae:=z.BD t1;have t3:=t1.same z (Z3 (D:=(·=Y)) ae G rfl 5 (.slice a1 (xs.length+ys.length) c1));have I:=t3.et (K:=(·≠Y)) fun _ h=>h;have hs:=t3.size;have aI:(m.ths ++ ys.map TX.m).length=xs.length+ys.length:=by rw[h.ths];simp
 have ac:(xs ++ ys).length=xs.length+ys.length:=by simp
 have H:=M h.tr φ;have h2:=M h.tu φ;have r3:aD fA 1 ys (ys.map fun y=>.pointer (some ⟨y.b,0,none⟩)):=by
  match ys,bo with
  | [],_=>exact Ya _ _
  | [y],_=>exact Y9 rfl rfl
 refine⟨o1,a1,c1,rfl,t1,af,t3,?_,G,h.code.kept I hs,h.wld.kept I hs fun k hk e=>h.ml (e ▸ hk),by show m.ths ++ ys.map TX.m=_;rw[h.ths,List.map_append],⟨_,by rw[ac,aI];exact g1.BH ay 5 _,r2.app r3⟩,fun x hx=>?_,fun i j x O hx hz U k hk E=>?_,h.ml,fun x hx e=>?_,fun x hx k hk e=>?_,H.BH (H.ne af φ) _ _ fun _ _ e=>e.kept I hs,h2.BH (h2.ne af φ) _ _ fun _ _ e=>e,h.two⟩
 ·unfold bF at af ⊢
  rw[aI];exact af.set 5 _
 ·rcases Zv.1 hx with hx | hx
  ·exact (h.ok x hx).kept I hs fun k hk e=>h.mx x hx (e ▸ hk)
  ·exact (hy x hx).kept I hs fun k hk=>(bH x hx k hk).1
 ·rcases ZN i xs.length with hi | hi
  ·rw[List.getElem?_append_left hi] at hx
   rcases ZN j xs.length with hj | hj
   ·rw[List.getElem?_append_left hj] at hz
    exact h.dis i j x O hx hz U k hk E
   ·rw[List.getElem?_append_right hj] at hz
    exact (bH O (Zi hz) k E).2.2 x (Zi hx) hk
  ·rw[List.getElem?_append_right hi] at hx
   rcases ZN j xs.length with hj | hj
   ·rw[List.getElem?_append_left hj] at hz
    exact (bH x (Zi hx) k hk).2.2 O (Zi hz) E
   ·rw[List.getElem?_append_right hj] at hz
    have e1:=(Ze.1 hx).1;have e2:=(Ze.1 hz).1;omega
 ·rcases Zv.1 hx with hx | hx
  ·exact h.mx x hx e
  ·exact (bH x hx Y e).1 rfl
 ·rcases Zv.1 hx with hx | hx
  ·exact h.lx x hx k hk e
  ·exact (bH x hx k hk).2.1 e
end
end
section
section
variable {o:ab} {w:World} {Y c W:Nat} {m:bg} {ta ea ua:Option Addr} {tc ec uc:Nat}
def uu (h:A w Y 32 (bF m c W ta ea ua tc ec uc)):Calls prog 11 #[π Y] w (μ (ι (m.turns.length:Nat)) w):=by have hn:=ee h;have c9:=h.c 9 rfl;clear h;go_enter func11,ntmps11;go_wp2_with (go_at_call 22;refine γ hn ?_);go_ret;exact⟨rfl,rfl⟩
def si (h:A w Y 32 (bF m c W ta ea ua tc ec uc)):Calls prog 12 #[π Y] w (μ (ι (m.ths.length:Nat)) w):=by have hn:=ee h;have c5:=h.c 5 rfl;clear h;go_enter func12,ntmps12;go_wp2_with (go_at_call 22;refine γ hn ?_);go_ret;exact⟨rfl,rfl⟩
def pu (z:Wf o w) (hE:b4 o w) (h:A w Y 32 (bF m c W ta ea ua tc ec uc)) (h2:aR m.runs):Calls prog 10 #[π Y] w (gO m.runs w):=by
 have hn:=ee h;have hL:=j9 z hE h2;have c6:=h.c 6 rfl;clear h z hE;go_enter func10,ntmps10;go_wp2_with first
  | (go_at_call 22;refine γ hn ?_)
  | (go_at_call 32;refine hL.mono ?_;rintro e w1 ⟨g,cap,rfl,H,h3,h4⟩)
 go_ret;exact⟨g,cap,rfl,H,h3,h4⟩
end
end
section
def fF (n:Nat):List Value:=(List.range (n*10)).map fun i=>#[Value.int .i64 0,.int .i64 0,.int .i64 0,.int .i64 0,.int .i64 0,.int .i64 0,.int .i64 0,.int .i64 0,.int .i64 0,.slice none 0 0][i % 10]!
def ve (n):(fF n).length=n*10:=by simp[fF]
def vQ (n):madeCells (Value.agg #[ι 0,ι 0,ι 0,ι 0,ι 0,ι 0,ι 0,ι 0,ι 0,ζ]).cells (n*10)=(fF n).toArray:=by have hc:(Value.agg #[ι 0,ι 0,ι 0,ι 0,ι 0,ι 0,ι 0,ι 0,ι 0,ζ]).cells=#[.int .i64 0,.int .i64 0,.int .i64 0,.int .i64 0,.int .i64 0,.int .i64 0,.int .i64 0,.int .i64 0,.int .i64 0,.slice none 0 0]:=rfl;rw[hc];apply Y5.1;simp[madeCells,fF]
def qT (n:Nat) (hn:n≤1000000) (w):(Instr.makeSlice 29 (ι (n:Int)) (ι (n:Int))).run prog w= .ok (.slice (Γ (ν w)) n n) (w.alloc (.cells (fF n).toArray 88)):=by obtain⟨i,hi,hz,hs,hb⟩:=cq hJ;have hr:=run_make (P:=prog) w 29 88 i _ underlying29 hi hz .i64 .i64 n n ω (Int.le_refl _) (by rw[hb];omega) ω;rw[hs,Int.toNat_natCast,vQ] at hr;exact hr
def bA.nw {B:Nat} {w w':World} {e:a0} {cs:List Value} (h:bA (Nw B w) w e cs) (hc:∀g,Nw B w g→∀q,w'.cell? (κ g q)=w.cell? (κ g q)) (hs:w.heap.size≤w'.heap.size):bA (Nw B w') w' e cs:=by obtain⟨a,c,rfl,hv⟩:=h;exact⟨a,c,rfl,(hv.et fun g hg q=>hc g hg q).more fun g hg=>⟨hg.1,Za hg.2 hs⟩⟩
def px (l) (h:l.length=10) {v0 v1 v2 v3 I v5 v6 v7 v8 v9}:cr l [(0,v0),(1,v1),(2,v2),(3,v3),(4,I),(5,v5),(6,v6),(7,v7),(8,v8),(9,v9)]=[v0,v1,v2,v3,I,v5,v6,v7,v8,v9]:=by
 match l,h with
 | [_,_,_,_,_,_,_,_,_,_],_=>rfl
def j3 (es:List a0) (w:World) (k:Nat) (aK:Value) (wr:World):Prop:=∃i cs,i+k=es.length∧aK= .int .i64 (i:Nat)∧Below w.heap.size w wr∧A wr w.heap.size 88 cs∧cs.length=es.length*10∧aD (bA (Nw (w.heap.size+1) wr) wr) 10 (es.take i) (cs.take (i*10))
def hI (es:List a0) (w:World) (e:Ending) (w':World):Prop:=e= .returned (.slice (some ⟨w.heap.size,0,none⟩) es.length es.length)∧Below w.heap.size w w'∧∃cs,A w' w.heap.size 88 cs∧aD (bA (Nw (w.heap.size+1) w') w') 10 es cs
section
variable {o:ab} {w:World} {es:List a0} {a:Option Addr}
def lM (cp) (Y:cB o w es a) (hsm:∀e∈es,small e.v=true) (hl:es.length≤1000000):Calls prog 24 #[.slice a es.length cp] w (hI es w):=by
 have aC:=qT es.length hl w;have H0:j3 es w es.length (ι (0:Nat)) (w.alloc (.cells (fF es.length).toArray 88)):=⟨0,fF es.length,ω,rfl,am w _,Zh w _ _,ve _,by simpa using Ya _ _⟩;have ax:=χ Y;clear Y;go_enter func24,ntmps24;go_upto_region 3 with fail;go_loopg [11] es.length (fun k aK wr=>j3 es w k aK wr)
 case atStart=>exact H0
 case round=>
  clear H0 aC;obtain⟨i,cs,an,rfl,hb,hB,aq,aX⟩:=hrel
  by_cases hi:i < es.length
  ·have ad:decide (i < es.length)=true:=Zy hi
   obtain⟨e,he⟩:∃e,es[i]? =some e:=⟨_,Zg hi⟩;obtain⟨z,U,az,rfl,Z,-,I,va,vc,rfl,hV⟩:=ax.out i e he;have e0:wr.cell? (κ z (U+i*10))=ι e.kind:=(hb.cell (p:=κ z (U+i*10)) Z).trans ((I 0 φ).trans rfl);have e1:wr.cell? (κ z (U+i*10+1))=ι e.step:=(hb.cell (p:=κ z (U+i*10+1)) Z).trans ((I 1 φ).trans rfl);have e2:wr.cell? (κ z (U+i*10+2))=ι e.th:=(hb.cell (p:=κ z (U+i*10+2)) Z).trans ((I 2 φ).trans rfl);have e3:wr.cell? (κ z (U+i*10+3))=ι e.sy:=(hb.cell (p:=κ z (U+i*10+3)) Z).trans ((I 3 φ).trans rfl);have e4:wr.cell? (κ z (U+i*10+4))=ι e.br:=(hb.cell (p:=κ z (U+i*10+4)) Z).trans ((I 4 φ).trans rfl);have e5:wr.cell? (κ z (U+i*10+5))=ι e.pa:=(hb.cell (p:=κ z (U+i*10+5)) Z).trans ((I 5 φ).trans rfl);have e6:wr.cell? (κ z (U+i*10+6))=ι e.n:=(hb.cell (p:=κ z (U+i*10+6)) Z).trans ((I 6 φ).trans rfl);have e7:wr.cell? (κ z (U+i*10+7))=ι e.v.kd:=(hb.cell (p:=κ z (U+i*10+7)) Z).trans ((I 7 φ).trans rfl);have aA:wr.cell? (κ z (U+i*10+8))=ι e.v.n:=(hb.cell (p:=κ z (U+i*10+8)) Z).trans ((I 8 φ).trans rfl);have e9:wr.cell? (κ z (U+i*10+9))=some (.slice va e.v.l.length vc):=(hb.cell (p:=κ z (U+i*10+9)) Z).trans ((I 9 φ).trans rfl);have aa:=am wr (.cells #[ι e.kind,ι e.step,ι e.th,ι e.sy,ι e.br,ι e.pa,ι e.n,ι e.v.kd,ι e.v.n,.slice va e.v.l.length vc] 88);have k2:=Zh wr 88 [ι e.kind,ι e.step,ι e.th,ι e.sy,ι e.br,ι e.pa,ι e.n,ι e.v.kd,ι e.v.n,.slice va e.v.l.length vc];have O:=(aa.block _ hB.lt).trans hB
   have a5:aG (· < (wr.alloc (.cells #[ι e.kind,ι e.step,ι e.th,ι e.sy,ι e.br,ι e.pa,ι e.n,ι e.v.kd,ι e.v.n,.slice va e.v.l.length vc] 88)).heap.size) (wr.alloc (.cells #[ι e.kind,ι e.step,ι e.th,ι e.sy,ι e.br,ι e.pa,ι e.n,ι e.v.kd,ι e.v.n,.slice va e.v.l.length vc] 88)) e.v (.agg (υ e.v va vc)):=(hV.et fun g hg q=>((hb.trans (aa.mono hb.size)).cell (p:=κ g q) hg.2)).more fun g hg=>Za hg.2 (hb.trans (aa.mono hb.size)).size;have ap:=ce e.v _ _ (hsm e (Zi he)) a5;have aR:=hB.lt;have aM:=hb.size;go_upto_region 5 with fail;generalize wr.alloc (.cells #[ι e.kind,ι e.step,ι e.th,ι e.sy,ι e.br,ι e.pa,ι e.n,ι e.v.kd,ι e.v.n,.slice va e.v.l.length vc] 88)=G at *;generalize aw:wr.heap.size=bb at *;have a':bb≤G.heap.size:=by have:=aa.size;omega
   have hk2:=k2.lt;obtain⟨-,-,-,-,-,-,-,r7,r8,r9,-⟩:=kc9 k2;go_upto_region 6 with (go_at_call 40;go_loud (refine ap.mono ?_;rintro ee E ⟨v',rfl,ac,aN⟩;obtain⟨a3,c3,rfl,-,-⟩:=id aN.three;have k3:=(ac.block bb hk2).trans k2;have z7:=Zz (w:=E) k3 7 rfl;have z8:=Zz (w:=E) k3 8 rfl;have z9:=Zz (w:=E) k3 9 rfl;have y7:=ZD (w:=E) k3 7;have y8:=ZD (w:=E) k3 8;have y9:=ZD (w:=E) k3 9));have k4:A (σ (σ (σ E bb 7 (ι e.v.kd)) bb 8 (ι e.v.n)) bb 9 (.slice a3 e.v.l.length c3)) bb 88 [ι e.kind,ι e.step,ι e.th,ι e.sy,ι e.br,ι e.pa,ι e.n,ι e.v.kd,ι e.v.n,.slice a3 e.v.l.length c3]:=Yi (Yi (Yi k3 7 _) 8 _) 9 _;have ak:=(ac.block (ν w) (ZE O)).trans O;have ay:w.heap.size≠bb:=ω;have aj:A (σ (σ (σ E bb 7 (ι e.v.kd)) bb 8 (ι e.v.n)) bb 9 (.slice a3 e.v.l.length c3)) (ν w) 88 cs:=Y0 (q:=κ bb 9) (Y0 (q:=κ bb 8) (Y0 (q:=κ bb 7) ak (by simpa using ay) _) (by simpa using ay) _) (by simpa using ay) _;have J:Below bb wr (σ (σ (σ E bb 7 (ι e.v.kd)) bb 8 (ι e.v.n)) bb 9 (.slice a3 e.v.l.length c3)):=(((aa.trans (ac.mono a')).setCell (p:=κ bb 7) (Zc _) _).setCell (p:=κ bb 8) (Zc _) _).setCell (p:=κ bb 9) (Zc _) _;have ag:∀q,G.heap.size≤q→q≠bb∧w.heap.size+1≤q:=fun q hq=>by omega
   have aT:aG (Nw (η w) (σ (σ (σ E bb 7 (ι e.v.kd)) bb 8 (ι e.v.n)) bb 9 (.slice a3 e.v.l.length c3))) (σ (σ (σ E bb 7 (ι e.v.kd)) bb 8 (ι e.v.n)) bb 9 (.slice a3 e.v.l.length c3)) e.v (.agg (υ e.v a3 c3)):=(aN.et fun g hg q=>by have af:g≠bb:=(ag g hg.1).1;exact Zd (w:=E) (((Z0 _ _ _ _ af).trans (Z0 _ _ _ _ af)).trans (Z0 _ _ _ _ af))).more fun g hg=>⟨(ag g hg.1).2,by simpa [World.setCell] using hg.2⟩;have L:aD (bA (Nw (η w) (σ (σ (σ E bb 7 (ι e.v.kd)) bb 8 (ι e.v.n)) bb 9 (.slice a3 e.v.l.length c3))) (σ (σ (σ E bb 7 (ι e.v.kd)) bb 8 (ι e.v.n)) bb 9 (.slice a3 e.v.l.length c3))) 10 (es.take i) (cs.take (i*10)):=aX.mono fun _ _ h=>h.nw (fun g hg q=>J.cell (p:=κ g q) (by have h9:g < wr.heap.size:=hg.2;rw[aw] at h9;exact h9)) J.size;have ah:=hb.trans (J.mono ω);generalize (σ (σ (σ E bb 7 (ι e.v.kd)) bb 8 (ι e.v.n)) bb 9 (.slice a3 e.v.l.length c3):World)=M at *;have HF:=χ (Zf ah (Zf aT (Zf L (Zf aj (Zf aq hi)))));have aJ:∀j,j < 10→∃u,M.cell? (κ (ν w) (i*10+j))=some u∧M.frozen? (κ (ν w) (i*10+j))=false:=fun j hj=>by obtain⟨u,hu⟩:∃u,cs[i*10+j]? =some u:=⟨_,Zg ω⟩;exact⟨u,aj.c _ hu,aj.fz _⟩
   obtain⟨u0,q0,f0⟩:=aJ 0 φ;obtain⟨u1,q1,f1⟩:=aJ 1 φ;obtain⟨u2,q2,f2⟩:=aJ 2 φ;obtain⟨u3,q3,f3⟩:=aJ 3 φ;obtain⟨u4,q4,f4⟩:=aJ 4 φ;obtain⟨u5,q5,f5⟩:=aJ 5 φ;obtain⟨u6,q6,f6⟩:=aJ 6 φ;obtain⟨u7,q7,f7⟩:=aJ 7 φ;obtain⟨u8,q8,f8⟩:=aJ 8 φ;obtain⟨u9,q9,f9⟩:=aJ 9 φ;rw[Nat.add_zero] at q0 f0;clear hV a5 ap aN k3 z7 z8 z9 y7 y8 y9 ak J aT L ah aj aJ aX hb hB O k2 r7 r8 r9 aa ac e0 e1 e2 e3 e4 e5 e6 e7 aA e9;obtain⟨x0,x1,x2,x3,x4,x5,x6,x7,x8,x9,-⟩:=kc9 k4;go_wp2_with fail;obtain⟨ah,aT,L,aj,aq,hi⟩:=HF.out;have aF:A (σ (σ (σ (σ (σ (σ (σ (σ (σ (σ M (ν w) (i*10) (ι e.kind)) (ν w) (i*10+1) (ι e.step)) (ν w) (i*10+2) (ι e.th)) (ν w) (i*10+3) (ι e.sy)) (ν w) (i*10+4) (ι e.br)) (ν w) (i*10+5) (ι e.pa)) (ν w) (i*10+6) (ι e.n)) (ν w) (i*10+7) (ι e.v.kd)) (ν w) (i*10+8) (ι e.v.n)) (ν w) (i*10+9) (.slice a3 e.v.l.length c3)) (ν w) 88 (cr cs ([(0,.int .i64 e.kind),(1,.int .i64 e.step),(2,.int .i64 e.th),(3,.int .i64 e.sy),(4,.int .i64 e.br),(5,.int .i64 e.pa),(6,.int .i64 e.n),(7,.int .i64 e.v.kd),(8,.int .i64 e.v.n),(9,.slice a3 e.v.l.length c3)].map fun p=>(i*10+p.1,p.2))):=aW (b:=i*10) [(0,ι e.kind),(1,ι e.step),(2,ι e.th),(3,ι e.sy),(4,ι e.br),(5,ι e.pa),(6,ι e.n),(7,ι e.v.kd),(8,ι e.v.n),(9,.slice a3 e.v.l.length c3)] _ _ aj
   have bf:Fr (·=w.heap.size) M (σ (σ (σ (σ (σ (σ (σ (σ (σ (σ M (ν w) (i*10) (ι e.kind)) (ν w) (i*10+1) (ι e.step)) (ν w) (i*10+2) (ι e.th)) (ν w) (i*10+3) (ι e.sy)) (ν w) (i*10+4) (ι e.br)) (ν w) (i*10+5) (ι e.pa)) (ν w) (i*10+6) (ι e.n)) (ν w) (i*10+7) (ι e.v.kd)) (ν w) (i*10+8) (ι e.v.n)) (ν w) (i*10+9) (.slice a3 e.v.l.length c3)):=aE (S:=(·=w.heap.size)) rfl (i*10) [(0,ι e.kind),(1,ι e.step),(2,ι e.th),(3,ι e.sy),(4,ι e.br),(5,ι e.pa),(6,ι e.n),(7,ι e.v.kd),(8,ι e.v.n),(9,.slice a3 e.v.l.length c3)] M;generalize (σ (σ (σ (σ (σ (σ (σ (σ (σ (σ M (ν w) (i*10) (ι e.kind)) (ν w) (i*10+1) (ι e.step)) (ν w) (i*10+2) (ι e.th)) (ν w) (i*10+3) (ι e.sy)) (ν w) (i*10+4) (ι e.br)) (ν w) (i*10+5) (ι e.pa)) (ν w) (i*10+6) (ι e.n)) (ν w) (i*10+7) (ι e.v.kd)) (ν w) (i*10+8) (ι e.v.n)) (ν w) (i*10+9) (.slice a3 e.v.l.length c3):World)=V at *;have ai:Below (ν w) w V:=ah.trans (Yh bf (ν w) (fun q hq e=>by omega) ah.size);rw[m0 [(0,ι e.kind),(1,ι e.step),(2,ι e.th),(3,ι e.sy),(4,ι e.br),(5,ι e.pa),(6,ι e.n),(7,ι e.v.kd),(8,ι e.v.n),(9,.slice a3 e.v.l.length c3)] cs ξ ω,px _ Ξ] at aF;have ae:∀q,Nw (η w) M q→∀j,V.cell? (κ q j)=M.cell? (κ q j):=fun q hq j=>Zd (bf.block q hq.2 (by have h9:w.heap.size+1≤q:=hq.1;omega));have H:aG (Nw (η w) V) V e.v (.agg (υ e.v a3 c3)):=(aT.et fun q hq j=>ae q hq j).more fun q hq=>⟨hq.1,Za hq.2 bf.size⟩
   have aI:(cs.take (i*10) ++ ([.int .i64 e.kind,.int .i64 e.step,.int .i64 e.th,.int .i64 e.sy,.int .i64 e.br,.int .i64 e.pa,.int .i64 e.n,.int .i64 e.v.kd,.int .i64 e.v.n,.slice a3 e.v.l.length c3]:List Value)).length=(i+1)*10:=by simp;omega
   have ao:aD (bA (Nw (η w) V) V) 10 (es.take (i+1)) ((cs.take (i*10) ++ ([.int .i64 e.kind,.int .i64 e.step,.int .i64 e.th,.int .i64 e.sy,.int .i64 e.br,.int .i64 e.pa,.int .i64 e.n,.int .i64 e.v.kd,.int .i64 e.v.n,.slice a3 e.v.l.length c3]:List Value) ++ cs.drop (i*10+10)).take ((i+1)*10)):=by rw[List.take_left' aI,show es.take (i+1)=es.take i ++ [e] by rw[List.take_add_one,he];rfl];exact (L.mono fun _ _ h=>h.nw ae bf.size).push ⟨a3,c3,rfl,H⟩ rfl
   have HN:=χ (show j3 es w (es.length - (i+1)) (ι (i+1:Nat)) V from⟨i+1,_,ω,rfl,ai,aF,by simp;omega,ao⟩);clear ah aT L aj aF bf ai ae H ao;go_roundg (es.length - (i+1))
   case measure=>omega
   case rel=>exact HN.out
  ·have ad:decide (i < es.length)=false:=Zn hi
   obtain rfl:i=es.length:=ω;rw[List.take_length,List.take_of_length_le ω] at aX;have HB:=χ (Zf hb (Zf hB aX));clear hb hB aX;go_wp2_with fail;go_ret;exact⟨rfl,HB.out.1,cs,HB.out.2⟩
def ax.C5 {α:Type} {P an sz k n cc aa} {l:List α} (h:ax P o w k an sz (.slice aa n cc) l):aU P (ο w) w sz l aa:=by obtain⟨a',c',e,-,-,hf⟩:=h.form;injection e with e _ _;subst e;intro j x hx;obtain⟨g,cs,rfl,hg,-,H,h2,-,h3⟩:=hf j x hx;exact⟨g,0,cs,rfl,hg,H,fun i hi=>by rw[Nat.zero_add];exact h2 i hi,h3⟩
def xC {Y c W tc ec uc m ta ea ua xs L} (h:aC o w Y c W m ta ea ua tc ec uc xs L) (hsm:∀e∈m.trace,small e.v=true) (hl:m.trace.length≤1000000):Calls prog 14 #[π Y] w (hI m.trace w):=by
 have hn:=ee h.blk;have hC:=lM ec h.tr.C5 hsm hl;have c8:=h.blk.c 8 rfl;clear h;go_enter func14,ntmps14;go_wp2_with first
  | (go_at_call 22;refine γ hn ?_)
  | (go_at_call 24;refine hC.mono ?_;rintro e w1 ⟨rfl,af,hX⟩)
 go_ret;exact⟨rfl,af,hX⟩
end
end
section
section
variable {o:ab} {w:World} {b:Nat} {es:List a0} {a:Option Addr} {cp:Nat}
def dk (n:Int) (k:Nat) (es:List a0):List a0:=(es.take k).map (fun e=>{e with step:=n}) ++ es.drop k
def mJ (n k es):(dk n k es).length=es.length:=by unfold dk;simp;omega
def q5 {n k e} (h:es[k]? =some e):(dk n k es)[k]? =some e:=by have hk:=(Ze.1 h).1;unfold dk;rw[List.getElem?_append_right Ξ];simp only[List.length_map,List.length_take,Nat.min_eq_left (Nat.le_of_lt hk),Nat.sub_self];rw[List.getElem?_drop,Nat.add_zero,h]
def q6 {n k e} (h:es[k]? =some e):(dk n k es).set k {e with step:=n}=dk n (k+1) es:=by obtain⟨hk,he⟩:=Ze.1 h;unfold dk;rw[List.set_append_right _ _ (by rw[List.length_map,List.length_take];exact Nat.min_le_left _ _)];simp only[List.length_map,List.length_take,Nat.min_eq_left (Nat.le_of_lt hk),Nat.sub_self];rw[List.drop_eq_getElem_cons hk,List.set_cons_zero,List.take_succ_eq_append_getElem hk,List.map_append,List.append_assoc,he];rfl
def pq (n es):dk n 0 es=es:=by simp[dk]
def oK (n es):dk n es.length es=es.map fun e=>{e with step:=n}:=by simp[dk]
def pX (h:ax (bA (Fz o w) w) o w b 88 10 (.slice a es.length cp) es) (z:Wf o w) {j e} (hj:es[j]? =some e) (n) :
  ∃g,a=some ⟨g,0,none⟩∧w.frozen? (κ g (j*10+1))=false∧w.cell? (κ g (j*10+1))=ι e.step∧J (·=b) o w o (σ w g (j*10+1) (ι n):World)∧ax (bA (Fz o (σ w g (j*10+1) (ι n))) (σ w g (j*10+1) (ι n))) o (σ w g (j*10+1) (ι n)) b 88 10 (.slice a es.length cp) (es.set j {e with step:=n}):=by
 obtain⟨a',aA,e1,-,-,hf⟩:=h.form;obtain⟨g,cs,rfl,hg,aU,aq,be,aI,hP⟩:=hf j e hj;injection e1 with e1 _ _;subst e1;obtain⟨rs,r1,r2⟩:=h;have U:J (·=b) o w o (σ w g (j*10+1) (ι n)):=Z3 (D:=(·=b)) z aU rfl _ _;have I:=U.et (K:=(·≠b)) fun _ h=>h;obtain⟨va,vc,rfl,hv⟩:=hP;refine⟨g,rfl,aI _,(be 1 φ).trans rfl,U,rs.set (j*10+1) (ι n),⟨by rw[List.length_set];exact r1.row.stored _ _,r1.own⟩,?_⟩;have:=r2.cell (x:=({e with step:=n}:a0)) (P:=bA (Fz o w) w) hj (i:=1) φ (u:= .int .i64 n) fun cs _ hc=>by obtain⟨va,vc,rfl,hv⟩:=hc;exact⟨va,vc,rfl,hv⟩
 exact this.mono fun _ _ hc=>hc.kept I U.size
end
section
variable {o o':ab} {w w':World} {Y c W tc ec uc:Nat} {ta ea ua:Option Addr} {L:List Nat} {xs:List TX} {m m':bg} {l:List a0}
def ah (Y:Nat) (L:List Nat) (xs:List TX):List Nat:=Y :: (L ++ xs.flatMap TX.ls)
def jl (Y c W:Nat) (m':bg) (l:List a0) (Ls:List Nat) (o:ab) (w:World) (e:Ending) (w':World):Prop:=∃o' ta ea ua tc ec uc xs L a cp bx,e= .returned (.slice a l.length cp)∧J (·∈Ls) o w o' w'∧aC o' w' Y c W m' ta ea ua tc ec uc xs L∧(∀k∈ah Y L xs,k∈Ls∨w.heap.size≤k)∧bx∉ah Y L xs∧ax (bA (Fz o' w') w') o' w' bx 88 10 (.slice a l.length cp) l
def dq (o:ab) (w:World) (c:Nat) (ac:List aS) (ma:Option Addr) (mc lo:Nat) (xs:List TX):Prop:=xs.map TX.m=ac∧(∀y∈xs,a7 o w y.b c y.m y.ls∧∀k∈y.ls,lo≤k)∧((xs=[]∧ma=none∧mc=0)∨∃y g,xs=[y]∧ma=some ⟨g,0,none⟩∧mc=1∧A w g 38 [.pointer (some ⟨y.b,0,none⟩)]∧o g=none)
def dq.kept {K ac ma mc lo} (h:dq o w c ac ma mc lo xs) (I:aM K o w o' w') (hs:w.heap.size≤w'.heap.size) (hk:∀y∈xs,∀k∈y.ls,K k):dq o' w' c ac ma mc lo xs:=by obtain⟨H,h2,h3⟩:=h;refine⟨H,fun y hy=>⟨(h2 y hy).1.kept I hs (hk y hy),(h2 y hy).2⟩,h3.imp id ?_⟩;rintro ⟨y,g,rfl,rfl,rfl,hb,M⟩;obtain⟨Z,k2⟩:=I.BF hb M;exact⟨y,g,rfl,rfl,rfl,Z,k2⟩
def dq.lo {ac ma mc lo lo'} (h:dq o w c ac ma mc lo xs) (hl:lo'≤lo):dq o w c ac ma mc lo' xs:=⟨h.1,fun y hy=>⟨(h.2.1 y hy).1,fun k hk=>Zp hl ((h.2.1 y hy).2 k hk)⟩,h.2.2⟩
def fB.more {ac e} (h:fB c ac o w e w'):∃o' ma mc ys,e= .returned (.slice ma ac.length mc)∧J Θ o w o' w'∧dq o' w' c ac ma mc (ν w) ys:=by
 obtain⟨o',U,⟨rfl,rfl⟩ | ⟨y,T,Ls,g,rfl,rfl,hb,hg,M,hI,hL⟩⟩:=h
 ·exact⟨o',none,0,[],rfl,U,rfl,fun y hy=>(by cases hy),.inl ⟨rfl,rfl,rfl⟩⟩
 ·exact⟨o',_,_,[⟨y,T,Ls⟩],rfl,U,rfl,fun O hz=>by rw[List.mem_singleton.1 hz];exact⟨hI,hL⟩,.inr ⟨_,g,rfl,rfl,rfl,hb,M⟩⟩
def ax.CM {α:Type} {P an sz k n cc aa} {es:List α} (h:ax P o w k an sz (.slice aa n cc) es) (h0:0 < sz):∃ys,aD P sz es ys∧(0 < es.length→∃p,aa=some p)∧∀p,aa=some p→∀j u,ys[j]? =some u→w.cell? (p.add j)=some u:=by
 obtain⟨rs,r1,r2⟩:=h;obtain⟨a',c',e,-,-,hf⟩:=r1.row.form;injection e with e _ _;subst e;refine⟨rs,r2,fun hp=>?_,fun p hp j u hu=>?_⟩
 ·obtain⟨u,hu⟩:∃u,rs[0]? =some u:=⟨_,Zg (by rw[r2.1];exact Nat.mul_pos hp h0)⟩
  obtain⟨g,e,-⟩:=hf 0 u hu;exact⟨_,e⟩
 ·obtain⟨g,e,-,hc,-⟩:=hf j u hu
  rw[e] at hp;cases hp
  rw[Addr.add_plain,Nat.zero_add];exact hc
def sH:(prog.info? 38).map (fun i=>(i.zero,i.size,i.bytes))=some (some (.pointer none),1,8):=by kernel_rfl
def pg:(prog.info? 75).map (fun i=>(i.zero,i.size,i.bytes))=some (some (.agg #[.int .u64 0,.int .u8 0]),2,16):=by kernel_rfl
def dV (o:ab) (w:World) (g:Nat) (v:Value):Prop:=g < w.heap.size∧o g=none∧w.cell? ⟨g,0,none⟩=some v
def dV.kept {K g v} (h:dV o w g v) (I:aM K o w o' w') (hs:w.heap.size≤w'.heap.size):dV o' w' g v:=by
 obtain⟨H,h2⟩:=I g h.1 fun k hk=>by rw[h.2.1] at hk;cases hk
 exact⟨Za h.1 hs,h2.trans h.2.1,(Zd H).trans h.2.2⟩
def ol (n:Int) (es:List a0) (b:Nat) (a:Option Addr) (cp:Nat) (o:ab) (w:World) (k:Nat) (cf:Value) (wr:World):Prop:=∃j o',j+k=es.length∧cf= .int .i64 (j:Nat)∧J (·=b) o w o' wr∧ax (bA (Fz o' wr) wr) o' wr b 88 10 (.slice a es.length cp) (dk n j es)
def Bt {p q:Prop} (k:q) (h:Zq q→p:=by
 intro mq;have bL:=j9 z aB h.two;have bM:0 < m.runs.length:=(Ze.1 hk).1;have bX:=χ (fun w1=>kT m.runs.length bM (by have:=h.two.le;omega) w1);obtain⟨-,c1,-,-,-,c5,c6,-⟩:=kc6 h.blk;have cy:k < xs.length:=(Ze.1 hx).1;have aH:m.ths.length=xs.length:=by rw[h.ths,List.length_map]
 obtain⟨ga,cx,e1,-,-,hf⟩:=h.row.form;revert bL bM bX c1 c5 c6 cy aH ga cx e1 hf
 exact mq.u):p:=h ⟨k⟩
def Bu {p:Prop} (h:p:=by
 obtain⟨a1,cm,e1,-,-,aJ⟩:=aX.form;obtain⟨g2,e2,e4,e3,-⟩:=aJ 0 (ι k) (by unfold cn;rw[List.getElem?_map,hk];rfl);injection e1 with e1 _ _;rw[e2] at e1;injection e1 with e1;injection e1 with e1 _ _;rw[e1]
 exact⟨e4,HM.out.1.ge (by rw[←e1];exact aG),e3⟩):p:=h
def u' (z:Wf o w) (h:aC o w Y c W m ta ea ua tc ec uc xs L) (hE:a6 o w) (aw:bN o w) (aB:b4 o w) {k x ac t' wm' es rs} (hk:m.runs[0]? =some k) (hx:xs[k]? =some x) (ad:(m.ths.length:Int) < m.threads) (ap:gq m x.m (m.ths.length:Int)=some ac) (aE:eL m.p x.m m.w (m.ths.length:Int)=some (.ok t' wm' es)) (bD:es.length≤1000000) (bC:dj wm' 0 (m.ths.set k t' ++ ac)=some rs) (h2:aR rs) (ce:xs.length+1≤64) (cR:m.trace.length≤1000000) (cQ:m.turns.length≤1000000) :
  Calls prog 25 #[π Y,.int .u64 0] w (jl Y c W {m with w:=wm',ths:=m.ths.set k t' ++ ac,runs:=rs,trace:=m.trace ++ es.map (fun e=>{e with step:=(m.turns.length:Int)}),turns:=m.turns ++ [(m.runs,k)]} (es.map fun e=>{e with step:=(m.turns.length:Int)}) (ah Y L xs) o w):=by
 refine Bt ?_;intro bL bM bX c1 c5 c6 cy aH ga cx e1 hf;obtain⟨g,cs,rfl,an,bT,-,bB,-,bG⟩:=hf k x hx;injection e1 with e1 _ e3;subst e1;subst e3;unfold fA at bG;subst bG;have bV:w.cell? (κ g k)=π x.b:=by simpa using bB 0 φ
 have bK:=h.lt;have HM:=χ (Zf z (Zf h (Zf hE (Zf aw aB))));clear z h hE aw aB hf bB;go_enter func25,ntmps25;go_upto_region 3 with first
  | (go_at_call 32;refine bL.mono ?_;rintro e w1 ⟨g1,cF,rfl,aG,af,aX⟩;have cd:=bX.out w1)
  | (go_at_call 41;refine γ cd ?_)
 have bS:dV o w1 g1 (ι k):=Bu;have z0:=bS.2.2;have cO:=χ (fun n=>(show dV o (w1.drewN n) g1 (ι k) from bS.kept ((tB (HM.out.1.below af) (dP w1 n)).kp) (dP w1 n).size));clear bS;have z1:=(af.cell (p:=κ Y 5) bK).trans c5;have z2:=(af.cell (p:=κ g k) an).trans bV;have z3:=(af.cell (p:=κ Y 1) bK).trans c1;have aP:decide ((xs.length:Int) < m.threads)=true:=Zy (by rw[aH] at ad;exact ad)
 have b8:=χ (show ∀G,Below (ν w) w G→Calls prog 42 #[π Y,π x.b,ι (xs.length:Nat)] G (fB c ac o G) from fun G hb=>by
   obtain⟨z,h,-⟩:=HM.out;rw[aH] at ap
   exact n3 (z.below hb) ((hb.block Y bK).trans h.blk) (h.code.below z hb) ((h.ok x (Zi hx)).below z hb) ap)
 have bc:=χ (show ∀o3 E,J Θ o w o3 E→E.cell? (κ Y 4)=π W∧Calls prog 43 #[π x.b,π W,ι (xs.length:Nat)] E (fun e w'=>∃v n,e= .returned (.tuple #[v,ι n])∧k6 W x.b c t' wm' es L x.ls o3 E v n w') from fun o3 E ag=>by
   obtain⟨z,h,hE,aw,-⟩:=HM.out;have aU:=ag.kp;have h3:=h.kept aU ag.size trivial (fun _ _=>Zk) fun _ _ _ _=>Zk;rw[aH] at aE
   exact⟨h3.blk.c 4 rfl,rf (z.BD ag) h3.wld (hE.kept aU) (aw.kept aU) (h3.ok x (Zi hx)) h3.code (h3.lx x (Zi hx)) aE bD⟩)
 have bu:=χ (Zf af aX);clear ap aE aX bL bX;go_quiet (fail);go_wp2_with fail;go_quiet (fail);go_upto_region 11 with first
  | (go_at_call 42
     refine (b8.out _ (af.trans ((dP _ _).mono af.size))).mono ?_;intro e E b0;obtain⟨o3,ma,mc,ys,rfl,ag,ap⟩:=b0.more;have aY:=(tB HM.out.1 (af.trans ((dP w1 _).mono af.size))).same HM.out.1 ag;obtain⟨m4,aF⟩:=bc.out o3 E aY;replace ap:=ap.lo (af.trans ((dP w1 _).mono af.size)).size;have bW:=χ (Zf aY (Zf ap ((cO.out _).kept (ag.kp) ag.size)))
     clear b0 ag aY ap)
  | (go_at_call 43
     refine aF.mono ?_;rintro e M ⟨v,n,rfl,o4,L4,Ls4,a8,bf,bx,rfl,rfl,cD⟩;have cG:=χ cD
     clear cD)
  | (go_at_call 23;refine γ (hm M) ?_)
 have HA:=χ (show Wf o4 M∧aC o4 M Y c W {m with w:=wm',ths:=m.ths.set k t'} (some ⟨g,0,none⟩) ea ua tc ec uc (xs.set k ⟨t',x.b,Ls4⟩) L4∧dq o4 M c ac ma mc (ν w) ys∧J (·∈ah Y L xs) o w o4 M∧ax (bA (Fz o4 M) M) o4 M bx 88 10 (.slice a8 es.length bf) es∧(∀q∈ah Y L4 (xs.set k ⟨t',x.b,Ls4⟩),(q∈ah Y L xs∨w.heap.size≤q)∧q≠bx)∧(∀y∈ys,∀q∈y.ls,q∉ah Y L4 (xs.set k ⟨t',x.b,Ls4⟩)∧q≠bx)∧dV o4 M g1 (ι k)∧w.heap.size≤bx from by
   obtain⟨z,h,-⟩:=HM.out;obtain⟨aY,ap,cN⟩:=bW.out;obtain⟨hS,bE,cL,bQ,ca,b1⟩:=cG.out;have h3:=h.kept (aY.kp) aY.size trivial (fun _ _=>Zk) fun _ _ _ _=>Zk;have a5:=aY.size;have b9:=h.wld.lt;have ay:=Zi hx;have b6:=fun y hy=>(h.ok y hy).lt;have aa:=hS.1.et (K:=fun k=>k∉L∧k∉x.ls) fun k h e=>e.elim h.1 h.2;have aV:∀q,q∈ah Y L4 (xs.set k ⟨t',x.b,Ls4⟩)→q=Y∨q∈L4∨q∈Ls4∨∃y∈xs,q∈y.ls:=fun q hq=>by
    unfold ah at hq;rcases ZG.1 hq with e | hq
    ·exact .inl e
    ·rcases Zv.1 hq with e | hq
     ·exact .inr (.inl e)
     ·obtain⟨y,hy,hq⟩:=Z1.1 hq
      rcases ZY hy with hy | rfl
      ·exact .inr (.inr (.inr ⟨y,hy,hq⟩))
      ·exact .inr (.inr (.inl hq))
   have cB:∀q∈L,q∈ah Y L xs:=fun q hq=>Zo _ (Zm _ hq);have cg:∀y∈xs,∀q∈y.ls,q∈ah Y L xs:=fun y hy q hq=>Zo _ (Zx _ (Z1.2 ⟨y,hy,hq⟩));have cb:∀y∈ys,∀q∈y.ls,w.heap.size≤q∧q < E.heap.size:=fun y hy q hq=>⟨(ap.2.1 y hy).2 q hq,(ap.2.1 y hy).1.lt q hq⟩;refine⟨(z.BD aY).BD hS.1,h3.CE hx hS,ap.kept aa hS.1.size fun y hy q hq=>?_,(aY.more' fun _ e=>e.elim).same z (hS.1.more' fun q hq=>hq.elim (cB q) (cg x ay q)),b1,fun q hq=>?_,fun y hy q hq=>⟨fun e=>?_,?_⟩,cN.kept aa hS.1.size,ω⟩
   ·have:=(cb y hy q hq).1
    exact⟨fun e=>by have:=b9 q e;omega,fun e=>by have:=b6 x ay q e;omega⟩
   ·rcases aV q hq with rfl | e | e | ⟨y,hy,e⟩
    ·exact⟨.inl Zr,ω⟩
    ·exact⟨(hS.2.2.2.1 q e).imp (cB q) fun e=>by omega,fun e2=>bE (e2 ▸ e)⟩
    ·exact⟨(hS.2.2.2.2.1 q e).imp (cg x ay q) fun e=>by omega,fun e2=>cL (e2 ▸ e)⟩
    ·exact⟨.inl (cg y hy q e),by have:=b6 y hy q e;omega⟩
   ·have be:=cb y hy q hq
    rcases aV q e with e | e | e | ⟨O,hz,e⟩
    ·omega
    ·rcases hS.2.2.2.1 q e with e | e
     ·have:=b9 q e;omega
     ·omega
    ·rcases hS.2.2.2.2.1 q e with e | e
     ·have:=b6 x ay q e;omega
     ·omega
    ·have:=b6 O hz q e;omega
   ·have:=cb y hy q hq
    omega)
 have H0:ol (m.turns.length:Int) es bx a8 bf o4 M es.length (ι (0:Nat)) M:=⟨0,o4,ω,rfl,ZM _ HA.out.1,by rw[pq];exact HA.out.2.2.2.2.1⟩
 have H9:=χ (show ∀o5 V,J (·=bx) o4 M o5 V→V.cell? (κ Y 9)=some (.slice ua m.turns.length uc) from fun o5 V az=>by
   obtain⟨aK,h4,-,-,-,aL,-⟩:=HA.out;obtain⟨k5,-⟩:=(az.et (K:=(·≠bx)) fun _ h=>h).blk h4.blk h4.own (aL Y Zr).2
   exact Zz (w:=V) k5 9 rfl)
 have bU:=χ HA.out.1;clear b8 bc aF m4 z0 z1 z2 z3 aP;go_upto_region 12 with fail;go_loopg [75] es.length (fun k cf wr=>ol (m.turns.length:Int) es bx a8 bf o4 M k cf wr)
 case atStart=>exact H0
 case round=>
  clear H0;obtain⟨j,o5,bR,rfl,az,bY⟩:=hrel;have m9:=H9.out o5 wr az
  by_cases hj:j < es.length
  ·have ad:decide (j < es.length)=true:=Zy hj
   have ct:es[j]? =some es[j]:=Zg hj;have ck:=bY;rw[show (Value.slice a8 es.length bf)= .slice a8 (dk (m.turns.length:Int) j es).length bf by rw[mJ]] at ck;obtain⟨g4,rfl,aI,aq,a3,cj⟩:=pX ck (bU.out.BD az) (q5 ct) (m.turns.length:Int);rw[q6 ct,mJ] at cj;have HN:=χ (Zf (az.same bU.out a3) cj);clear az bY ck a3 cj;go_wp2_with fail;go_roundg (es.length - (j+1))
   case measure=>omega
   case rel=>exact⟨j+1,o5,ω,by go_num,HN.out.1,HN.out.2⟩
  ·have ad:decide (j < es.length)=false:=Zn hj
   obtain rfl:j=es.length:=ω;rw[oK] at bY
   have HB:=χ (show Wf o5 wr∧aC o5 wr Y c W {m with w:=wm',ths:=m.ths.set k t'} (some ⟨g,0,none⟩) ea ua tc ec uc (xs.set k ⟨t',x.b,Ls4⟩) L4∧dq o5 wr c ac ma mc (ν w) ys∧J (·∈ah Y L xs) o w o5 wr∧ax (bA (Fz o5 wr) wr) o5 wr bx 88 10 (.slice a8 es.length bf) (es.map fun e=>{e with step:=(m.turns.length:Int)})∧dV o5 wr g1 (ι k) from by
     obtain⟨aK,h4,cH,ao,-,aL,bo,cP,b7⟩:=HA.out;have bb:=az.et (K:=(·≠bx)) fun _ h=>h
     exact⟨aK.BD az,h4.kept bb az.size (aL Y Zr).2 (fun q hq=>(aL q (Zo _ (Zm _ hq))).2) (fun y hy q hq=>(aL q (Zo _ (Zx _ (Z1.2 ⟨y,hy,hq⟩)))).2),cH.kept bb az.size (fun y hy q hq=>(bo y hy q hq).2),ao.trans HM.out.1 az fun q hq e=>by omega,bY,cP.kept bb az.size⟩)
   clear az bY bR m9 ad;go_wp2_with fail;have aA:=χ (show ∀(o8:ab) (w8:World),A w8 Y 32 (bF {m with w:=wm',ths:=m.ths.set k t'} c W (some ⟨g,0,none⟩) ea ua tc ec uc)→dV o8 w8 g1 (ι k)→w8.cell? (κ Y 9)=some (.slice ua m.turns.length uc)∧w8.cell? (κ Y 6)=some (.int .u64 (Z m.runs:Nat))∧w8.cell? (κ g1 0)=ι k from fun o8 w8 hb hf=>⟨Zz (w:=w8) hb 9 rfl,Zz (w:=w8) hb 6 rfl,hf.2.2⟩);have cT:IntKind.u8.wrap (k:Int)=k:=by have:k < 64:=ω;simp[IntKind.wrap,IntKind.signed,IntKind.bits];omega
   have bz:Below (ν wr) wr wr.drew:=(Zj _ _).drew
   have bu:=χ (show Wf o5 wr.drew∧aC o5 wr.drew Y c W {m with w:=wm',ths:=m.ths.set k t'} (some ⟨g,0,none⟩) ea ua tc ec uc (xs.set k ⟨t',x.b,Ls4⟩) L4∧dq o5 wr.drew c ac ma mc (ν w) ys∧J (·∈ah Y L xs) o w o5 wr.drew∧ax (bA (Fz o5 wr.drew) wr.drew) o5 wr.drew bx 88 10 (.slice a8 es.length bf) (es.map fun e=>{e with step:=(m.turns.length:Int)})∧dV o5 wr.drew g1 (ι k) from by
     obtain⟨H,h2,h3,h4,h5,h6⟩:=HB.out;have I:=(tB H bz).kp
     exact⟨H.below bz,h2.kept I bz.size trivial (fun _ _=>Zk) (fun _ _ _ _=>Zk),h3.kept I bz.size (fun _ _ _ _=>Zk),h4.same HM.out.1 (Zb H bz),h5.kept I trivial fun _ _ e=>e.kept I bz.size,h6.kept I bz.size⟩)
   refine bj [(0,true),(1,true),(2,true),(3,true),(4,true),(5,true),(6,true),(7,true),(8,true),(9,true),(10,true),(11,true),(12,true),(13,true),(14,true),(15,false),(16,false),(17,false),(18,true),(19,false)] (fun w'=>w'.cell? (κ Y 9)=some (.slice ua m.turns.length uc)∧w'.cell? (κ Y 6)=some (.int .u64 (Z m.runs:Nat))∧w'.cell? (κ g1 0)=ι k) ψ ψ (aA.out o5 _ bu.out.2.1.blk bu.out.2.2.2.2.2) ?_;clear HB bz;generalize wr.drew=w6 at *;iterate 15 (refine wpC_t ?_;refine pe ?_)
   refine xP ?_;intro K I;have ae:=am w6 (.cells #[.int .u64 (Z m.runs:Nat),.int .u8 (k:Nat)] 75);have kb:=Zh w6 75 [.int .u64 (Z m.runs:Nat),.int .u8 (k:Nat)]
   have bl:=χ (show Wf o5 (w6.alloc (.cells #[.int .u64 (Z m.runs:Nat),.int .u8 (k:Nat)] 75))∧aC o5 (w6.alloc (.cells #[.int .u64 (Z m.runs:Nat),.int .u8 (k:Nat)] 75)) Y c W {m with w:=wm',ths:=m.ths.set k t'} (some ⟨g,0,none⟩) ea ua tc ec uc (xs.set k ⟨t',x.b,Ls4⟩) L4∧dV o5 (w6.alloc (.cells #[.int .u64 (Z m.runs:Nat),.int .u8 (k:Nat)] 75)) g1 (ι k)∧J Θ o5 w6 o5 (w6.alloc (.cells #[.int .u64 (Z m.runs:Nat),.int .u8 (k:Nat)] 75)) from by
     obtain⟨H,h2,-,-,-,h6⟩:=bu.out;have U:=tB H ae;have I:=U.kp
     exact⟨H.below ae,h2.kept I ae.size trivial (fun _ _=>Zk) (fun _ _ _ _=>Zk),h6.kept I ae.size,U⟩)
   refine I _ _ _ Φ (fun _=>aA.out o5 _ bl.out.2.1.blk bl.out.2.2.1) ?_;clear I K ae;refine pe ?_;generalize w6.alloc (.cells #[.int .u64 (Z m.runs:Nat),.int .u8 (k:Nat)] 75)=w7 at *;generalize w6.heap.size=gx at *;obtain⟨rt,r1,r2⟩:=bl.out.2.1.tu;refine aN rfl (fun K I=>?_);refine hT _ rfl _ _ 30 75 _ 2 16 underlying30 pg rfl φ φ rfl (.slice ua m.turns.length uc) m.turns.length rt rfl r1.row gx [.int .u64 (Z m.runs:Nat),.int .u8 (k:Nat)] rfl kb rfl (by intro u hu;simp only[List.mem_cons,List.not_mem_nil,or_false] at hu;rcases hu with rfl | rfl <;> rfl) ω ?_;intro g8 a9 w8 q1 q2 q3 q4;have cM:=bl.out.2.1.Cv bl.out.1 (m.runs,k) r1 r2 q1 q2 q3;clear q1 q2 q3 q4 r1 r2;obtain⟨o8,t8,kb8,t9,M9⟩:=cM;have aD:=χ (Zf t8 (Zf kb8 (Zf t9 (Zf M9 (bl.out.2.2.1.kept (t8.et (K:=(·≠Y)) fun _ h=>h) t8.size)))));clear t8 kb8 t9 M9 kb;refine I _ _ _ Φ (fun _=>aA.out o8 _ aD.out.2.1 aD.out.2.2.2.2) ?_;clear I K;refine pe ?_;refine xP ?_;intro K I;refine I _ _ _ Φ (fun _=>aA.out o8 _ aD.out.2.1 aD.out.2.2.2.2) ?_;clear I K;refine pe ?_;refine wpC_t ?_;refine pe ?_;obtain⟨-,-,-,-,-,-,-,-,-,-,-,-,-,-,-,-,-,-,r9,f9,-⟩:=kb9 aD.out.2.1;refine ya ?_;intro K I;clear I K;refine pe ?_;refine bn ?_;clear r9 f9 aA;go_upto_region 17 with fail
   have bI:=χ (show Wf o8 (σ w8 Y 9 (.slice (Γ g8) (m.turns.length+1) a9):World)∧aC o8 (σ w8 Y 9 (.slice (Γ g8) (m.turns.length+1) a9)) Y c W {m with w:=wm',ths:=m.ths.set k t',turns:=m.turns ++ [(m.runs,k)]} (some ⟨g,0,none⟩) ea (some ⟨g8,0,none⟩) tc ec a9 (xs.set k ⟨t',x.b,Ls4⟩) L4∧dq o8 (σ w8 Y 9 (.slice (Γ g8) (m.turns.length+1) a9)) c ac ma mc (ν w) ys∧J (·∈ah Y L xs) o w o8 (σ w8 Y 9 (.slice (Γ g8) (m.turns.length+1) a9):World)∧ax (bA (Fz o8 (σ w8 Y 9 (.slice (Γ g8) (m.turns.length+1) a9))) (σ w8 Y 9 (.slice (Γ g8) (m.turns.length+1) a9))) o8 (σ w8 Y 9 (.slice (Γ g8) (m.turns.length+1) a9)) bx 88 10 (.slice a8 es.length bf) (es.map fun e=>{e with step:=(m.turns.length:Int)}) from by
     obtain⟨H,h2,h3,h4,h5,-⟩:=bu.out;obtain⟨t8,kb8,t9,M9,-⟩:=aD.out;have tA:=(bl.out.2.2.2.more' (D':=(·=Y)) fun _ e=>e.elim).same H t9;have I:=tA.et (K:=(·≠Y)) fun _ h=>h;obtain⟨-,-,-,-,-,aL,-,-,b7⟩:=HA.out
     exact⟨H.BD tA,M9,h3.kept I tA.size (fun y hy q hq e=>by have:=(h3.2.1 y hy).2 q hq;omega),h4.same HM.out.1 (tA.more' fun q e=>by rw[e];exact Zr),h5.kept I ω fun _ _ e=>e.kept I tA.size⟩)
   obtain⟨cE,r1,r2⟩:=bI.out.2.1.tr;obtain⟨ye,y1,y2,y3⟩:=bI.out.2.2.2.2.CM φ;have ai:∀u∈ye,u.oneCell'=true:=y1.all (fun x cs hc=>hc.one) φ;have aj:ye.length=es.length*10:=by simpa using y1.1
   have m8:=Zz (w:=(σ w8 Y 9 (.slice (Γ g8) (m.turns.length+1) a9):World)) bI.out.2.1.blk 8 rfl;generalize (σ w8 Y 9 (.slice (Γ g8) (m.turns.length+1) a9):World)=w9 at *;clear aD bl bu
   go_upto_region 18 with (at_builtin;go_loud (
     refine jP _ rfl _ _ 29 88 _ 10 96 underlying29 hJ rfl φ φ rfl _ m.trace.length cE rfl r1.row es.length _ ω _ ye rfl (fun h=>y2 (by simpa using h)) y3 aj ai ω ?_;intro v9 aZ q1 q2 q3;have cK:=bI.out.2.1.Cs bI.out.1 (es.map fun e=>{e with step:=(m.turns.length:Int)}) r1 r2 y1 (by rw[List.length_map];exact q1) q2 q3;clear q1 q2 q3 r1 r2 y1 y2 y3;obtain⟨bP,ak,a4,bi,cI,kb10,cu,cC⟩:=cK;rw[List.length_map] at bi;subst bi;have r8:=Zz (w:=aZ) kb10 8 rfl;have f8:=ZD (w:=aZ) kb10 8;have cr:=χ (Zf cu cC)
     clear cI kb10 cu cC))
   have ba:(m.ths.set k t').length=xs.length:=by rw[List.length_set,aH]
   have aS:(xs.set k ⟨t',x.b,Ls4⟩).length=xs.length:=List.length_set
   have bO:=χ (show Wf bP (σ aZ Y 8 (.slice ak (m.trace.length+es.length) a4):World)∧aC bP (σ aZ Y 8 (.slice ak (m.trace.length+es.length) a4)) Y c W {m with w:=wm',ths:=m.ths.set k t',turns:=m.turns ++ [(m.runs,k)],trace:=m.trace ++ es.map (fun e=>{e with step:=(m.turns.length:Int)})} (some ⟨g,0,none⟩) ak (some ⟨g8,0,none⟩) tc a4 a9 (xs.set k ⟨t',x.b,Ls4⟩) L4∧dq bP (σ aZ Y 8 (.slice ak (m.trace.length+es.length) a4)) c ac ma mc (ν w) ys∧J (·∈ah Y L xs) o w bP (σ aZ Y 8 (.slice ak (m.trace.length+es.length) a4):World)∧ax (bA (Fz bP (σ aZ Y 8 (.slice ak (m.trace.length+es.length) a4))) (σ aZ Y 8 (.slice ak (m.trace.length+es.length) a4))) bP (σ aZ Y 8 (.slice ak (m.trace.length+es.length) a4)) bx 88 10 (.slice a8 es.length bf) (es.map fun e=>{e with step:=(m.turns.length:Int)}) from by
     obtain⟨H,h2,h3,h4,h5⟩:=bI.out;obtain⟨tA,MA⟩:=cr.out;have I:=tA.et (K:=(·≠Y)) fun _ h=>h;obtain⟨-,-,-,-,-,aL,-,-,b7⟩:=HA.out
     exact⟨H.BD tA,MA,h3.kept I tA.size (fun y hy q hq e=>by have:=(h3.2.1 y hy).2 q hq;omega),h4.same HM.out.1 (tA.more' fun q e=>by rw[e];exact Zr),h5.kept I ω fun _ _ e=>e.kept I tA.size⟩)
   have m5:=Zz (w:=(σ aZ Y 8 (.slice ak (m.trace.length+es.length) a4):World)) bO.out.2.1.blk 5 rfl;rw[show ({m with w:=wm',ths:=m.ths.set k t',turns:=m.turns ++ [(m.runs,k)],trace:=m.trace ++ es.map (fun e=>{e with step:=(m.turns.length:Int)})}:bg).ths.length=xs.length from ba] at m5;clear cr bI r8 f8 m8;generalize (σ aZ Y 8 (.slice ak (m.trace.length+es.length) a4):World)=aO at *;obtain⟨rh,r1,r2⟩:=bO.out.2.1.row;have cA:aQ aO 38 1 (.slice (Γ g) xs.length tc) xs.length rh:=by have h5:=r1.row;rw[show ({m with w:=wm',ths:=m.ths.set k t',turns:=m.turns ++ [(m.runs,k)],trace:=m.trace ++ es.map (fun e=>{e with step:=(m.turns.length:Int)})}:bg).ths.length=xs.length from ba,aS] at h5;exact h5
   obtain⟨bv,bq,b'⟩:=id bO.out.2.2.1;have b5:ac.length=ys.length:=by rw[←bv,List.length_map]
   have bd:ys.length≤1:=by rcases b' with ⟨rfl,-⟩ | ⟨y,g9,rfl,-⟩ <;> simp
   have z1:0 < ac.length→∃p,ma=some p:=fun h0=>by
    rcases b' with ⟨rfl,-⟩ | ⟨y,g9,-,rfl,-⟩
    ·rw[b5] at h0;exact absurd h0 ξ
    ·exact⟨_,rfl⟩
   have z2:∀p,ma=some p→∀j u,(ys.map fun y=>Value.pointer (some ⟨y.b,0,none⟩))[j]? =some u→aO.cell? (p.add j)=some u:=fun p hp j u hu=>by
    rcases b' with ⟨rfl,-⟩ | ⟨y,g9,rfl,rfl,-,aT,-⟩
    ·simp at hu
    ·cases hp
     match j,hu with
     | 0,hu=>simp only[List.map_cons,List.map_nil,List.getElem?_cons_zero,Option.some.injEq] at hu;subst hu;rw[Addr.add_plain];exact Zz (w:=aO) aT 0 rfl
     | j+1,hu=>simp at hu
   have z3:(ys.map fun y=>Value.pointer (some ⟨y.b,0,none⟩)).length=ac.length*1:=by rw[List.length_map,b5,Nat.mul_one]
   have z4:∀u∈(ys.map fun y=>Value.pointer (some ⟨y.b,0,none⟩)),u.oneCell'=true:=fun u hu=>by obtain⟨y,-,rfl⟩:=ZC.1 hu;rfl
   have bH:∀y∈ys,∀q∈y.ls,q≠Y∧q∉L4∧∀O∈(xs.set k ⟨t',x.b,Ls4⟩),q∉O.ls:=fun y hy q hq=>by obtain⟨-,-,-,-,-,-,bo,-⟩:=HA.out;have hn:=(bo y hy q hq).1;exact⟨fun e=>hn (by rw[e];exact Zr),fun e=>hn (Zo _ (Zm _ e)),fun O hz e=>hn (Zo _ (Zx _ (Z1.2 ⟨O,hz,e⟩)))⟩
   go_upto_region 19 with (at_builtin;go_loud (
     refine jP _ rfl _ _ 28 38 _ 1 8 underlying28 sH rfl φ φ rfl _ xs.length rh rfl cA ac.length _ ω _ (ys.map fun y=>Value.pointer (some ⟨y.b,0,none⟩)) rfl z1 z2 z3 z4 ω ?_;intro cS a' q1 q2 q3;have cJ:=bO.out.2.1.Cz bO.out.1 ys (fun y hy=>(bq y hy).1) bH bd r1 r2 (by rw[aS,←b5];exact q1) q2 q3;clear q1 q2 q3 r1 cA r2 z1 z2 z3 z4;obtain⟨bp,aM,a7,bZ,bt,kb12,cz,cw⟩:=cJ;rw[aS] at bZ;subst bZ;obtain⟨-,-,-,-,-,-,-,-,-,-,r5,f5,-⟩:=kb5 kb12;have cq:=χ (Zf cz cw)
     clear bt kb12 cz cw))
   have ci:=χ (show Wf bp (σ a' Y 5 (.slice aM (xs.length+ys.length) a7):World)∧aC bp (σ a' Y 5 (.slice aM (xs.length+ys.length) a7)) Y c W {m with w:=wm',ths:=m.ths.set k t' ++ ys.map TX.m,turns:=m.turns ++ [(m.runs,k)],trace:=m.trace ++ es.map (fun e=>{e with step:=(m.turns.length:Int)})} aM ak (some ⟨g8,0,none⟩) a7 a4 a9 ((xs.set k ⟨t',x.b,Ls4⟩) ++ ys) L4∧J (·∈ah Y L xs) o w bp (σ a' Y 5 (.slice aM (xs.length+ys.length) a7):World)∧ax (bA (Fz bp (σ a' Y 5 (.slice aM (xs.length+ys.length) a7))) (σ a' Y 5 (.slice aM (xs.length+ys.length) a7))) bp (σ a' Y 5 (.slice aM (xs.length+ys.length) a7)) bx 88 10 (.slice a8 es.length bf) (es.map fun e=>{e with step:=(m.turns.length:Int)}) from by
     obtain⟨H,h2,h3,h4,h5⟩:=bO.out;obtain⟨tA,MA⟩:=cq.out;have I:=tA.et (K:=(·≠Y)) fun _ h=>h;obtain⟨-,-,-,-,-,aL,-,-,b7⟩:=HA.out
     exact⟨H.BD tA,MA,h4.same HM.out.1 (tA.more' fun q e=>by rw[e];exact Zr),h5.kept I ω fun _ _ e=>e.kept I tA.size⟩)
   have b3:=k7 ci.out.1 ci.out.2.1 h2 (by rw[List.length_append,aS];omega) (show dj wm' 0 (m.ths.set k t' ++ ys.map TX.m)=some rs from by rw[bv];exact bC);clear cq bO r5 f5 m5;generalize (σ a' Y 5 (.slice aM (xs.length+ys.length) a7):World)=bw at *;go_wp2_with (go_at_call 44;refine b3.mono ?_;rintro e aW ⟨rfl,bh,bJ,b2⟩;have HL:=χ (Zf bJ b2);clear bJ b2);go_ret;obtain⟨bJ,b2⟩:=HL.out;obtain⟨H,-,h3,h4⟩:=ci.out;obtain⟨-,-,-,-,-,aL,bo,-,b7⟩:=HA.out;have I:=bJ.et (K:=(·≠Y)) fun _ h=>h;have aV:∀q,q∈ah Y L4 ((xs.set k ⟨t',x.b,Ls4⟩) ++ ys)→q∈ah Y L4 (xs.set k ⟨t',x.b,Ls4⟩)∨∃y∈ys,q∈y.ls:=fun q hq=>by
    unfold ah at hq ⊢;rcases ZG.1 hq with e | hq
    ·exact .inl (by rw[e];exact Zr)
    ·rcases Zv.1 hq with e | hq
     ·exact .inl (Zo _ (Zm _ e))
     ·obtain⟨O,hz,e⟩:=Z1.1 hq
      rcases Zv.1 hz with hz | hz
      ·exact .inl (Zo _ (Zx _ (Z1.2 ⟨O,hz,e⟩)))
      ·exact .inr ⟨O,hz,e⟩
   refine⟨bh,aM,ak,some ⟨g8,0,none⟩,a7,a4,a9,(xs.set k ⟨t',x.b,Ls4⟩) ++ ys,L4,a8,bf,bx,by rw[List.length_map];rfl,h3.same HM.out.1 (bJ.more' fun q e=>by rw[e];exact Zr),by rw[←bv];exact b2,fun q hq=>?_,fun e=>?_,by rw[List.length_map];exact h4.kept I ω fun _ _ e=>e.kept I bJ.size⟩
   ·rcases aV q hq with e | ⟨y,hy,e⟩
    ·exact (aL q e).1
    ·exact .inr ((bq y hy).2 q e)
   ·rcases aV bx e with e | ⟨y,hy,e⟩
    ·exact (aL bx e).2 rfl
    ·exact (bo y hy bx e).2 rfl
end
end
section
section
variable {o o':ab} {w w':World} {Y c W tc ec uc:Nat} {ta ea ua:Option Addr} {L:List Nat} {xs:List TX} {m:bg}
def hj (Y c W:Nat) (m:bg) (ta ea ua:Option Addr) (tc ec uc:Nat) (Ls:List Nat) (o:ab) (w:World) (e:Ending) (w':World):Prop:=e=ed 6∧∃o',J (·∈Ls) o w o' w'∧A w' Y 32 (bF {m with full:=true} c W ta ea ua tc ec uc)∧o' Y=some Y
def uD (z:Wf o w) (h:aC o w Y c W m ta ea ua tc ec uc xs L) (hE:a6 o w) (aw:bN o w) (aB:b4 o w) {k x ac} (hk:m.runs[0]? =some k) (hx:xs[k]? =some x) (ad:(m.ths.length:Int) < m.threads) (ap:gq m x.m (m.ths.length:Int)=some ac) (aE:eL m.p x.m m.w (m.ths.length:Int)=some .full) :
  Calls prog 25 #[π Y,.int .u64 0] w (hj Y c W m ta ea ua tc ec uc (ah Y L xs) o w):=by
 refine Bt ?_;intro bL bM bX c1 c5 c6 cy aH ga cx e1 hf;obtain⟨g,cs,rfl,an,bT,-,bB,-,bG⟩:=hf k x hx;injection e1 with e1 _ e3;subst e1;subst e3;unfold fA at bG;subst bG;have bV:w.cell? (κ g k)=π x.b:=by simpa using bB 0 φ
 have bK:=h.lt;have HM:=χ (Zf z (Zf h (Zf hE (Zf aw aB))));clear z h hE aw aB hf bB;go_enter func25,ntmps25;go_upto_region 3 with first
  | (go_at_call 32;refine bL.mono ?_;rintro e w1 ⟨g1,cF,rfl,aG,af,aX⟩;have cd:=bX.out w1)
  | (go_at_call 41;refine γ cd ?_)
 have bS:dV o w1 g1 (ι k):=Bu;have z0:=bS.2.2;clear bS;have z1:=(af.cell (p:=κ Y 5) bK).trans c5;have z2:=(af.cell (p:=κ g k) an).trans bV;have z3:=(af.cell (p:=κ Y 1) bK).trans c1;have aP:decide ((xs.length:Int) < m.threads)=true:=Zy (by rw[aH] at ad;exact ad)
 have b8:=χ (show ∀G,Below (ν w) w G→Calls prog 42 #[π Y,π x.b,ι (xs.length:Nat)] G (fB c ac o G) from fun G hb=>by
   obtain⟨z,h,-⟩:=HM.out;rw[aH] at ap
   exact n3 (z.below hb) ((hb.block Y bK).trans h.blk) (h.code.below z hb) ((h.ok x (Zi hx)).below z hb) ap)
 have bc:=χ (show ∀o3 E,J Θ o w o3 E→E.cell? (κ Y 4)=π W∧Calls prog 43 #[π x.b,π W,ι (xs.length:Nat)] E (fun e w'=>∃v n,e= .returned (.tuple #[v,ι n])∧kY L x.ls o3 E v n w') from fun o3 E ag=>by
   obtain⟨z,h,hE,aw,-⟩:=HM.out;have aU:=ag.kp;have h3:=h.kept aU ag.size trivial (fun _ _=>Zk) fun _ _ _ _=>Zk;rw[aH] at aE
   exact⟨h3.blk.c 4 rfl,vv (z.BD ag) h3.wld (hE.kept aU) (aw.kept aU) (h3.ok x (Zi hx)) h3.code (h3.lx x (Zi hx)) aE⟩)
 clear ap aE aX bL bX;go_quiet (fail);go_wp2_with fail;go_quiet (fail);have U:=fun V=>gM 6 φ V;unfold ed at U;unfold hj ed;go_upto_region 11 with first
  | (go_at_call 42
     refine (b8.out _ (af.trans ((dP _ _).mono af.size))).mono ?_;intro e E b0;obtain⟨o3,ma,mc,ys,rfl,ag,ap⟩:=b0.more;have aY:=(tB HM.out.1 (af.trans ((dP w1 _).mono af.size))).same HM.out.1 ag;obtain⟨m4,aF⟩:=bc.out o3 E aY;have bW:=χ aY
     clear b0 ag aY ap)
  | (go_at_call 43;go_loud (
     refine aF.mono ?_;rintro e M ⟨v,n,rfl,rfl,rfl,o4,ao⟩
     have HX:=χ (show J (·∈ah Y L xs) o w o4 M∧A M Y 32 (bF m c W (some ⟨g,0,none⟩) ea ua tc ec uc)∧o4 Y=some Y from by
       obtain⟨z,h,-⟩:=HM.out;have ay:=Zi hx;have h3:=h.kept (bW.out.kp) bW.out.size trivial (fun _ _=>Zk) fun _ _ _ _=>Zk;obtain⟨Z,k2⟩:=(ao.et (K:=fun k=>k∉L∧k∉x.ls) fun k h e=>e.elim h.1 h.2).blk h3.blk h3.own ⟨h.ml,h.mx x ay⟩
       exact⟨(bW.out.more' fun _ e=>e.elim).same z (ao.more' fun q hq=>hq.elim (fun e=>Zo _ (Zm _ e)) fun e=>Zo _ (Zx _ (Z1.2 ⟨x,ay,e⟩))),Z,k2⟩)
     obtain⟨-,-,-,-,-,-,-,-,-,-,-,-,-,-,r7,f7,-⟩:=kb7 HX.out.2.1
     clear ao))
  | (go_at_call 23;refine γ (U _) ?_)
 obtain⟨q1,q2,q3⟩:=HX.out;have aK:=HM.out.1.BD q1;refine⟨by simp,rfl,o4,q1.same HM.out.1 (Z3 aK q3 (by exact Zr) 7 (.bool true)),q2.set 7 _,q3⟩
end
end
end Go.Proofs.YtmchabopafimeaaGreatDoor
