import Derived.Test.YtmchabopafimeaaGreatDoorQah
import Derived.Deep.RegionHeld3
namespace Go.Proofs.YtmchabopafimeaaGreatDoor
set_option maxRecDepth 100000
set_option maxHeartbeats 16000000
set_option linter.all false
open Go.RowKit Go.Sort Tryz
section
section
variable (W Y b:Nat) (v1 v2 v3:Value) (w:World)
def vH (h:A w W 113 [aA Y,v1,v2,v3]) (hb:A w b 27 [aA W]):Calls prog 433 #[π b] w (μ v1 w):=by unfold aA at h hb;have c0:=hb.c 0 rfl;have c1:=h.c 1 rfl;go_enter func433,ntmps433;go_wp2_with fail;go_ret;exact⟨rfl,rfl⟩
def pz (h:A w W 113 [aA Y,v1,v2,v3]) (hb:A w b 27 [aA W]):Calls prog 445 #[π b] w (μ v2 w):=by unfold aA at h hb;have c0:=hb.c 0 rfl;have c1:=h.c 2 rfl;go_enter func445,ntmps445;go_wp2_with fail;go_ret;exact⟨rfl,rfl⟩
def mw (h:A w W 113 [aA Y,v1,v2,v3]) (hb:A w b 27 [aA W]):Calls prog 200 #[π b] w (μ v3 w):=by unfold aA at h hb;have c0:=hb.c 0 rfl;have c1:=h.c 3 rfl;go_enter func200,ntmps200;go_wp2_with fail;go_ret;exact⟨rfl,rfl⟩
end
section
variable {o:ab} {w:World} {W Y:Nat} {m:aH} {aB aF aC:Value} {cs:List (Nat×Nat×Nat×Nat)} {ds:List (Nat×Nat)}
def yu {p q:Prop} (k:q) (h:Zq q→p:=by
 intro mq;have hb:=am w (.cells #[aA W] 27);have hk:=Zh w 27 [aA W];have aO:=hW.blk.alloc (.cells #[aA W] 27);revert hb hk aO
 exact mq.u):p:=h ⟨k⟩
def qQ (hW:ai o w W m Y aB aF aC cs ds) (i d) (hd:ds[i]? =some d) :
  Calls prog 405 #[π W,ι (i:Nat)] w (ϑ (π d.1) w):=by
 refine yu ?_;intro hb hk aO;obtain⟨a,cap,rfl,-,-,hc⟩:=hW.rco.row.form;obtain⟨g,rfl,hg,aJ,-⟩:=hc i (aA d.1) (by rw[List.getElem?_map,hd];rfl);have hi:i < m.cos.length:=by have:=(Ze.1 hd).1;have:=hW.lco;omega
 have hF:=sY W Y 445 #[ϖ w] _ m.cos.length cap g i _ _ _ _ aO Ψ (pz W Y (ν w) _ _ _ _ aO hk) rfl hi;have h:(w.alloc (.cells #[aA W] 27)).cell? (κ g i)=π d.1:=(hb.cell (p:=κ g i) hg).trans aJ;unfold aA at *;clear hW hc;go_enter func405,ntmps405;go_wp2_with (go_at_call 444;refine γ hF ?_);go_ret;exact⟨rfl,hb⟩
def ky (hW:ai o w W m Y aB aF aC cs ds) (i d) (hd:cs[i]? =some d) :
  Calls prog 390 #[π W,ι (i:Nat)] w (ϑ (π d.1) w):=by
 refine yu ?_;intro hb hk aO;obtain⟨a,cap,rfl,-,-,hc⟩:=hW.rch.row.form;obtain⟨g,rfl,hg,aJ,-⟩:=hc i (aA d.1) (by rw[List.getElem?_map,hd];rfl);have hi:i < m.chs.length:=by have:=(Ze.1 hd).1;have:=hW.lch;omega
 have hF:=pN W Y 433 #[ϖ w] _ m.chs.length cap g i _ _ _ _ aO Ψ (vH W Y (ν w) _ _ _ _ aO hk) rfl hi;have h:(w.alloc (.cells #[aA W] 27)).cell? (κ g i)=π d.1:=(hb.cell (p:=κ g i) hg).trans aJ;unfold aA at *;clear hW hc;go_enter func390,ntmps390;go_wp2_with (go_at_call 432;refine γ hF ?_);go_ret;exact⟨rfl,hb⟩
def lV (hW:ai o w W m Y aB aF aC cs ds) (i x) (hx:m.sys[i]? =some x) :
  Calls prog 158 #[π W,ι (i:Nat)] w fun e w'=>∃(g:Nat) (xs:List Value),e= .returned (.pointer (some ⟨g,i*11,none⟩))∧Below (ν w) w w'∧g < w.heap.size∧o g=some W∧xs.length=11∧(∀q,q < 11→w.cell? (κ g (i*11+q))=xs[q]?)∧(∀q,w.frozen? (κ g q)=false)∧bx (Fz o w) w x xs:=by refine yu ?_;intro hb hk aO;obtain⟨a,cap,rfl,-,-,hc⟩:=hW.rsy.form;obtain⟨g,xs,rfl,hg,aU,hl,aJ,aI,hP⟩:=hc i x hx;have hi:i < m.sys.length:=(Ze.1 hx).1;have hF:=lg W Y 200 #[ϖ w] _ m.sys.length cap g i _ _ _ _ aO Ψ (mw W Y (ν w) _ _ _ _ aO hk) rfl hi;unfold aA at *;have HQ:=χ (Zf aJ (Zf aI hP));clear hW hc aJ aI hP;go_enter func158,ntmps158;go_wp2_with (go_at_call 199;refine γ hF ?_);go_ret;exact⟨g,xs,rfl,hb,hg,aU,hl,HQ.out⟩
end
end
section
def code {α:Type}:Except Int α→Int
 | .ok _=>0
 | .error n=>n
section
variable {o:ab} {w:World} {W Y:Nat} {m:aH} {aB aF aC:Value} {cs:List (Nat×Nat×Nat×Nat)} {ds:List (Nat×Nat)} {L:List Nat}
def ai.lt (h:ai o w W m Y aB aF aC cs ds):∀k∈wl W Y cs ds,k < w.heap.size:=by
 intro k hk;unfold wl at hk;rcases ZG.1 hk with rfl | hk
 ·exact h.blk.lt
 rcases ZG.1 hk with rfl | hk
 ·obtain⟨vl,vc,nl,xs,ha⟩:=h.ar
  exact ha.blk.lt
 rcases Zv.1 hk with hk | hk
 ·obtain⟨c,hc,hk⟩:=Z1.1 hk
  obtain⟨i,hi⟩:=ZI.1 hc;have ad:i < m.chs.length:=by have:=(Ze.1 hi).1;have:=h.lch;omega
  have hx:=h.ch i c _ hi (Zg ad);simp only[List.mem_cons,List.not_mem_nil,or_false] at hk;rcases hk with rfl | rfl
  ·exact hx.qs.elim fun _ h=>h.blk.lt
  ·exact hx.qr.elim fun _ h=>h.blk.lt
 ·obtain⟨d,hd,rfl⟩:=ZC.1 hk
  obtain⟨i,hi⟩:=ZI.1 hd;have ad:i < m.cos.length:=by have:=(Ze.1 hi).1;have:=h.lco;omega
  exact (h.co i d _ hi (Zg ad)).qs.elim fun _ h=>h.blk.lt
def aI.lt (h:aI o w W m L):∀k∈L,k < w.heap.size:=by obtain⟨Y,aB,aF,aC,cs,ds,h,rfl⟩:=h;exact h.lt
end
def aT (B W:Nat) (m:aH) (L:List Nat) (o:ab) (w:World):Prop:=∃L',aI o w W m L'∧∀k∈L',k∈L∨B≤k
def cF (W:Nat) (m:aH) (n:Int) (L:List Nat) (o:ab) (w:World) (e:Ending) (w':World):Prop:=∃o',J (·∈L) o w o' w'∧aT w.heap.size W m L o' w'∧e= .returned (.int .i64 n)
def eF (B W:Nat) (m:aH) (n:Int) (L:List Nat) (r:Except Int Int) (o:ab) (w:World):Prop:=aT B W m L o w∧match r with
 | .ok k=>k=n
 | .error k=>k=n
def yQ {p:Prop} (h:p:=by
 intro r o w w' ⟨⟨L',H,h2⟩,h3⟩ I hs
 exact⟨⟨L',H.kept I hs fun k hk=>by
  rcases h2 k hk with h | h
  ·have:=hL k h
   omega
  ·omega,h2⟩,h3⟩):p:=h
def eF.stays {W m n L O} (hL:∀k∈L,k < O):dL O (O+1) (eF (O+2) W m n L):=by exact yQ
def hK (F:Nat) (caps W m' n L o w) (z:Wf o w) (hL:∀k∈L,k < w.heap.size) (hF:Λ F) (aG:∀o2 G,Wf o2 G→J Θ o w o2 G→G.heap.size=w.heap.size+2→Calls prog F caps G (bH (·∈L) (.int .i64) (eF (w.heap.size+2) W m' n L) o2 G)) :
  Calls prog 399 #[.func (.func F) #[] caps] w (cF W m' n L o w):=by
 have U:=Yc z (.cells #[ι 0] 33) (.cells #[ι 0] 33);have hP:=tC F caps (·∈L) (eF (w.heap.size+2) W m' n L) o w z hL (eF.stays hL) hF (aG _ _ (z.BD U) U ξ);clear aG U;go_enter func399,ntmps399;go_wp2_with fail;refine hP.mono ?_;rintro e w1 ⟨o1,ak,r,⟨⟨L',H,h2⟩,h3⟩,he⟩;have hX:∃o',J (·∈L) o w o' w1∧aT (ν w) W m' L o' w1:=⟨o1,ak,L',H,fun k hk=>(h2 k hk).imp id fun h=>by omega⟩;obtain⟨o9,A,O⟩:=hX;cases r with
 | ok k=>obtain rfl:k=n:=h3;subst he;clear hP ak H h2 hL;go_wp2_with fail;go_ret;exact⟨o9,A,O,rfl⟩
 | error k=>
   obtain rfl:k=n:=h3;subst he;clear hP ak H h2 hL
   by_cases hk:k=0
   ·subst hk
    go_wp2_with fail;go_ret;exact⟨o9,A,O,rfl⟩
   ·have hk2:decide (k=0)=false:=Zn hk
    go_wp2_with fail;go_ret;exact⟨o9,A,O,rfl⟩
end
section
section
variable {m:aH} {i:Nat}
def u6 {x} (h:m.cos[i]? =some x):eU (i:Nat) m=(.ok x,m):=by have ad:=(Ze.1 h).1;unfold eU;rw[if_neg ω];simp[List.getD,h]
def f7 {j f} (h:j < m.cells.length):ff (j:Nat) f m=(.ok m.cells[j],{m with cells:=m.cells.set j (f m.cells[j]),cnt:=m.cnt+1}):=by unfold ff;rw[if_neg ω];simp[List.getD,List.getElem?_eq_getElem h]
end
section
variable {o:ab} {w:World} {W Y:Nat} {m:aH} {aB aF aC:Value} {cs:List (Nat×Nat×Nat×Nat)} {ds:List (Nat×Nat)}
def ai.accessed (z:Wf o w) (hW:ai o w W m Y aB aF aC cs ds) {w1 G} (hb:Below (ν w) w w1) {cells} (U:E Y m.most cells m.cnt o w1 G) (hl:cells.length=m.cells.length) (h2:∀n∈cells,n≤2) (B) :
  ∃o',J (·∈wl W Y cs ds) o w o' G∧aT B W {m with cells:=cells,cnt:=m.cnt+1} (wl W Y cs ds) o' G:=by obtain⟨o',H,h3⟩:=U;have h0:=Zb (D:=(·=Y)) z hb;have I:=(tB z hb).kp;have a7:=hW.kept I hb.size fun _ _=>Zk;refine⟨o',(h0.same z H).more z fun k _ e=>?_,wl W Y cs ds,⟨Y,aB,aF,aC,cs,ds,a7.access H h3 hl h2,rfl⟩,fun k hk=>.inl hk⟩;rw[e];exact gN
def iz {l:List Nat} (h:∀n∈l,n≤2) (j x) (hx:x≤2):∀n∈l.set j x,n≤2:=fun n hn=>(ZY hn).elim (h n) fun e=>by rw[e];exact hx
end
end
section
section
variable {m:aH} {i:Nat}
def kx {x} (h:m.chs[i]? =some x):eK (i:Nat) m=(.ok x,m):=by have ad:=(Ze.1 h).1;unfold eK;rw[if_neg ω];simp[List.getD,h]
def oR {x} (h:m.chs[i]? =some x) (hf:x.at_ < m.cells.length):(b1 (i:Nat) m).2={m with cells:=m.cells.set x.at_ (if m.cells[x.at_]=1 then 0 else m.cells[x.at_]),cnt:=m.cnt+1}∧code (b1 (i:Nat) m).1=(if m.cells[x.at_]=1 then 0 else 30):=by
 unfold b1 jk fD Wm.bind;rw[kx h];dsimp only;rw[f7 hf];dsimp only
 by_cases h0:m.cells[x.at_]=1
 ·simp[ci,Wm.ret,h0,code]
 ·simp[ci,Wm.err,h0,code]
end
section
variable {o:ab} {w:World} {W Y:Nat} {m:aH} {aB aF aC:Value} {cs:List (Nat×Nat×Nat×Nat)} {ds:List (Nat×Nat)}
def yR {p q:Prop} (k:q) (h:Zq q→p:=by
 intro mq;have aV:Below (ν w) w w.drew:=(Zj _ _).drew;have ap:=(tB z aV).kp;have aa:=hW.kept ap aV.size fun _ _=>Zk;have ae:=z.below aV;have c0:=ao.c 0 rfl;have c1:=aL.c 0 rfl;have cA:=hW.blk.c 0 rfl;unfold aA at c0 cA;have ad:=(Ze.1 hx).1;revert aV ap aa ae c0 c1 cA ad
 exact mq.u):p:=h ⟨k⟩
def zD {p q:Prop} (k:q) (h:Zq q→p:=by
 intro mq;have aq:L.length=m.cells.length:=by rw[←O,List.length_set]
 have hc2:∀n∈L,n≤2:=by
  rw[←O];refine iz hW.ok.two _ _ ?_;have:=hW.ok.two _ (Z8 ag)
  split <;> omega
 have ac:=fun w1 G (hb:Below (ν w) w w1) (U:E Y m.most L m.cnt o w1 G)=>ai.accessed z hW hb U aq hc2 B;revert aq hc2 ac
 exact mq.u):p:=h ⟨k⟩
def w7 (z:Wf o w) (hW:ai o w W m Y aB aF aC cs ds) (k x) (hx:m.chs[k]? =some x) (bw bn B) (ao:A w bw 27 [aA W]) (aL:A w bn 3 [ι (k:Nat)]) :
  Calls prog 402 #[π bw,π bn] w (bH (·∈wl W Y cs ds) (.int .i64) (eF B W (b1 (k:Nat) m).2 (code (b1 (k:Nat) m).1) (wl W Y cs ds)) o w):=by
 refine yR ?_;intro aV ap aa ae c0 c1 cA ad;obtain⟨d,hd⟩:∃d,cs[k]? =some d:=⟨_,Zg (by have:=hW.lch;omega)⟩;have ag:=hW.ok.chs x (Zi hx);obtain⟨e1,e2⟩:=oR hx ag;rw[e1,e2];have hC:=ky aa k d hd;have hA:=fun w1 (hb:Below w.drew.heap.size w.drew w1)=>w0 o d.1 x d.2.1 d.2.2.1 d.2.2.2 Y m.most m.cells m.cnt w1 (ae.below hb) ((aa.ch k d x hd hx).below ae hb) (aa.ar.below ae hb) ag;obtain⟨r,hr⟩:∃r:Int,(if m.cells[x.at_]=1 then 0 else 30)=r:=⟨_,rfl⟩;obtain⟨L,O⟩:∃L,m.cells.set x.at_ (if m.cells[x.at_]=1 then 0 else m.cells[x.at_])=L:=⟨_,rfl⟩;simp only[hr,O] at hA ⊢;refine zD ?_;intro aq hc2 ac;clear hr O e1 e2;go_enter func402,ntmps402;go_wp2_with fail;go_region_law
  (first
    | (go_simp;go_at_call 390;refine hC.mono ?_
       rintro e w1 ⟨rfl,hb⟩;have d0:=(hb.cell (p:=κ bw 0) ao.lt).trans c0
       have h:=(hb.cell (p:=κ W 0) hW.blk.lt).trans cA)
    | (go_simp;go_at_call 403;refine (hA _ hb).mono ?_
       rintro e G ⟨rfl,U⟩))
 all_goals
  obtain⟨o9,M,h9⟩:=ac _ _ (aV.trans hb) U;clear hC hA hb U c0 c1 cA d0 h ac aq hc2;go_wp2_with fail;go_ret;exact⟨o9,M,.ok r,⟨h9,rfl⟩,rfl⟩
def yl {p q:Prop} (k:q) (h:Zq q→p:=by
 intro mq;have hz:(w.alloc (.cells #[aA W] 27)).heap.size=w.heap.size+1:=by simp
 have af:=am w (.cells #[aA W] 27);have hb:=af.trans ((am (w.alloc (.cells #[aA W] 27)) (.cells #[ι (k:Nat)] 3)).mono af.size);have O:=(Zh w 27 [aA W]).alloc (.cells #[ι (k:Nat)] 3);have Z:=Zh (w.alloc (.cells #[aA W] 27)) 3 [ι (k:Nat)];rw[hz] at Z;have an:J Θ o w o _:=Zb z hb;have ap:=z.BD an;have n0:o w.heap.size=none:=z.ge (Zc _);have n1:o (w.heap.size+1)=none:=z.ge ω;have aD:=hW.kept (an.kp) hb.size fun _ _=>Zk;revert hz af hb O Z an ap n0 n1 aD
 exact mq.u):p:=h ⟨k⟩
def ph (z:Wf o w) (hW:ai o w W m Y aB aF aC cs ds) (k x) (hx:m.chs[k]? =some x) :
  Calls prog 348 #[π W,ι (k:Nat)] w (cF W (b1 (k:Nat) m).2 (code (b1 (k:Nat) m).1) (wl W Y cs ds) o w):=by
 refine yl ?_;intro hz af hb O Z an ap n0 n1 aD;unfold aA at *;go_enter func348,ntmps348;go_wp2_with fail;generalize (w.alloc (.cells #[π W] 27)).alloc (.cells #[ι (k:Nat)] 3)=G at *
 have I:=hK 402 #[ϖ w,π (η w)] W (b1 (k:Nat) m).2 (code (b1 (k:Nat) m).1) (wl W Y cs ds) o G ap aD.lt Ψ (fun o3 E ax ag _=>
   w7 ax (aD.kept (ag.kp) ag.size fun _ _=>Zk) k x hx _ _ _ (ag.frozen.BF O n0).1 (ag.frozen.BF Z n1).1)
 refine I.mono ?_;rintro e M ⟨o4,ao,⟨L',H,h2⟩,rfl⟩;have hF:cF W (b1 (k:Nat) m).2 (code (b1 (k:Nat) m).1) (wl W Y cs ds) o w (.returned (ι (code (b1 (k:Nat) m).1))) M:=
  ⟨o4,(an.more z fun _ _ h=>h.elim).same z ao,⟨L',H,fun q hq=>(h2 q hq).imp id fun h=>Zp hb.size h⟩,rfl⟩
 clear I ao H h2;go_wp2_with fail;go_ret;exact hF
end
end
section
def c2 {α:Type} (enc:α→Value) (W:Nat) (m:aH) (v:α) (L:List Nat) (o:ab) (w:World) (e:Ending) (w':World):Prop:=∃o',J (·∈L) o w o' w'∧aT w.heap.size W m L o' w'∧e= .returned (.tuple #[enc v,.int .i64 0])
def dA {α:Type} (B W:Nat) (m:aH) (v:α) (L:List Nat) (r:Except Int α) (o:ab) (w:World):Prop:=aT B W m L o w∧match r with
 | .ok k=>k=v
 | .error _=>False
def dA.stays {α:Type} {W m} {v:α} {L O} (hL:∀k∈L,k < O):dL O (O+1) (dA (O+2) W m v L):=by exact yQ
def kN (b w):Calls prog 389 #[.bool b,ι 0] w (μ (.bool b) w):=by have hR:=cK 0 w;go_enter func389,ntmps389;go_wp2_with (go_at_call 172;refine γ hR ?_);go_ret;exact⟨rfl,rfl⟩
def jK (F:Nat) (caps W m' v L o w) (z:Wf o w) (hL:∀k∈L,k < w.heap.size) (hF:Λ F) (aG:∀o2 G,Wf o2 G→J Θ o w o2 G→G.heap.size=w.heap.size+2→Calls prog F caps G (bH (·∈L) (.bool) (dA (w.heap.size+2) W m' v L) o2 G)) :
  Calls prog 293 #[.func (.func F) #[] caps] w (c2 (.bool) W m' v L o w):=by
 have U:=Yc z (.cells #[Δ] 4) (.cells #[ι 0] 33);refine (vy F caps (·∈L) (dA (w.heap.size+2) W m' v L) o w z hL (dA.stays hL) hF (aG _ _ (z.BD U) U ξ)).mono ?_;rintro e w1 ⟨o1,ak,r,⟨⟨L',H,h2⟩,h3⟩,he⟩;cases r with
 | ok k=>obtain rfl:k=v:=h3;exact⟨o1,ak,⟨L',H,fun k hk=>(h2 k hk).imp id fun h=>by omega⟩,he⟩
 | error k=>exact h3.elim
section
variable {m:aH} {i:Nat}
def l7 {x} (h:m.chs[i]? =some x) (hf:x.at_ < m.cells.length):(cN (i:Nat) m).2={m with cells:=m.cells.set x.at_ (if m.cells[x.at_]=0 then 1 else m.cells[x.at_]),cnt:=m.cnt+1}∧(cN (i:Nat) m).1= .ok (m.cells.getD x.at_ 0 == 0):=by unfold cN jV fD Wm.bind;rw[kx h];dsimp only;rw[f7 hf];simp[Wm.ret,List.getD,List.getElem?_eq_getElem hf]
end
section
variable {o:ab} {w:World} {W Y:Nat} {m:aH} {aB aF aC:Value} {cs:List (Nat×Nat×Nat×Nat)} {ds:List (Nat×Nat)}
def wF (z:Wf o w) (hW:ai o w W m Y aB aF aC cs ds) (k x) (hx:m.chs[k]? =some x) (bw bn B) (ao:A w bw 27 [aA W]) (aL:A w bn 3 [ι (k:Nat)]) :
  Calls prog 388 #[π bw,π bn] w (bH (·∈wl W Y cs ds) (.bool) (dA B W (cN (k:Nat) m).2 (m.cells.getD x.at_ 0 == 0) (wl W Y cs ds)) o w):=by
 refine yR ?_;intro aV ap aa ae c0 c1 cA ad;obtain⟨d,hd⟩:∃d,cs[k]? =some d:=⟨_,Zg (by have:=hW.lch;omega)⟩;have ag:=hW.ok.chs x (Zi hx);obtain⟨e1,e2⟩:=l7 hx ag;have e3:m.cells.getD x.at_ 0=m.cells[x.at_]:=by simp[List.getD,List.getElem?_eq_getElem ag]
 rw[e1,e3];have hR:=kN;have hC:=ky aa k d hd;have hA:=fun w1 (hb:Below w.drew.heap.size w.drew w1)=>ue o d.1 x d.2.1 d.2.2.1 d.2.2.2 Y m.most m.cells m.cnt w1 (ae.below hb) ((aa.ch k d x hd hx).below ae hb) (aa.ar.below ae hb) ag;obtain⟨r,hr⟩:∃r:Bool,(m.cells[x.at_] == 0)=r:=⟨_,rfl⟩;obtain⟨L,O⟩:∃L,m.cells.set x.at_ (if m.cells[x.at_]=0 then 1 else m.cells[x.at_])=L:=⟨_,rfl⟩;simp only[hr,O] at hA ⊢;refine zD ?_;intro aq hc2 ac;clear hr O e1 e2 e3;go_enter func388,ntmps388;go_wp2_with fail;go_region_law
  (first
    | (go_simp;go_at_call 390;refine hC.mono ?_
       rintro e w1 ⟨rfl,hb⟩;have d0:=(hb.cell (p:=κ bw 0) ao.lt).trans c0
       have h:=(hb.cell (p:=κ W 0) hW.blk.lt).trans cA)
    | (go_simp;go_at_call 391;refine (hA _ hb).mono ?_
       rintro e G ⟨rfl,U⟩)
    | (go_simp;go_at_call 389;refine (hR _ _).mono ?_
       rintro e V ⟨rfl,rfl⟩))
 all_goals
  obtain⟨o9,M,h9⟩:=ac _ _ (aV.trans hb) U;clear hC hA hb U hR c0 c1 cA d0 h ac aq hc2;go_wp2_with fail;go_ret;exact⟨o9,M,.ok r,⟨h9,rfl⟩,rfl⟩
def o6 (z:Wf o w) (hW:ai o w W m Y aB aF aC cs ds) (k x) (hx:m.chs[k]? =some x) :
  Calls prog 337 #[π W,ι (k:Nat)] w (c2 (.bool) W (cN (k:Nat) m).2 (m.cells.getD x.at_ 0 == 0) (wl W Y cs ds) o w):=by
 refine yl ?_;intro hz af hb O Z an ap n0 n1 aD;unfold aA at *;go_enter func337,ntmps337;go_wp2_with fail;generalize (w.alloc (.cells #[π W] 27)).alloc (.cells #[ι (k:Nat)] 3)=G at *
 have I:=jK 388 #[ϖ w,π (η w)] W (cN (k:Nat) m).2 (m.cells.getD x.at_ 0 == 0) (wl W Y cs ds) o G ap aD.lt Ψ (fun o3 E ax ag _=>
   wF ax (aD.kept (ag.kp) ag.size fun _ _=>Zk) k x hx _ _ _ (ag.frozen.BF O n0).1 (ag.frozen.BF Z n1).1)
 refine I.mono ?_;rintro e M ⟨o4,ao,⟨L',H,h2⟩,rfl⟩;have hF:c2 (.bool) W (cN (k:Nat) m).2 (m.cells.getD x.at_ 0 == 0) (wl W Y cs ds) o w (.returned (.tuple #[.bool (m.cells.getD x.at_ 0 == 0),ι 0])) M:=
  ⟨o4,(an.more z fun _ _ h=>h.elim).same z ao,⟨L',H,fun q hq=>(h2 q hq).imp id fun h=>Zp hb.size h⟩,rfl⟩
 clear I ao H h2;go_wp2_with fail;go_ret2;exact hF
end
end
section
def ni (b w):Calls prog 295 #[ι b,ι 0] w (μ (ι b) w):=by have hR:=cK 0 w;go_enter func295,ntmps295;go_wp2_with (go_at_call 172;refine γ hR ?_);go_ret;exact⟨rfl,rfl⟩
def qm (F:Nat) (caps W m' v L o w) (z:Wf o w) (hL:∀k∈L,k < w.heap.size) (hF:Λ F) (aG:∀o2 G,Wf o2 G→J Θ o w o2 G→G.heap.size=w.heap.size+2→Calls prog F caps G (bH (·∈L) (.int .i64) (dA (w.heap.size+2) W m' v L) o2 G)) :
  Calls prog 396 #[.func (.func F) #[] caps] w (c2 (.int .i64) W m' v L o w):=by
 have U:=Yc z (.cells #[ι 0] 434) (.cells #[ι 0] 33);refine (tI F caps (·∈L) (dA (w.heap.size+2) W m' v L) o w z hL (dA.stays hL) hF (aG _ _ (z.BD U) U ξ)).mono ?_;rintro e w1 ⟨o1,ak,r,⟨⟨L',H,h2⟩,h3⟩,he⟩;cases r with
 | ok k=>obtain rfl:k=v:=h3;exact⟨o1,ak,⟨L',H,fun k hk=>(h2 k hk).imp id fun h=>by omega⟩,he⟩
 | error k=>exact h3.elim
section
variable {m:aH} {i:Nat}
def hE {x} (h:m.sys[i]? =some x):az (i:Nat) m=(.ok x,m):=by have ad:=(Ze.1 h).1;unfold az;rw[if_neg ω];simp[List.getD,h]
def m5 {x} (h:m.sys[i]? =some x) {f:Nat} (hx:x.fl=f) (hf:f < m.cells.length) (h2:m.cells[f]≤2):(cR (i:Nat) m).2={m with cells:=m.cells.set f (if m.cells[f]=0 then 2 else m.cells[f]),cnt:=m.cnt+1}∧(cR (i:Nat) m).1= .ok ((m.cells.getD f 0:Nat):Int):=by have e:¬2 < m.cells[f]:=ω;unfold cR gr fD Wm.bind;rw[hE h];dsimp only;rw[hx,f7 hf];simp[Wm.ret,List.getD,List.getElem?_eq_getElem hf,e]
end
section
variable {o:ab} {w:World} {W Y:Nat} {m:aH} {aB aF aC:Value} {cs:List (Nat×Nat×Nat×Nat)} {ds:List (Nat×Nat)}
def zE {p q:Prop} (k:q) (h:Zq q→p:=by
 intro mq;have c3:w1.cell? (κ g (k*11+3))=ι (f:Nat):=by refine ((hb.cell (p:=κ g (k*11+3)) hg).trans (aJ 3 ω)).trans ?_;obtain⟨aQ,ay,av,cb,cc,cv,rfl,-⟩:=iq a4;rw[←aa];rfl
 have d0:=(hb.cell (p:=κ bw 0) ao.lt).trans c0;have h:=(hb.cell (p:=κ W 0) hW.blk.lt).trans cA;revert c3 d0 h
 exact mq.u):p:=h ⟨k⟩
def xr (z:Wf o w) (hW:ai o w W m Y aB aF aC cs ds) (k:Nat) (x) (hx:m.sys[k]? =some x) (f:Nat) (aa:x.fl=f) (bw bn B) (ao:A w bw 27 [aA W]) (aL:A w bn 3 [ι (k:Nat)]) :
  Calls prog 397 #[π bw,π bn] w (bH (·∈wl W Y cs ds) (.int .i64) (dA B W (cR (k:Nat) m).2 ((m.cells.getD f 0:Nat):Int) (wl W Y cs ds)) o w):=by
 have c0:=ao.c 0 rfl;have c1:=aL.c 0 rfl;have cA:=hW.blk.c 0 rfl;unfold aA at c0 cA;have ag:f < m.cells.length:=by have:=(hW.ok.fls x (Zi hx)).2;omega
 have a9:=hW.ok.two _ (Z8 ag);obtain⟨e1,e2⟩:=m5 hx aa ag a9;have e3:m.cells.getD f 0=m.cells[f]:=by simp[List.getD,List.getElem?_eq_getElem ag]
 rw[e1,e3];have hC:=lV hW k x hx;have hR:=ni;have hA:=fun w1 (hb:Below (ν w) w w1)=>rY o Y m.most m.cells m.cnt f w1 (z.below hb) (hW.ar.below z hb) ag a9;obtain⟨r,hr⟩:∃r:Int,((m.cells[f]:Nat):Int)=r:=⟨_,rfl⟩;obtain⟨L,O⟩:∃L,m.cells.set f (if m.cells[f]=0 then 2 else m.cells[f])=L:=⟨_,rfl⟩;simp only[hr,O] at hA ⊢;have aq:L.length=m.cells.length:=by rw[←O,List.length_set]
 have hc2:∀n∈L,n≤2:=by
  rw[←O];refine iz hW.ok.two _ _ ?_
  split <;> omega
 have ac:=fun w1 G (hb:Below (ν w) w w1) (U:E Y m.most L m.cnt o w1 G)=>ai.accessed z hW hb U aq hc2 B;clear hr O e1 e2 e3;go_enter func397,ntmps397;go_wp2_with first
  | (go_at_call 158;refine hC.mono ?_
     rintro e w1 ⟨g,xs,rfl,hb,hg,-,-,aJ,-,a4⟩;refine zE ?_;intro c3 d0 h
     clear aJ a4 hC)
  | (go_at_call 398;refine (hA _ hb).mono ?_
     rintro e G ⟨rfl,U⟩)
  | (go_at_call 295;refine (hR _ _).mono ?_
     rintro e V ⟨rfl,rfl⟩)
 obtain⟨o9,M,h9⟩:=ac _ _ hb U;go_ret;exact⟨o9,M,.ok r,⟨h9,rfl⟩,rfl⟩
def uM (z:Wf o w) (hW:ai o w W m Y aB aF aC cs ds) (k:Nat) (x) (hx:m.sys[k]? =some x) (f:Nat) (aa:x.fl=f) :
  Calls prog 344 #[π W,ι (k:Nat)] w (c2 (.int .i64) W (cR (k:Nat) m).2 ((m.cells.getD f 0:Nat):Int) (wl W Y cs ds) o w):=by
 refine yl ?_;intro hz af hb O Z an ap n0 n1 aD;unfold aA at *;go_enter func344,ntmps344;go_wp2_with fail;generalize (w.alloc (.cells #[π W] 27)).alloc (.cells #[ι (k:Nat)] 3)=G at *
 have I:=qm 397 #[ϖ w,π (η w)] W (cR (k:Nat) m).2 ((m.cells.getD f 0:Nat):Int) (wl W Y cs ds) o G ap aD.lt Ψ (fun o3 E ax ag _=>
   xr ax (aD.kept (ag.kp) ag.size fun _ _=>Zk) k x hx f aa _ _ _ (ag.frozen.BF O n0).1 (ag.frozen.BF Z n1).1)
 refine I.mono ?_;rintro e M ⟨o4,ao,⟨L',H,h2⟩,rfl⟩;have hF:c2 (.int .i64) W (cR (k:Nat) m).2 ((m.cells.getD f 0:Nat):Int) (wl W Y cs ds) o w (.returned (.tuple #[ι ((m.cells.getD f 0:Nat):Int),ι 0])) M:=
  ⟨o4,(an.more z fun _ _ h=>h.elim).same z ao,⟨L',H,fun q hq=>(h2 q hq).imp id fun h=>Zp hb.size h⟩,rfl⟩
 clear I ao H h2;go_wp2_with fail;go_ret2;exact hF
end
end
section
section
variable {m:aH} {i:Nat}
def uw {x} (h:m.sys[i]? =some x) {f:Nat} (hx:x.fl=f) (hf:f < m.cells.length):(ct (i:Nat) m).2={m with cells:=m.cells.set f 2,cnt:=m.cnt+1}∧code (ct (i:Nat) m).1=0:=by unfold ct Wm.bind;rw[hE h];dsimp only;rw[hx,f7 hf];exact⟨rfl,rfl⟩
end
section
variable {o:ab} {w:World} {W Y:Nat} {m:aH} {aB aF aC:Value} {cs:List (Nat×Nat×Nat×Nat)} {ds:List (Nat×Nat)}
def wW (z:Wf o w) (hW:ai o w W m Y aB aF aC cs ds) (k:Nat) (x) (hx:m.sys[k]? =some x) (f:Nat) (aa:x.fl=f) (bw bn B) (ao:A w bw 27 [aA W]) (aL:A w bn 3 [ι (k:Nat)]) :
  Calls prog 407 #[π bw,π bn] w (bH (·∈wl W Y cs ds) (.int .i64) (eF B W (ct (k:Nat) m).2 (code (ct (k:Nat) m).1) (wl W Y cs ds)) o w):=by
 have c0:=ao.c 0 rfl;have c1:=aL.c 0 rfl;have cA:=hW.blk.c 0 rfl;unfold aA at c0 cA;have ag:f < m.cells.length:=by have:=(hW.ok.fls x (Zi hx)).2;omega
 obtain⟨e1,e2⟩:=uw hx aa ag;rw[e1,e2];have hC:=lV hW k x hx;have hA:=fun w1 (hb:Below (ν w) w w1)=>wD o Y m.most m.cells m.cnt f w1 (z.below hb) (hW.ar.below z hb) ag;obtain⟨L,O⟩:∃L,m.cells.set f 2=L:=⟨_,rfl⟩;simp only[O] at hA ⊢;have aq:L.length=m.cells.length:=by rw[←O,List.length_set]
 have hc2:∀n∈L,n≤2:=by rw[←O];refine iz hW.ok.two _ _ ?_;omega
 have ac:=fun w1 G (hb:Below (ν w) w w1) (U:E Y m.most L m.cnt o w1 G)=>ai.accessed z hW hb U aq hc2 B;clear O e1 e2;go_enter func407,ntmps407;go_wp2_with first
  | (go_at_call 158;refine hC.mono ?_
     rintro e w1 ⟨g,xs,rfl,hb,hg,-,-,aJ,-,a4⟩;refine zE ?_;intro c3 d0 h
     clear aJ a4 hC)
  | (go_at_call 408;refine (hA _ hb).mono ?_
     rintro e G ⟨rfl,U⟩)
 obtain⟨o9,M,h9⟩:=ac _ _ hb U;go_ret;exact⟨o9,M,.ok 0,⟨h9,rfl⟩,rfl⟩
def tp (z:Wf o w) (hW:ai o w W m Y aB aF aC cs ds) (k:Nat) (x) (hx:m.sys[k]? =some x) (f:Nat) (aa:x.fl=f) :
  Calls prog 351 #[π W,ι (k:Nat)] w (cF W (ct (k:Nat) m).2 (code (ct (k:Nat) m).1) (wl W Y cs ds) o w):=by
 refine yl ?_;intro hz af hb O Z an ap n0 n1 aD;unfold aA at *;go_enter func351,ntmps351;go_wp2_with fail;generalize (w.alloc (.cells #[π W] 27)).alloc (.cells #[ι (k:Nat)] 3)=G at *
 have I:=hK 407 #[ϖ w,π (η w)] W (ct (k:Nat) m).2 (code (ct (k:Nat) m).1) (wl W Y cs ds) o G ap aD.lt Ψ (fun o3 E ax ag _=>
   wW ax (aD.kept (ag.kp) ag.size fun _ _=>Zk) k x hx f aa _ _ _ (ag.frozen.BF O n0).1 (ag.frozen.BF Z n1).1)
 refine I.mono ?_;rintro e M ⟨o4,ao,⟨L',H,h2⟩,rfl⟩;have hF:cF W (ct (k:Nat) m).2 (code (ct (k:Nat) m).1) (wl W Y cs ds) o w (.returned (ι (code (ct (k:Nat) m).1))) M:=
  ⟨o4,(an.more z fun _ _ h=>h.elim).same z ao,⟨L',H,fun q hq=>(h2 q hq).imp id fun h=>Zp hb.size h⟩,rfl⟩
 clear I ao H h2;go_wp2_with fail;go_ret;exact hF
end
end
section
section
variable {o o':ab} {w w':World} {W Y:Nat} {m:aH} {aB aF aC:Value} {cs:List (Nat×Nat×Nat×Nat)} {ds:List (Nat×Nat)}
def rz (x send l):(bZ x send l).at_=x.at_:=by cases send <;> rfl
def uS (send sq rq):aZ send sq rq∈[sq,rq]:=by cases send <;> simp[aZ]
def ai.BX (h:ai o w W m Y aB aF aC cs ds) {k c x send l} (hc:cs[k]? =some c) (hx:m.chs[k]? =some x) (U:J (·=aZ send c.2.2.1 c.2.2.2) o w o' w') (hC:aq o' w' c.1 (bZ x send l) c.2.1 c.2.2.1 c.2.2.2) :
  ai o' w' W {m with chs:=m.chs.set k (bZ x send l)} Y aB aF aC cs ds:=by
 obtain⟨q,hq⟩:∃q,aZ send c.2.2.1 c.2.2.2=q:=⟨_,rfl⟩;have z:q∈[c.2.2.1,c.2.2.2]:=by rw[←hq];exact uS _ _ _
 rw[hq] at U;have I:aM (·≠q) o w o' w':=U.et fun _ h=>h;have hs:=U.size;have Z:=h.nd;unfold wl at Z;rw[List.nodup_cons,List.nodup_cons,List.nodup_append] at Z;obtain⟨n1,n2,n3,n4,E⟩:=Z;have hm:q∈(cs.flatMap fun c=>[c.2.2.1,c.2.2.2]):=Z1.2 ⟨c,Zi hc,z⟩;have aa:W≠q:=fun e=>n1 (by rw[e];exact Zo _ (Zm _ hm));have G:Y≠q:=fun e=>n2 (by rw[e];exact Zm _ hm);obtain⟨H,h4⟩:=I.blk h.blk h.own aa;obtain⟨-,hp⟩:=List.pairwise_flatMap.1 n3;have hp:=Yz.1 hp;obtain⟨l2,q2⟩:=Ze.1 hc
 refine⟨H,h4,h.ar.kept I G,?_,by rw[List.length_set];exact h.lch,fun i e y he hy=>?_,h.rco.kept I aa,h.lco,fun i d y hd hy=>(h.co i d y hd hy).kept I hs fun e=>E q hm d.2 (ZC.2 ⟨d,Zi hd,rfl⟩) e.symm,
   h.rsy.kept I aa fun _ _ hx=>hx.et (fun _ hg q=>I.cell hg q) (fun _ hg=>(I.fz hs hg).1),h.nd,?_⟩
 ·show aw o' w' W _ 1 aB (m.chs.set k _).length _
  rw[List.length_set];exact h.rch.kept I aa
 ·by_cases an:i=k
  ·subst an
   obtain rfl:c=e:=by rw[hc] at he;injection he
   rw[List.getElem?_set_self (List.getElem?_eq_some_iff.1 hx).1] at hy;injection hy with hy;rw[←hy];exact hC
  ·rw[List.getElem?_set_ne (Ne.symm an)] at hy
   obtain⟨l1,q1⟩:=Ze.1 he;have ay:∀O∈[e.2.2.1,e.2.2.2],O≠q:=by
    intro O hz A;rcases Nat.lt_trichotomy i k with ad | aI | ad
    ·exact hp i k l1 l2 ad O (by rw[q1];exact hz) q (by rw[q2];exact z) A
    ·exact an aI
    ·exact hp k i l2 l1 ad q (by rw[q2];exact z) O (by rw[q1];exact hz) A.symm
   exact (h.ch i e y he hy).kept I hs (ay _ ξ) (ay _ ξ)
 ·obtain⟨o1,o2,o3,o4,o5,o6⟩:=h.ok
  exact⟨o1,fun y hy=>(ZY hy).elim (o2 y) fun e=>by rw[e,rz];exact o2 x (Zi hx),o3,o4,o5,by
    show (m.chs.set k _).length+2*m.cos.length+m.sys.length≤m.cells.length
    rw[List.length_set]
    exact o6⟩
end
end
section
def i6:Except Int (List V)→Int
 | .ok _=>0
 | .error n=>n
end
section
end
def kq {o w W Y m aB aF aC cs ds} (hW:ai o w W m Y aB aF aC cs ds) (hE:a6 o w) (k send c) (hc:cs[k]? =some c) :
  Calls prog 394 #[π W,ι (k:Nat),ι (sd send)] w (ϑ (π c.1) w):=by
 have hN:=d3 W Y aB aF aC w hW.blk;have I:=ii o send w hE;have hC:=ky hW k c hc;have z:=cK 1 w;have h:=cK 2 w;have hs:sd (!send)≠0:=by cases send <;> decide
 obtain⟨q,hq⟩:∃q,sd (!send)=q:=⟨_,rfl⟩;obtain⟨p,hp⟩:∃p,sd send=p:=⟨_,rfl⟩;rw[hq] at I hs;rw[hp] at I ⊢;have aS:(q != 0)=true:=by simp[hs]
 clear hq hp;go_enter func394,ntmps394;go_wp2_with first
  | (go_at_call 49;refine γ hN ?_)
  | (go_at_call 358;refine γ I ?_)
  | (go_at_call 172;refine γ z ?_;clear z)
  | (go_at_call 172;refine γ h ?_;clear h)
  | (go_at_call 390;refine δ hC ?_;intro w1 hb)
 go_ret;exact⟨rfl,hb⟩
section
def ks {w n O sz E T T' v v' xs I} (h:aQ w T sz v n xs) (V:aQ w T' E v' O I) (U:T≠T'):∀q,v.ownBlock=some q→¬v'.ownBlock=some q:=by exact zy
def aw.beside {o w w1 W g sz n sz2 n2 an E2 T v v2 xs xs2 cs} (h:aw o w W an sz v n xs) (hr:aQ w E2 sz2 v2 n2 xs2) (hE:an≠E2) (hb:A w W T cs) (U:T≠an) (hg:w.grownBy w1 v2.ownBlock) (ha:v2.ownBlock=some g∨g=w.heap.size) (i u) :
  aw (o.set g (some W)) (σ w1 W i u) W an sz v n xs:=by
 have ay:=ks h.row hr hE;refine⟨h.row.et fun q hq ad=>?_,fun q hq=>?_⟩
 ·rw[Below.heap_setCell _ _ _ _ (fun e=>bq hb h.row U (by rw[hq,e]))]
  exact hg.block q ad fun e=>ay q hq e.symm
 ·rw[ab.BG _ _ ?_]
  ·exact h.own q hq
  ·rintro rfl
   rcases ha with e | e
   ·exact ay _ hq e
   ·have:=h.row.lt hq;omega
section
variable {o o':ab} {w w' w1:World} {W Y g cap:Nat} {m:aH} {aB aF aC:Value} {cs:List (Nat×Nat×Nat×Nat)} {ds:List (Nat×Nat)}
def ai.Cn (h:ai o w W m Y aB aF aC cs ds) (n) (U:J (·=Y) o w o' w') (hA:an o' w' Y m.most (m.cells ++ List.replicate n 0) m.cnt):ai o' w' W {m with cells:=m.cells ++ List.replicate n 0} Y aB aF aC cs ds:=by
 refine zC ?_;intro I Z a1 aZ H h4 hs
 refine⟨H,h4,hA,h.rch.kept I a1,h.lch,fun i c x hc hx=>(h.ch i c x hc hx).kept I hs (aZ _ (Zm _ (Z1.2 ⟨c,Zi hc,by simp⟩))) (aZ _ (Zm _ (Z1.2 ⟨c,Zi hc,by simp⟩))),
   h.rco.kept I a1,h.lco,fun i d x hd hx=>(h.co i d x hd hx).kept I hs (aZ _ (Zx _ (ZC.2 ⟨d,Zi hd,rfl⟩))),h.rsy.kept I a1 fun _ _ hx=>hx.et (fun _ hg q=>I.cell hg q) (fun _ hg=>(I.fz hs hg).1),h.nd,?_⟩
 obtain⟨o1,o2,o3,o4,o5,o6⟩:=h.ok;have hl:(m.cells ++ List.replicate n 0).length=m.cells.length+n:=by simp
 exact⟨fun k hk=>by
   rcases Zv.1 hk with hk | hk
   ·exact o1 k hk
   ·rw[(List.mem_replicate.1 hk).2];omega,fun x hx=>by have:=o2 x hx;show _ < (m.cells ++ List.replicate n 0).length;omega,fun x hx=>by have:=o3 x hx;show _ < (m.cells ++ List.replicate n 0).length;omega,fun x hx=>by have:=o4 x hx;show _ < (m.cells ++ List.replicate n 0).length;omega,
  fun x hx=>by obtain⟨q1,q2⟩:=o5 x hx;refine⟨q1,?_⟩;show _ < ((m.cells ++ List.replicate n 0).length:Int);omega,by show _≤(m.cells ++ List.replicate n 0).length;show m.chs.length+2*m.cos.length+m.sys.length≤_;omega⟩
def gt {α:Type} (l) (x:α):(l ++ [x]).length=l.length+1:=by simp
def sr {α:Type} {l} {x y:α} {i} (h:(l ++ [x])[i]? =some y):(l[i]? =some y)∨(i=l.length∧y=x):=by
 rcases ZN i l.length with ad | Z
 ·rw[List.getElem?_append_left ad] at h
  exact .inl h
 ·have hi:=(Ze.1 h).1
  obtain rfl:i=l.length:=by simp at hi;omega
  simp at h;exact .inr ⟨rfl,h.symm⟩
def ai.Cu (h:ai o w W m Y aB aF aC cs ds) (z:Wf o w) {c x} (hr:aQ w1 116 1 (.slice (Γ g) (m.chs.length+1) cap) (m.chs.length+1) ((cs.map fun c=>aA c.1) ++ [aA c.1])) (hg:w.grownBy w1 aB.ownBlock) (ha:aB.ownBlock=some g∨g=w.heap.size) (hc:aq o w c.1 x c.2.1 c.2.2.1 c.2.2.2) (n1:c.2.2.1∉wl W Y cs ds) (n2:c.2.2.2∉wl W Y cs ds) (n3:c.2.2.1≠c.2.2.2) (aV:x.at_ < m.cells.length) (ce:m.chs.length+2*m.cos.length+m.sys.length+1≤m.cells.length) :
  J (·=W) o w (o.set g (some W)) (σ w1 W 1 (.slice (Γ g) (m.chs.length+1) cap):World)∧ai (o.set g (some W)) (σ w1 W 1 (.slice (Γ g) (m.chs.length+1) cap)) W {m with chs:=m.chs ++ [x]} Y (.slice (Γ g) (m.chs.length+1) cap) aF aC (cs ++ [c]) ds:=by
 obtain⟨H,h2⟩:=h.rch.BM z h.blk.lt hr hg ha;have E:g≠W:=by
  rintro rfl;rcases ha with e | e
  ·exact bq h.blk h.rch.row φ e
  ·have:=h.blk.lt;omega
 have L:(o.set g (some W)) W=some W:=by rw[ab.BG _ _ (Ne.symm E)];exact h.own
 have aa:A w1 W 113 [aA Y,aB,aF,aC]:=h.blk.fr (S:=fun q=>aB.ownBlock=some q) (Yj hg fun q hq=>.inl hq) (bq h.blk h.rch.row φ);have U:=H.same z (Z3 (D:=(·=W)) (z.BD H) L rfl 1 (.slice (Γ g) (m.chs.length+1) cap));have I:aM (·≠W) o w _ _:=U.et (K:=(·≠W)) fun _ h=>h;have hs:=U.size;have Z:=h.nd;unfold wl at Z n1 n2;rw[List.nodup_cons,List.nodup_cons,List.nodup_append] at Z;obtain⟨m1,m2,m3,m4,m5⟩:=Z;simp only[List.mem_cons,List.mem_append,not_or] at n1 n2 m1;have aZ:∀k,k∈((cs.flatMap fun c=>[c.2.2.1,c.2.2.2]) ++ ds.map (·.2))→k≠W:=fun k hk e=>by rw[e] at hk;exact (Zv.1 hk).elim m1.2.1 m1.2.2
 refine⟨U,aa.set 1 _,L,h.ar.kept I (fun e=>m1.1 e.symm),?_,by rw[gt,gt,h.lch],fun i e y he hy=>?_,h.rco.beside h.rch.row φ h.blk φ hg ha _ _,h.lco,
   fun i d y hd hy=>(h.co i d y hd hy).kept I hs (aZ _ (Zx _ (ZC.2 ⟨d,Zi hd,rfl⟩))),?_,?_,?_⟩
 ·show aw _ _ W _ 1 _ (m.chs ++ [x]).length _
  rw[gt,List.map_append];exact h2.BH (fun e=>E (by simpa [Value.ownBlock] using e)) _ _
 ·rcases sr he with G | ⟨hi,rfl⟩
  ·have ad:=(Ze.1 G).1
   rw[List.getElem?_append_left (by rw[←h.lch];exact ad)] at hy;exact (h.ch i e y G hy).kept I hs (aZ _ (Zm _ (Z1.2 ⟨e,Zi G,by simp⟩))) (aZ _ (Zm _ (Z1.2 ⟨e,Zi G,by simp⟩)))
  ·subst hi
   rw[h.lch] at hy;obtain rfl:x=y:=by simpa using hy
   exact hc.kept I hs n1.1 n2.1
 ·obtain⟨xs,q1,q2⟩:=h.rsy
  exact⟨xs,q1.beside h.rch.row φ h.blk φ hg ha _ _,q2.mono fun _ _ hx=>hx.et (fun _ hg q=>I.cell hg q) (fun _ hg=>(I.fz hs hg).1)⟩
 ·unfold wl
  rw[List.flatMap_append,List.flatMap_singleton];refine List.nodup_cons.2 ⟨?_,List.nodup_cons.2 ⟨?_,Ys.2 ⟨Ys.2 ⟨m3,by simp[n3],?_⟩,m4,?_⟩⟩⟩
  ·simp only[List.mem_cons,List.mem_append,List.not_mem_nil,or_false,not_or]
   exact⟨m1.1,⟨m1.2.1,fun e=>n1.1 e.symm,fun e=>n2.1 e.symm⟩,m1.2.2⟩
  ·simp only[List.mem_cons,List.mem_append,List.not_mem_nil,or_false,not_or]
   rw[List.mem_append] at m2;exact⟨⟨m2 ∘ .inl,fun e=>n1.2.1 e.symm,fun e=>n2.2.1 e.symm⟩,m2 ∘ .inr⟩
  ·intro a ha b hb e
   simp only[List.mem_cons,List.not_mem_nil,or_false] at hb;rcases hb with rfl | rfl
   ·exact n1.2.2.1 (by rw[←e];exact ha)
   ·exact n2.2.2.1 (by rw[←e];exact ha)
  ·intro a ha b hb
   rcases Zv.1 ha with ha | ha
   ·exact m5 a ha b hb
   ·simp only[List.mem_cons,List.not_mem_nil,or_false] at ha
    rintro rfl;rcases ha with rfl | rfl
    ·exact n1.2.2.2 hb
    ·exact n2.2.2.2 hb
 ·obtain⟨o1,o2,o3,o4,o5,o6⟩:=h.ok
  refine⟨o1,fun y hy=>?_,o3,o4,o5,by show (m.chs ++ [x]).length+_+_≤_;rw[gt];show _≤m.cells.length;show m.chs.length+1+2*m.cos.length+m.sys.length≤_;omega⟩;rcases Zv.1 hy with hy | hy
  ·exact o2 y hy
  ·rw[List.mem_singleton.1 hy];exact aV
def zG {p q:Prop} (k:q) (h:Zq q→p:=by
 intro mq;have hs:=U.size;have Z:=h.nd;unfold wl at Z;rw[List.nodup_cons] at Z;have aZ:∀k,k∈((cs.flatMap fun c=>[c.2.2.1,c.2.2.2]) ++ ds.map (·.2))→k≠W:=fun k hk e=>Z.1 (by rw[←e];exact Zo _ hk);have M:Y≠W:=fun e=>Z.1 (by rw[e];exact Zr);revert hs Z aZ M
 exact mq.u):p:=h ⟨k⟩
def ai.Cw (h:ai o w W m Y aB aF aC cs ds) (z:Wf o w) {x xs ys} (G:aw o w W 126 11 aC m.sys.length xs) (aX:aD (bx (Fz o w) w) 11 m.sys xs) (hx:bx (Fz o w) w x ys) (aj:ys.length=11) (hr:aQ w1 126 11 (.slice (Γ g) (m.sys.length+1) cap) (m.sys.length+1) (xs ++ ys)) (hg:w.grownBy w1 aC.ownBlock) (ha:aC.ownBlock=some g∨g=w.heap.size) (aY:0≤x.fl∧x.fl < m.cells.length) (ce:m.chs.length+2*m.cos.length+m.sys.length+1≤m.cells.length) :
  J (·=W) o w (o.set g (some W)) (σ w1 W 3 (.slice (Γ g) (m.sys.length+1) cap):World)∧ai (o.set g (some W)) (σ w1 W 3 (.slice (Γ g) (m.sys.length+1) cap)) W {m with sys:=m.sys ++ [x]} Y aB aF (.slice (Γ g) (m.sys.length+1) cap) cs ds:=by
 obtain⟨H,h2⟩:=G.BM z h.blk.lt hr hg ha;have E:g≠W:=by
  rintro rfl;rcases ha with e | e
  ·exact bq h.blk G.row φ e
  ·have:=h.blk.lt;omega
 have L:(o.set g (some W)) W=some W:=by rw[ab.BG _ _ (Ne.symm E)];exact h.own
 have aa:A w1 W 113 [aA Y,aB,aF,aC]:=h.blk.fr (S:=fun q=>aC.ownBlock=some q) (Yj hg fun q hq=>.inl hq) (bq h.blk G.row φ);have U:=H.same z (Z3 (D:=(·=W)) (z.BD H) L rfl 3 (.slice (Γ g) (m.sys.length+1) cap));have I:aM (·≠W) o w _ _:=U.et (K:=(·≠W)) fun _ h=>h;refine zG ?_;intro hs Z aZ M
 refine⟨U,aa.set 3 _,L,h.ar.kept I M,h.rch.beside G.row φ h.blk φ hg ha _ _,h.lch,
  fun i d y hd hy=>(h.ch i d y hd hy).kept I hs (aZ _ (Zm _ (Z1.2 ⟨d,Zi hd,by simp⟩))) (aZ _ (Zm _ (Z1.2 ⟨d,Zi hd,by simp⟩))),
  h.rco.beside G.row φ h.blk φ hg ha _ _,h.lco,fun i d y hd hy=>(h.co i d y hd hy).kept I hs (aZ _ (Zx _ (ZC.2 ⟨d,Zi hd,rfl⟩))),?_,h.nd,?_⟩
 ·refine⟨xs ++ ys,?_,(aX.push hx aj).mono fun _ _ hx=>hx.et (fun _ hg q=>I.cell hg q) (fun _ hg=>(I.fz hs hg).1)⟩
  show aw _ _ W _ 11 _ (m.sys ++ [x]).length _
  rw[gt];exact h2.BH (fun e=>E (by simpa [Value.ownBlock] using e)) _ _
 ·obtain⟨o1,o2,o3,o4,o5,o6⟩:=h.ok
  refine⟨o1,o2,o3,o4,fun y hy=>?_,by show _+(m.sys ++ [x]).length≤_;rw[gt];show m.chs.length+2*m.cos.length+(m.sys.length+1)≤m.cells.length;omega⟩;rcases Zv.1 hy with hy | hy
  ·exact o5 y hy
  ·rw[List.mem_singleton.1 hy];exact aY
end
def a3 (w:World) (g b:Nat):List (Nat×Value)→World
 | []=>w
 | p :: r=>a3 (w.setCell ⟨g,b+p.1,none⟩ p.2) g b r
def cr (cs:List Value):List (Nat×Value)→List Value
 | []=>cs
 | p :: r=>cr (cs.set p.1 p.2) r
def sf (us):∀cs:List Value,(cr cs us).length=cs.length:=by
 induction us with
 | nil=>exact fun _=>rfl
 | cons p r z=>exact fun cs=>(z _).trans (List.length_set ..)
def aE {S g} (hg:S g) (b us):∀w:World,Fr S w (a3 w g b us):=by
 induction us with
 | nil=>exact fun w=>Y8 _ _
 | cons p r z=>exact fun w=>(Z4 (q:=κ g (b+p.1)) (.inl hg)).same (z _)
def aW {g b T} (us):∀(w:World) (cs:List Value),A w g T cs→A (a3 w g b us) g T (cr cs (us.map fun p=>(b+p.1,p.2))):=by
 induction us with
 | nil=>exact fun _ _ h=>h
 | cons p r z=>exact fun w cs h=>z _ _ (h.set _ _)
def m0 {j sz} (us):∀(xs:List Value),(∀p∈us,p.1 < sz)→j*sz+sz≤xs.length →
  cr xs (us.map fun p=>(j*sz+p.1,p.2))=xs.take (j*sz) ++ cr ((xs.drop (j*sz)).take sz) us ++ xs.drop (j*sz+sz):=by
 induction us with
 | nil=>
   intro xs _ hl
   show xs=xs.take (j*sz) ++ (xs.drop (j*sz)).take sz ++ xs.drop (j*sz+sz)
   rw[List.append_assoc,←List.drop_drop,List.take_append_drop,List.take_append_drop]
 | cons p r z=>
   intro xs hp hl;have H:=z (xs.set (j*sz+p.1) p.2) (fun q hq=>hp q (Zo _ hq)) (by rw[List.length_set];exact hl);have h2:=kE (j:=j) (hp p Zr) hl p.2;have aI:(((xs.drop (j*sz)).take sz).set p.1 p.2).length=sz:=by simp;omega
   have ht:(xs.take (j*sz)).length=j*sz:=by simp;omega
   show cr (xs.set (j*sz+p.1) p.2) _=_
   rw[H,h2]
   congr 1
   ·congr 1
    ·rw[List.append_assoc,List.take_append_of_le_length ω,List.take_of_length_le ω]
    ·show cr _ r=cr (((xs.drop (j*sz)).take sz).set p.1 p.2) r
     congr 1
     rw[List.append_assoc,List.drop_append,List.drop_of_length_le ω,List.nil_append,show j*sz - (xs.take (j*sz)).length=0 by omega,List.drop_zero,List.take_append_of_le_length ω,List.take_of_length_le ω]
   ·rw[List.drop_append,List.drop_of_length_le (by rw[List.length_append];omega),List.nil_append]
    rw[show j*sz+sz - (xs.take (j*sz) ++ ((xs.drop (j*sz)).take sz).set p.1 p.2).length=0 by rw[List.length_append];omega,List.drop_zero]
def aD.cells {α:Type} {P sz j l xs} (h:aD P sz l xs) {x y:α} (hy:l[j]? =some y) (us) (A:∀p∈us,p.1 < sz) (hx:∀cs,cs.length=sz→P y cs→P x (cr cs us)):aD P sz (l.set j x) (cr xs (us.map fun p=>(j*sz+p.1,p.2))):=by
 have ad:=(Ze.1 hy).1;have hb:=dH (sz:=sz) ad;rw[←h.1] at hb;have aI:((xs.drop (j*sz)).take sz).length=sz:=by simp;omega
 rw[m0 us xs A hb];exact h.set ad (hx _ aI (h.2 j y hy)) (by rw[sf];exact aI)
def aQ.C2 {an sz n g cap b} (us):∀(w:World) (xs:List Value),aQ w an sz (.slice (Γ g) n cap) n xs→aQ (a3 w g b us) an sz (.slice (Γ g) n cap) n (cr xs (us.map fun p=>(b+p.1,p.2))):=by
 induction us with
 | nil=>exact fun _ _ h=>h
 | cons p r z=>exact fun w xs h=>z _ _ (h.stored _ _)
section
variable {o:ab} {w:World} {W Y:Nat} {m:aH} {aB aF aC:Value} {cs:List (Nat×Nat×Nat×Nat)} {ds:List (Nat×Nat)}
def ai.Cr (h:ai o w W m Y aB aF aC cs ds) (z:Wf o w) {k g x x'} (hx:m.sys[k]? =some x) (hg:aC.ownBlock=some g) (us) (A:∀p∈us,p.1 < 11) (hP:∀cs,cs.length=11→bx (Fz o w) w x cs→bx (Fz o w) w x' (cr cs us)) (aY:x'.fl=x.fl) :
  J (·=W) o w o (a3 w g (k*11) us)∧ai o (a3 w g (k*11) us) W {m with sys:=m.sys.set k x'} Y aB aF aC cs ds:=by
 obtain⟨xs,H,h2⟩:=h.rsy;have aU:=H.own g hg;have U:J (·=W) o w o (a3 w g (k*11) us):=Z9 z (aE (S:=(·=g)) rfl _ _ _) fun b _ hb=>⟨W,by rw[hb];exact aU,rfl⟩;have I:aM (·≠W) o w o _:=U.et (K:=(·≠W)) fun _ h=>h;refine zG ?_;intro hs Z aZ M;have E:g≠W:=fun e=>bq h.blk H.row φ (by rw[hg,e]);have aR:∀b,b≠g→b < w.heap.size→(a3 w g (k*11) us).heap[b]? =w.heap[b]? :=fun b hb ad=>(aE (S:=(·=g)) rfl (k*11) us w).block b ad hb;obtain⟨a,cap,rfl,-⟩:=H.row.form;obtain rfl:a=some ⟨g,0,none⟩:=by
  rcases H.row.2 with ⟨e,-⟩ | ⟨g',c',cu,e,-⟩
  ·rw[e] at hg;cases hg
  ·rw[e] at hg
   obtain rfl:g'=g:=by simpa [Value.ownBlock] using hg
   injection e
 refine⟨U,(aR W (Yv E) h.blk.lt).trans h.blk,h.own,h.ar.kept I M,⟨h.rch.row.et fun q hq ad=>aR q (fun e=>ks h.rch.row H.row φ q hq (by rw[e];rfl)) ad,h.rch.own⟩,h.lch,
   fun i d y hd hy=>(h.ch i d y hd hy).kept I hs (aZ _ (Zm _ (Z1.2 ⟨d,Zi hd,by simp⟩))) (aZ _ (Zm _ (Z1.2 ⟨d,Zi hd,by simp⟩))),
   ⟨h.rco.row.et fun q hq ad=>aR q (fun e=>ks h.rco.row H.row φ q hq (by rw[e];rfl)) ad,h.rco.own⟩,h.lco,fun i d y hd hy=>(h.co i d y hd hy).kept I hs (aZ _ (Zx _ (ZC.2 ⟨d,Zi hd,rfl⟩))),?_,h.nd,?_⟩
 ·refine⟨cr xs (us.map fun p=>(k*11+p.1,p.2)),?_,(h2.cells hx us A hP).mono fun _ _ hx=>hx.et (fun _ hg q=>I.cell hg q) (fun _ hg=>(I.fz hs hg).1)⟩
  show aw _ _ W _ 11 _ (m.sys.set k x').length _
  rw[List.length_set];exact⟨H.row.C2 us w xs,H.own⟩
 ·obtain⟨o1,o2,o3,o4,o5,o6⟩:=h.ok
  exact⟨o1,o2,o3,o4,fun y hy=>(ZY hy).elim (o5 y) fun e=>by rw[e,aY];exact o5 x (Zi hx),by
    show _+(m.sys.set k x').length≤_
    rw[List.length_set]
    exact o6⟩
end
end
section
section
variable {m:aH} {i:Nat}
def qx {x:dN} (h:m.chs[i]? =some x) (send:Bool) (y:V):code (cS (i:Nat) send y m).1=i6 (bV (aJ x send) y)∧(cS (i:Nat) send y m).2=(match bV (aJ x send) y with
  | .ok l=>{m with chs:=m.chs.set i (bZ x send l)}
  | .error _=>m):=by
 unfold cS Wm.bind;rw[kx h];dsimp only;cases bV (aJ x send) y with
 | ok l=>exact⟨rfl,by simp[iE]⟩
 | error n=>exact⟨rfl,rfl⟩
end
section
variable {o:ab} {w:World} {W Y:Nat} {m:aH} {aB aF aC:Value} {cs:List (Nat×Nat×Nat×Nat)} {ds:List (Nat×Nat)}
def sm (z:Wf o w) (hW:ai o w W m Y aB aF aC cs ds) (hE:a6 o w) (k send x) (hx:m.chs[k]? =some x) (y aD cx) (hy:a4 (Fz o w) w y (bu y aD cx)) (bw bn bs be B) (ao:A w bw 27 [aA W]) (aL:A w bn 3 [ι (k:Nat)]) (aM:A w bs 182 [ι (sd send)]) (L:A w be 307 (bu y aD cx)) (aK:∀b∈[bw,bn,bs,be],o b=none) :
  Calls prog 424 #[π bw,π bn,π bs,π be] w (bH (·∈wl W Y cs ds) (.int .i64) (eF B W (cS (k:Nat) send y m).2 (code (cS (k:Nat) send y m).1) (wl W Y cs ds)) o w):=by
 have aV:Below (ν w) w w.drew:=(Zj _ _).drew;have ap:=(tB z aV).kp;have aa:=hW.kept ap aV.size fun _ _=>Zk;have bo:=hy.kept ap aV.size;have ae:=z.below aV;have c0:=ao.c 0 rfl;have c1:=aL.c 0 rfl;have V:=aM.c 0 rfl;have ax:=hE.kept ap;unfold aA at c0;obtain⟨q0,q1,q2,q3,q4,q5,q6,-⟩:=kc6 L;have ad:=(Ze.1 hx).1;obtain⟨d,hd⟩:∃d,cs[k]? =some d:=⟨_,Zg (by have:=hW.lch;omega)⟩;obtain⟨e1,e2⟩:=qx hx send y;rw[e1,e2];have hC:=kq aa ax k send d hd;have hA:=fun w1 (hb:Below w.drew.heap.size w.drew w1)=>pV o d.1 x d.2.1 d.2.2.1 d.2.2.2 send y _ w1 (ae.below hb) ((aa.ch k d x hd hx).below ae hb) (bo.kept (kB ae hb) hb.size)
 have ac:∀(w1 G:World) (e:Ending),Below w.drew.heap.size w.drew w1→(∃o',J (·=aZ send d.2.2.1 d.2.2.2) o w1 o' G∧(match bV (aJ x send) y with
   | .ok l'=>e= .returned (ι 0)∧aq o' G d.1 (bZ x send l') d.2.1 d.2.2.1 d.2.2.2
   | .error n=>e= .returned (ι n)∧aq o' G d.1 x d.2.1 d.2.2.1 d.2.2.2))→e= .returned (ι (i6 (bV (aJ x send) y)))∧∃o',J (·∈wl W Y cs ds) o w o' G∧aT B W (match bV (aJ x send) y with
  | .ok l=>{m with chs:=m.chs.set k (bZ x send l)}
  | .error _=>m) (wl W Y cs ds) o' G:=by
  intro w1 G e hb ⟨o',H,h2⟩;have az:=aV.trans hb;have I:=(tB z az).kp;have a7:=hW.kept I az.size fun _ _=>Zk;have U:J (·∈wl W Y cs ds) o w o' G:=((Zb (D:=(·=aZ send d.2.2.1 d.2.2.2)) z az).same z H).more z fun q _ e=>by
   rw[e];cases send
   ·exact (gu hd).2
   ·exact (gu hd).1
  cases hp:bV (aJ x send) y with
  | ok l=>rw[hp] at h2;exact⟨h2.1,o',U,_,⟨Y,aB,aF,aC,cs,ds,a7.BX hd hx H h2.2,rfl⟩,fun q hq=>.inl hq⟩
  | error n=>
    rw[hp] at h2;refine⟨h2.1,o',U,_,⟨Y,aB,aF,aC,cs,ds,?_,rfl⟩,fun q hq=>.inl hq⟩;have h3:=a7.BX (send:=send) (l:=aJ x send) hd hx H (by rw[show bZ x send (aJ x send)=x by cases send <;> rfl];exact h2.2)
    rwa [show bZ x send (aJ x send)=x by cases send <;> rfl,show m.chs.set k x=m.chs from List.ext_getElem? fun j=>by
      by_cases hj:j=k
      ·subst hj;rw[List.getElem?_set_self ad,hx]
      ·rw[List.getElem?_set_ne (Ne.symm hj)]] at h3
 generalize (match bV (aJ x send) y with
  | .ok l=>{m with chs:=m.chs.set k (bZ x send l)}
  | .error _=>m)=m2 at ac ⊢
 generalize hpc:i6 (bV (aJ x send) y)=pc at ac ⊢
 have aE:∀(w1 G:World) (e:Ending),Below w.drew.heap.size w.drew w1→(∃o',J (·=aZ send d.2.2.1 d.2.2.2) o w1 o' G∧(match bV (aJ x send) y with
   | .ok l'=>e= .returned (ι 0)∧aq o' G d.1 (bZ x send l') d.2.1 d.2.2.1 d.2.2.2
   | .error n=>e= .returned (ι n)∧aq o' G d.1 x d.2.1 d.2.2.1 d.2.2.2))→∀b∈[bw,bn,bs,be],G.heap[b]? =w.heap[b]? :=by
  intro w1 G e hb ⟨o',H,_⟩ b aw;have ad:b < w.heap.size:=by
   simp only[List.mem_cons,List.not_mem_nil,or_false] at aw;rcases aw with rfl | rfl | rfl | rfl
   ·exact ao.lt
   ·exact aL.lt
   ·exact aM.lt
   ·exact L.lt
  have az:=aV.trans hb;exact ((H.frozen b (Za ad az.size) (fun k hk=>by rw[aK b aw] at hk;cases hk)).1).trans (az.block b ad)
 have Z:∀(w1:World),Below w.drew.heap.size w.drew w1→∀b∈[bw,bn,bs,be],w1.heap[b]? =w.heap[b]? :=by
  intro w1 hb b aw;refine (aV.trans hb).block b ?_;simp only[List.mem_cons,List.not_mem_nil,or_false] at aw;rcases aw with rfl | rfl | rfl | rfl
  ·exact ao.lt
  ·exact aL.lt
  ·exact aM.lt
  ·exact L.lt
 have bh:∀b∈[bw,bn,bs,be],w.drew.heap[b]? =w.heap[b]? :=fun _ _=>rfl;unfold bu at hA;have HF:=χ ac;have HT:=χ aE;clear ac aE;generalize sd send=p at hA hC V aM
 have HK:=χ (fun (w':World) (h:∀b∈[bw,bn,bs,be],w'.heap[b]? =w.heap[b]?)=>(show w'.cell? (κ bw 0)=π W∧w'.cell? (κ bn 0)=ι (k:Nat)∧w'.cell? (κ bs 0)=ι p ∧
     w'.cell? (κ be 0)=ι y.sy∧w'.cell? (κ be 1)=ι y.th∧w'.cell? (κ be 2)=ι y.br∧w'.cell? (κ be 3)=ι y.fl∧w'.cell? (κ be 4)=ι y.v.kd∧w'.cell? (κ be 5)=ι y.v.n∧w'.cell? (κ be 6)=some (.slice aD y.v.l.length cx) from
   ⟨(Zd (w:=w) (h bw ξ)).trans c0,(Zd (w:=w) (h bn ξ)).trans c1,(Zd (w:=w) (h bs ξ)).trans V,
     (Zd (w:=w) (h be ξ)).trans q0,(Zd (w:=w) (h be ξ)).trans q1,(Zd (w:=w) (h be ξ)).trans q2,(Zd (w:=w) (h be ξ)).trans q3,(Zd (w:=w) (h be ξ)).trans q4,(Zd (w:=w) (h be ξ)).trans q5,(Zd (w:=w) (h be ξ)).trans q6⟩))
 clear e1 e2 aa bo hpc q0 q1 q2 q3 q4 q5 q6;go_enter func424,ntmps424;go_wp2_with fail
 go_region_held3 (fun w'=>w'.cell? (κ bw 0)=π W∧w'.cell? (κ bn 0)=ι (k:Nat)∧w'.cell? (κ bs 0)=ι p ∧
     w'.cell? (κ be 0)=ι y.sy∧w'.cell? (κ be 1)=ι y.th∧w'.cell? (κ be 2)=ι y.br∧w'.cell? (κ be 3)=ι y.fl∧w'.cell? (κ be 4)=ι y.v.kd∧w'.cell? (κ be 5)=ι y.v.n∧w'.cell? (κ be 6)=some (.slice aD y.v.l.length cx))
   (first | exact HK.out _ a' | exact HK.out _ aS | exact HK.out _ bh)
   (first
     | (go_at_call 394;(refine δ hC ?_;intro w1 hb;have aS:=Z _ hb;dsimp only))
     | (go_at_call 425;(refine (hA _ hb).mono ?_;intro e G hE;have a':=HT.out _ _ _ hb hE;obtain⟨rfl,o9,M,h9⟩:=HF.out _ _ _ hb hE;dsimp only)))
 all_goals
  go_wp2_with fail;go_ret;exact⟨o9,M,.ok pc,⟨h9,rfl⟩,rfl⟩
end
end
section
section
variable {m:aH} {i:Nat}
def nT {x} (h:m.cos[i]? =some x) (hf:x.fd < m.cells.length):(dg (i:Nat) m).2={m with cells:=m.cells,cnt:=m.cnt+1}∧(dg (i:Nat) m).1= .ok (m.cells.getD x.fd 0 != 0):=by unfold dg Wm.bind;rw[u6 h];dsimp only;rw[f7 hf];simp[Wm.ret,List.getD,List.getElem?_eq_getElem hf]
end
section
variable {o:ab} {w:World} {W Y:Nat} {m:aH} {aB aF aC:Value} {cs:List (Nat×Nat×Nat×Nat)} {ds:List (Nat×Nat)}
def tg (z:Wf o w) (hW:ai o w W m Y aB aF aC cs ds) (k x) (hx:m.cos[k]? =some x) (bw bn B) (ao:A w bw 27 [aA W]) (aL:A w bn 3 [ι (k:Nat)]) :
  Calls prog 404 #[π bw,π bn] w (bH (·∈wl W Y cs ds) (.bool) (dA B W (dg (k:Nat) m).2 (m.cells.getD x.fd 0 != 0) (wl W Y cs ds)) o w):=by
 refine yR ?_;intro aV ap aa ae c0 c1 cA ad;obtain⟨d,hd⟩:∃d,ds[k]? =some d:=⟨_,Zg (by have:=hW.lco;omega)⟩;have ag:=hW.ok.fds x (Zi hx);obtain⟨e1,e2⟩:=nT hx ag;have e3:m.cells.getD x.fd 0=m.cells[x.fd]:=by simp[List.getD,List.getElem?_eq_getElem ag]
 rw[e1,e3];have hR:=kN;have hC:=qQ aa k d hd;have hA:=fun w1 (hb:Below w.drew.heap.size w.drew w1)=>ui o d.1 x d.2 Y m.most m.cells m.cnt w1 (ae.below hb) ((aa.co k d x hd hx).below ae hb) (aa.ar.below ae hb) ag;obtain⟨r,hr⟩:∃r:Bool,(m.cells[x.fd] != 0)=r:=⟨_,rfl⟩;simp only[hr] at hA ⊢;have ac:=fun w1 G (hb:Below (ν w) w w1) (U:E Y m.most m.cells m.cnt o w1 G)=>ai.accessed z hW hb U rfl hW.ok.two B;clear hr e1 e2 e3;go_enter func404,ntmps404;go_wp2_with fail;go_region_law
  (first
    | (go_simp;go_at_call 405;refine hC.mono ?_
       rintro e w1 ⟨rfl,hb⟩;have d0:=(hb.cell (p:=κ bw 0) ao.lt).trans c0
       have h:=(hb.cell (p:=κ W 0) hW.blk.lt).trans cA)
    | (go_simp;go_at_call 406;refine (hA _ hb).mono ?_
       rintro e G ⟨rfl,U⟩)
    | (go_simp;go_at_call 389;refine (hR _ _).mono ?_
       rintro e V ⟨rfl,rfl⟩))
 all_goals
  obtain⟨o9,M,h9⟩:=ac _ _ (aV.trans hb) U;clear hC hA hb U hR c0 c1 cA d0 h ac;go_wp2_with fail;go_ret;exact⟨o9,M,.ok r,⟨h9,rfl⟩,rfl⟩
def sj (z:Wf o w) (hW:ai o w W m Y aB aF aC cs ds) (k x) (hx:m.cos[k]? =some x) :
  Calls prog 350 #[π W,ι (k:Nat)] w (c2 (.bool) W (dg (k:Nat) m).2 (m.cells.getD x.fd 0 != 0) (wl W Y cs ds) o w):=by
 refine yl ?_;intro hz af hb O Z an ap n0 n1 aD;unfold aA at *;go_enter func350,ntmps350;go_wp2_with fail;generalize (w.alloc (.cells #[π W] 27)).alloc (.cells #[ι (k:Nat)] 3)=G at *
 have I:=jK 404 #[ϖ w,π (η w)] W (dg (k:Nat) m).2 (m.cells.getD x.fd 0 != 0) (wl W Y cs ds) o G ap aD.lt Ψ (fun o3 E ax ag _=>
   tg ax (aD.kept (ag.kp) ag.size fun _ _=>Zk) k x hx _ _ _ (ag.frozen.BF O n0).1 (ag.frozen.BF Z n1).1)
 refine I.mono ?_;rintro e M ⟨o4,ao,⟨L',H,h2⟩,rfl⟩;have hF:c2 (.bool) W (dg (k:Nat) m).2 (m.cells.getD x.fd 0 != 0) (wl W Y cs ds) o w (.returned (.tuple #[.bool (m.cells.getD x.fd 0 != 0),ι 0])) M:=
  ⟨o4,(an.more z fun _ _ h=>h.elim).same z ao,⟨L',H,fun q hq=>(h2 q hq).imp id fun h=>Zp hb.size h⟩,rfl⟩
 clear I ao H h2;go_wp2_with fail;go_ret2;exact hF
end
end
end Go.Proofs.YtmchabopafimeaaGreatDoor
