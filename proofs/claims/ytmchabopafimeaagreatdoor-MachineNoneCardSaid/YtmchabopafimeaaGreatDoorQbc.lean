import Derived.Test.YtmchabopafimeaaGreatDoorQbb
namespace Go.Proofs.YtmchabopafimeaaGreatDoor
set_option maxRecDepth 100000
set_option maxHeartbeats 16000000
set_option linter.all false
open Go.RowKit Go.Sort Tryz
section
def d4 (B:Nat→Prop) (b q:Nat):Prop:=B q∨q=b∨q=b+1
def je (P:Program) (m gf:Nat) (lb:Array Value) (sz k:Nat) (B:Nat→Prop) (R:World→World→Prop) (w:World):Prop:=
 ∀(af:Nat→World→Prop) (W:World),w.grownBy W none→W.heap.size=w.heap.size+2 →
  (∀j O W2,af j O→Fr (fun q=>¬d4 B w.heap.size q) O W2→af j W2) →
  (∀j vs O,j < k→vs.size=sz→af j O→YieldAt Fence.wide (m - 1) P (w.heap.size+1) vs O fun e W'=>e= .returned (.bool true)∧af (j+1) W'∧Fr (d4 B w.heap.size) O W') →
  af 0 W→CallsIn Fence.wide m P gf (#[.func (.yield (w.heap.size+1)) #[] #[]] ++ lb) W fun e W'=>(∃v,e= .returned v)∧af k W'∧R W W'
def xc (B:Nat→Prop) (I:Nat→World→Prop) (j:Nat) (W:World):Exit→Act→World→Prop
 | .normal,_,W'=>Fr B W W'∧I j W'
 | _,_,_=>False
def Fr.B7 {S w k} (hk:S k) (o):Fr S w (w.putObj k o):=
 have h:=grownBy_putObj' w k o
 ⟨h.os,h.tape,h.output,h.size,fun j hj hS=>h.block j hj fun e=>hS (by injection e with e;rw[e];exact hk)⟩
section
variable {P:Program} {n:Nat} {g:Operand} {ps:Array Tmp} {assign body:Code} {Q:Exit→Act→World→Prop} {a:Act} {w:World}
def iF {gf:Nat} {lb:Array Value} (hg:a.eval g= .func (.func gf) #[] lb) (eg:∀args w,(callFunc gf args).run P w= .ok (.enter gf args) w)
  {k:Nat} {B:Nat→Prop} {R:World→World→Prop} (V:je P (n - 1) gf lb ps.size k B R w) (hB:∀q,B q→q < w.heap.size)
  (I:Nat→World→Prop) (hI:∀j W W',I j W→Fr (fun q=>¬B q) W W'→I j W') (h0:I 0 w)
  (U:∀j vs W,j < k→vs.size=ps.size→I j W→w.heap.size+1 < W.heap.size→assign.wpIn (Fence.wide.inRound (η w)) (n - 1 - 1) P (Exit.then (fun a₁ w₁=>W.grownBy w₁ none∧∀w₂,w₁.grownBy w₂ (some (w.heap.size+1)) →
   body.wpIn (Fence.wide.inRound (η w)) (n - 1 - 1) P (xc B I (j+1) w₂) a₁ w₂) (fun _ _ _=>False)) {tmps:=(ps.zip vs).foldl (fun t (p,v)=>t.setIfInBounds p v) a.tmps,defers:=[]} W)
  (J:∀O W2 M,w.grownBy O none→O.heap.size=w.heap.size+2→R O W2→I k W2→W2.grownBy M (some (w.heap.size+1))→M.heap[w.heap.size]? =some (.deferred (some []))→Q .normal {a with defers:={target:= .collected (ν w),args:=#[]} :: a.defers} M) :
  (Code.rangeFunc g ps assign body).wpIn Fence.wide n P Q a w:=by
 obtain⟨b,hb⟩:∃b,w.heap.size=b:=⟨_,rfl⟩;unfold je at V;rw[hb] at hB U J V;refine wpIn_rangeFunc fun fn aj=>?_
 let rc:LoopState→Option Code→Obj:=fun st pe=>.loop {state:=st,pending:=pe,fn,tmps:=a.tmps,params:=ps,assign,body,defers:=b}
 have a7:∃O,(w.alloc (.deferred (some []))).alloc (rc .ready none)=O∧O.heap[b+1]? =some (rc .ready none)∧O.heap[b]? =some (.deferred (some []))∧w.grownBy O none∧O.heap.size=b+2:=by
  refine⟨_,rfl,?_,?_,?_,?_⟩
  ·have h:=World.alloc_heap_new (w.alloc (.deferred (some []))) (rc .ready none)
   rwa [World.size_alloc,hb] at h
  ·rw[Below.heap_alloc _ _ _ Ξ]
   have h:=World.alloc_heap_new w (.deferred (some []));rwa [hb] at h
  ·exact⟨rfl,rfl,rfl,by simp;omega,fun k hk _=>by rw[Below.heap_alloc _ _ _ Ξ,Below.heap_alloc _ _ _ hk]⟩
  ·simp[hb]
 obtain⟨O,e1,ao,aJ,aG,ax⟩:=a7;have bt:¬B b:=fun h=>by have:=hB _ h;omega
 have G:¬B (b+1):=fun h=>by have:=hB _ h;omega
 have ap:d4 B b b:= .inr (.inl rfl);have E:d4 B b (b+1):= .inr (.inr rfl);refine⟨b+1,[{target:= .collected b,args:=#[]}],O,{target:= .fn (.func gf) lb,args:=#[.func (.yield (b+1)) #[] #[]]},O,gf,#[.func (.yield (b+1)) #[] #[]] ++ lb,O,?_,?_,fun _ _=>Zk,?_,fun h=>absurd h φ,?_⟩
 ·rw[←e1]
  have h:=run_enterLoop_outer (P:=P) (w:=w) fn a.tmps ps assign body;rw[hb] at h;exact h
 ·simp only[resolve,hg]
  simp[go_sem]
 ·simp[invoke,go_sem,eg]
 refine (V (fun j W=>I j W∧W.heap[b+1]? =some (rc .ready none)∧W.heap[b]? =some (.deferred (some []))) O aG ax ?_ ?_ ⟨hI 0 w O h0 (Yj aG fun g hg=>by cases hg),ao,aJ⟩).mono ?_
 ·rintro j Y C ⟨hi,hl,hd⟩ z
  exact⟨hI j Y C hi (z.more fun k _ h e=>h (.inl e)),(z.block _ (Z7.1 hl).1 fun h=>h E).trans hl,(z.block _ (Z7.1 hd).1 fun h=>h ap).trans hd⟩
 ·rintro j vs W bR am ⟨hi,hl,hd⟩
  refine⟨fn,_,assign,body,run_yield (P:=P) (args:=vs) hl am,roundIn_of_wpIn aj (wpIn_mono (U j vs W bR am hi (Z7.1 hl).1) ?_)⟩;intro e a1 w1 he;cases e with
  | normal=>
    obtain⟨hg,ab⟩:=he;have ac:=e0 hg hl ξ;have ah:=e0 hg hd ξ;have ad:b+1 < w1.heap.size:=(Z7.1 ac).1;refine⟨_,run_beginRound ac rfl,?_⟩;have aA:(w1.putObj (b+1) (rc .busy none)).heap[b+1]? =some (rc .busy none):=World.putObj_heap_same ad;have ak:(w1.putObj (b+1) (rc .busy none)).heap[b]? =some (.deferred (some [])):=(World.putObj_heap_other ω).trans ah;have L:Fr (d4 B b) W (w1.putObj (b+1) (rc .busy none)):=(Yj hg fun g hg=>by cases hg).same (Fr.B7 E _);refine wpIn_mono (ab (w1.putObj (b+1) (rc .busy none)) (grownBy_putObj' _ _ _)) ?_;have ai:b+1 < (w1.putObj (b+1) (rc .busy none)).heap.size:=by simpa using ad
    intro e a3 M hp;cases e with
    | normal=>obtain⟨H,A⟩:=hp;have h3:=(H.block _ ai G).trans aA;exact⟨_,_,run_endRound (P:=P) none h3,rfl,⟨hI _ _ _ A (Fr.B7 (S:=fun q=>¬B q) G _),World.putObj_heap_same (Z7.1 h3).1,(World.putObj_heap_other ω).trans ((H.block b ω bt).trans ak)⟩,(L.same (H.more fun k _ e=>.inl e)).same (Fr.B7 E _)⟩
    | ret=>exact hp.elim
    | exit id=>exact hp.elim
    | goto t=>exact hp.elim
    | panic ch=>exact hp.elim
    | outgrown=>exact hp.elim
  | ret=>exact he.elim
  | exit id=>exact he.elim
  | goto t=>exact he.elim
  | panic ch=>exact he.elim
  | outgrown=>exact he.elim
 ·rintro e W2 ⟨⟨v,rfl⟩,⟨hi,hl,hd⟩,hr⟩
  exact⟨none,_,run_endLoop (P:=P) hl ξ,J O W2 _ aG ax hr hi (grownBy_putObj' _ _ _) ((World.putObj_heap_other ω).trans hd)⟩
end
def YB:=@Fr.B7
end
section
def c5:Nat→bg→Option (Nat×bg)
 | 0,m=>some (0,m)
 | n+1,m=>if cI m=1 then (g1 m).bind fun r=>match r with
    | none=>some (0,{m with full:=true})
    | some x=>(c5 n x.2).map fun q=>(q.1+1,q.2)
   else some (0,m)
def fG (Y c W:Nat) (m':bg) (Ls:List Nat) (B:Nat) (o':ab) (w':World):Prop:=
 (m'.full=true∧aR m'.runs∧∃ta ea ua tc ec uc,A w' Y 32 (bF m' c W ta ea ua tc ec uc)∧o' Y=some Y) ∨
 ∃ta ea ua tc ec uc xs L,aC o' w' Y c W m' ta ea ua tc ec uc xs L∧∀k∈ah Y L xs,k∈Ls∨B≤k
def nL (Y c W k r:Nat) (mE:bg) (Ls:List Nat) (o:ab) (w:World) (e:Ending) (w':World):Prop:=∃sv n o',e= .returned (.tuple #[sv,.int .i64 n])∧J (·∈Ls) o w o' w' ∧
 ((n=0∧∃m' V ta ea ua tc ec uc xs L,aC o' w' Y c W m' ta ea ua tc ec uc xs L∧(∀q∈ah Y L xs,q∈Ls∨w.heap.size≤q)∧c5 k m'=some (V,mE)∧r=V+1)∨(n≠0∧r=0∧fG Y c W mE Ls w.heap.size o' w'))
section
variable {o o':ab} {w w':World} {Y c W tc ec uc k r:Nat} {ta ea ua:Option Addr} {L:List Nat} {xs:List TX} {m m' mE:bg} {l:List a0}
def fG.kept {Ls B B' K o'' bb} (h:fG Y c W mE Ls B o' w') (I:aM K o' w' o'' bb) (hs:w'.heap.size≤bb.heap.size) (hL:∀k∈Ls,K k) (hB:∀k,B≤k→K k) (hM:Y∈Ls) (a9:B'≤B):fG Y c W mE Ls B' o'' bb:=by
 rcases h with ⟨H,h2,ta,ea,ua,tc,ec,uc,hk,M⟩ | ⟨ta,ea,ua,tc,ec,uc,xs,L,H,h2⟩
 ·obtain⟨a1,a2⟩:=I.blk hk M (hL Y hM)
  exact .inl ⟨H,h2,ta,ea,ua,tc,ec,uc,a1,a2⟩
 ·have hk:∀k∈ah Y L xs,K k:=fun k hk=>(h2 k hk).elim (hL k) (hB k)
  exact .inr ⟨ta,ea,ua,tc,ec,uc,xs,L,H.kept I hs (hL Y hM) (fun k E=>hk k (Zo _ (Zm _ E))) fun x hx k E=>hk k (Zo _ (Zx _ (Z1.2 ⟨x,hx,E⟩))),fun k E=>(h2 k E).imp id fun e=>Zp a9 e⟩
def vl (z:Wf o w) (h:aC o w Y c W m ta ea ua tc ec uc xs L) (hE:a6 o w) (aw:bN o w) (aB:b4 o w) (hr:c5 (k+1) m=some (r,mE)) :
  Calls prog 4 #[π Y,.int .u64 0] w (nL Y c W k r mE (ah Y L xs) o w):=by
 unfold c5 at hr
 by_cases H:cI m=1
 ·rw[if_pos H] at hr
  obtain⟨q,hq,hr⟩:=Zt.1 hr;cases q with
  | none=>injection hr with hr;injection hr with ay aK;subst ay aK;refine (ul z h hE aw aB H hq).mono ?_;rintro e G ⟨rfl,o2,U,hk,M⟩;exact⟨_,6,o2,rfl,U,.inr ⟨by decide,rfl,.inl ⟨rfl,h.two,_,_,_,_,_,_,hk,M⟩⟩⟩
  | some x=>obtain⟨l,m'⟩:=x;obtain⟨⟨V,O⟩,A,hr⟩:=Zs.1 hr;injection hr with ay aK;subst ay aK;refine (sV z h hE aw aB H hq).mono ?_;rintro e G ⟨o2,ae,ad,ac,aa,E,Z,I,L',a,n,cp,rfl,U,hM,hL⟩;exact⟨_,0,o2,rfl,U,.inl ⟨rfl,m',V,ae,ad,ac,aa,E,Z,I,L',hM,hL,A,rfl⟩⟩
 ·rw[if_neg H] at hr
  injection hr with hr;injection hr with ay aK;subst ay aK;refine δ (qR h.blk h.two H) ?_;intro G hb;exact⟨_,100,o,rfl,Zb z hb,.inr ⟨by decide,rfl,.inr ⟨_,_,_,_,_,_,xs,L,h.same (Zb z hb),fun _ hk=>.inl hk⟩⟩⟩
end
end
section
def kb (af:Nat→World→Prop) (pa:Option Addr) (n Y c W ag:Nat) (mE:bg) (Ls:List Nat) (C:Nat→Prop) (o:ab) (w:World) (k:Nat) (s4:Value) (wr:World):Prop:=∃i p m o' ta ea ua tc ec uc xs L r,i+k=n∧s4= .slice p k k∧(0 < k→∃g,pa=some ⟨g,0,none⟩∧p=some ⟨g,i,none⟩)∧af i wr∧J (fun q=>q∈Ls∨C q) o w o' wr∧(∀q,C q→o' q=some q)∧aC o' wr Y c W m ta ea ua tc ec uc xs L∧(∀q∈ah Y L xs,q∈Ls∨w.heap.size≤q)∧c5 k m=some (r,mE)∧i+r=ag
def iM (Y c W:Nat) (mE:bg) (Ls:List Nat) (C:Nat→Prop) (o:ab) (w w':World):Prop:=∃o',J (fun q=>q∈Ls∨C q) o w o' w'∧(∀q,C q→o' q=some q)∧fG Y c W mE Ls w.heap.size o' w'
section
variable {o:ab} {w w':World} {Y c W tc ec uc n pb mb ag:Nat} {ta ea ua pa:Option Addr} {L:List Nat} {xs:List TX} {m mE:bg}
def pJ (g i k w):(Instr.slice 68 (.slice (some ⟨g,i,none⟩) (k+1) (k+1)) (some (.int .i64 1)) (some (.int .i64 ((k+1:Nat):Int))) (some (.int .i64 ((k+1:Nat):Int)))).run prog w= .ok (.slice (if k=0 then some ⟨g,i,none⟩ else some ⟨g,i+1,none⟩) k k) w:=by
 have hu:prog.underlying 68=some (.slice (prog.elem 68)):=by kernel_rfl
 have hs:∀w,(sizeOf (prog.elem 68)).run prog w= .ok 1 w:=fun w=>by kernel_rfl
 have H:=fun c=>run_sliceBound (P:=prog) w .i64 ((k+1:Nat):Int) (k+1) c ω ω;have h2:=fun c=>run_sliceBound (P:=prog) w .i64 1 (k+1) c ω ω;have e:(((k+1:Nat):Int)).toNat=k+1:=ω;rw[e] at H;rw[run_slice_any w 68 _ _ _ hu];simp only[Instr.sliceBounds,Sem.run_bind,H,h2,Result.andThen,hs,sliced,Sem.run_pure]
 by_cases hk:k=0
 ·subst hk;rfl
 ·simp[hk,Addr.add]
def wK {fm} (C) (af:Nat→World→Prop) (y) (z:Wf o w) (h:aC o w Y c W m ta ea ua tc ec uc xs L) (hE:a6 o w) (aw:bN o w) (aB:b4 o w) (kp:A w pb 68 [.slice pa n n]) (km:A w mb 23 [π Y]) (nm:o mb=none) (ai:∀i,i < n→∃g,pa=some ⟨g,0,none⟩∧Fz o w g∧w.cell? (κ g i)=some (.int .u64 0)) (aq:0 < n→∃g,pa=some ⟨g,0,none⟩) (hC:∀q,C q→q < w.heap.size∧o q=some q∧q∉ah Y L xs) (hJ:∀j O W2,af j O→Fr (fun q=>¬C q) O W2→af j W2) (hY:∀j vs O,j < ag→vs.size=2→af j O→YieldAt Fence.wide (fm - 1) prog y vs O fun e W'=>e= .returned (.bool true)∧af (j+1) W'∧Fr C O W') (h0:af 0 w) (hr:c5 n m=some (ag,mE)) :
    CallsIn Fence.wide fm prog 45 #[.func (.yield y) #[] #[],π pb,π mb] w fun e w'=>(∃v,e= .returned v)∧af ag w'∧iM Y c W mE (ah Y L xs) C o w w':=by
  have H0:kb af pa n Y c W ag mE (ah Y L xs) C o w n (.slice pa n n) w:=⟨0,pa,m,o,ta,ea,ua,tc,ec,uc,xs,L,ag,ω,rfl,fun hn=>(aq hn).imp fun g e=>⟨e,e⟩,h0,ZM _ z,fun q hq=>(hC q hq).2.1,h,fun q hq=>.inl hq,hr,ω⟩;have cp:=kp.c 0 rfl;have HC:=χ hC;have HJ:=χ hJ;have Z:=χ hY;have HW:=χ z
  have HF:=χ (fun o1 w1 (U:J (fun q=>q∈ah Y L xs∨C q) o w o1 w1)=>(show w1.cell? (κ mb 0)=π Y∧(∀i,i < n→∃g,pa=some ⟨g,0,none⟩∧w1.cell? (κ g i)=some (.int .u64 0))∧a6 o1 w1∧bN o1 w1∧b4 o1 w1 from by
    have I:=U.frozen;refine⟨(aY ((I mb km.lt (fun q hq=>by rw[nm] at hq;cases hq)).1) 0).trans (km.c 0 rfl),fun i hi=>?_,hE.kept I,aw.kept I,aB.kept I U.size⟩;obtain⟨g,e,hz,hc⟩:=ai i hi
    exact⟨g,e,(I.cell hz i).trans hc⟩))
  clear z h hE aw aB kp km nm ai aq hC hJ hY h0 hr;refine callsIn_wide.2 ?_;go_enter func45,ntmps45;go_upto_region 1 with fail;go_loopg [4] n (fun k s4 wr=>kb af pa n Y c W ag mE (ah Y L xs) C o w k s4 wr)
  case atStart=>exact H0
  case round=>
   clear H0 cp;obtain⟨i,p,m1,o1,bo,a8,aW,bq,aQ,a0,aa,L1,r1,an,rfl,hp,hj,U,ad,hM,a',bi,E⟩:=hrel;cases gk with
   | zero=>injection bi with bi;injection bi with e1 e2;subst e1 e2;have HE:=χ (show af ag wr∧iM Y c W m1 (ah Y L xs) C o w wr from⟨E ▸ hj,o1,U,ad,.inr ⟨bo,a8,aW,bq,aQ,a0,aa,L1,hM,a'⟩⟩);clear hp hj U ad hM a' E;go_wp2_with fail;refine xQ ?_;exact⟨⟨_,rfl⟩,HE.out⟩
   | succ k=>
     obtain⟨g,rfl,rfl⟩:=hp ω;obtain⟨bu,aL,fE,aP,aM⟩:=HF.out o1 wr U;have aJ:wr.cell? (κ g i)=some (.int .u64 0):=by obtain⟨g',e,hc⟩:=aL i ω;injection e with e;injection e with e _ _;rw[e];exact hc
     have aF:=uu hM.blk;have ae:=HW.out.BD U;have hd:=tB ae (Zj (ν wr) wr).drew;have bh:=hd.kp;have ay:=vl (ae.BD hd) (hM.same hd) (fE.kept bh) (aP.kept bh) (aM.kept bh hd.size) bi;have bp:∀W',(Instr.slice 68 (.slice (some ⟨g,i,none⟩) (k+1) (k+1)) (some (.int .i64 1)) (some (.int .i64 ((k+1:Nat):Int))) (some (.int .i64 ((k+1:Nat):Int)))).run prog W'= .ok (.slice (if k=0 then some ⟨g,i,none⟩ else some ⟨g,i+1,none⟩) k k) W':=pJ g i k;have a9:=χ (Zf hj (Zf U (Zf ad (Zf a' (Zf E (Zf ae hM))))));have aO:wr.drew.cell? (κ mb 0)=π Y∧wr.drew.cell? (κ g i)=some (.int .u64 0):=⟨bu,aJ⟩
     have b5:=χ (fun o4 M (ao:J (·∈ah Y L1 aa) o1 wr.drew o4 M)=>(show M.cell? (κ mb 0)=π Y∧M.cell? (κ g i)=some (.int .u64 0) from by
       have az:=U.trans HW.out ((hd.more' fun _ e=>e.elim).same ae ao) (D':=(·∈ah Y L1 aa)) fun q hq e=>.inl ((a' q e).resolve_right ω);obtain⟨aX,aS,-⟩:=HF.out o4 M az;obtain⟨g',e,hc⟩:=aS i ω;injection e with e;injection e with e _ _
       exact⟨aX,e ▸ hc⟩))
     unfold nL at ay;clear hp hj U ad hM a' bi E ae hd bh aL fE aP aM;go_upto_region 4 with first
      | (go_at_call 11;refine γ aF ?_)
     refine bj [(0,true),(1,true),(2,true),(3,true),(4,false),(5,true),(6,true),(7,true),(8,true),(9,true)] (fun w'=>w'.cell? (κ mb 0)=π Y∧w'.cell? (κ g i)=some (.int .u64 0)) ψ ψ aO ?_;iterate 4 (refine wpC_t ?_;refine pe ?_)
     refine xP ?_;intro K I;go_at_call 4;refine ay.mono ?_;rintro e M ⟨sv,er,o4,rfl,ao,aD⟩;have HO:=χ (Zf ao aD);have aZ:=b5.out o4 M ao;clear ao aD ay aO;refine I _ _ _ Φ (fun _=>aZ) ?_;clear I K;refine yf ?_;go_upto_region 5 with fail;obtain⟨ao,aD⟩:=HO.out;obtain⟨hj,U,ad,a',E,ae,hM⟩:=a9.out;have hd:=tB ae (Zj (ν wr) wr).drew;have az:J (fun q=>q∈ah Y L xs∨C q) o w o4 M:=U.trans HW.out ((hd.more' fun _ e=>e.elim).same ae ao) (D':=(·∈ah Y L1 aa)) fun q hq e=>.inl ((a' q e).resolve_right ω);have am:∀q,C q→q∉ah Y L1 aa:=fun q hq e=>by
      obtain⟨a1,-,a3⟩:=HC.out q hq;rcases a' q e with h | h
      ·exact a3 h
      ·omega
     have bC:=U.size;have H:∀q,C q→o4 q=some q:=fun q hq=>ao.owned (Za (HC.out q hq).1 (Zp bC hd.size)) (ad q hq) (am q hq)
     have ac:af i M:=HJ.out i wr M hj ((hd.fr.more fun b _ e=>by obtain⟨q,_,e⟩:=e;exact e.elim).same (ao.fr.more fun b _ e ap=>by
       obtain⟨q,e1,e2⟩:=e;rw[ad b ap] at e1;injection e1 with e1;subst e1
       exact am _ ap e2))
     have aZ:=ao.size;have aE:=hd.size;have aT:∀q∈ah Y L1 aa,q∈ah Y L xs∨w.heap.size≤q:=a';clear U ao hd hj ad;rcases aD with ⟨rfl,m5,r5,aV,a5,aU,bc,bt,bv,aH,L5,aA,aG,ak,rfl⟩ | ⟨hn,rfl,a7⟩
     rotate_left
     ·have hq:(er != 0)=true:=by simp[hn]
      have HE:=χ (show af ag M∧iM Y c W mE (ah Y L xs) C o w M from⟨by rw[←E];exact ac,o4,az,H,by
        have hb:=a7;rcases hb with ⟨b1,b2,b3⟩ | ⟨aR,be,bl,a4,bb,ba,bf,L6,b1,b2⟩
        ·exact .inl ⟨b1,b2,b3⟩
        ·exact .inr ⟨aR,be,bl,a4,bb,ba,bf,L6,b1,fun q hq=>(b2 q hq).elim (fun e=>aT q e) fun e=>.inr ω⟩⟩)
      clear ac H a7 az hM a' E ae aZ aE aT hn;go_wp2_with fail;refine Zl (Yw rfl _ _ _) rfl ?_;exact⟨⟨_,rfl⟩,HE.out⟩
     ·obtain⟨fn,tm,bw,bd,hy,hR⟩:=Z.out i #[ι (m1.turns.length:Nat),sv] M ω rfl ac
      refine (wpIn_wide (n:=fm)).1 ?_;gi_wp2;refine⟨nG _,hR.mono ?_⟩;rintro e V ⟨rfl,G,ax⟩;have aK:=HW.out.BD az;have T5:J C o4 M o4 V:=Z9 aK ax fun b _ hb=>⟨b,H b hb,hb⟩;have aj:∀q∈ah Y L5 aH,¬C q:=fun q hq hc=>by
       rcases aG q hq with h | h
       ·exact am q hc h
       ·have:=(HC.out q hc).1
        omega
      have aI:=aA.kept (T5.et (K:=fun q=>¬C q) fun q h e=>h e) T5.size (aj Y Zr) (fun q hq=>aj q (Zo _ (Zm _ hq))) fun x hx q hq=>aj q (Zo _ (Zx _ (Z1.2 ⟨x,hx,hq⟩)))
      have HR:=χ (show kb af (some ⟨g,0,none⟩) n Y c W ag mE (ah Y L xs) C o w k (.slice (if k=0 then some ⟨g,i,none⟩ else some ⟨g,i+1,none⟩) k k) V from
        ⟨i+1,_,m5,o4,aV,a5,aU,bc,bt,bv,aH,L5,r5,ω,rfl,fun hk=>⟨g,rfl,if_neg ω⟩,G,az.same HW.out (T5.more' fun _ e=>.inr e),H,aI,fun q hq=>(aG q hq).elim (fun e=>aT q e) fun e=>.inr ω,ak,ω⟩)
      clear ac H az hM a' E ae aZ aE aT aA aG ak hy hR G ax aK T5 aj aI am;gi_wp2;go_wp2_with fail
      all_goals
       go_roundg k
       case measure=>omega
       case rel=>
        have h:=HR.out
        by_cases e:k=0
        ·rw[if_pos e] at h
         first | omega | exact h | (subst e;exact h)
        ·first | (rw[if_neg e] at h;exact h) | omega
end
end
section
attribute [local go_sem] Oper.semAt_some
section
variable {o o':ab} {w w':World} {Y c W tc ec uc n ag:Nat} {ta ea ua pa:Option Addr} {L:List Nat} {xs:List TX} {m mE:bg}
def nE (mp pa pn pc w):Calls prog 26 #[.pointer mp,.slice pa pn pc] w fun e w'=>e= .returned (.func (.func 45) #[] #[π (η w),ϖ w])∧Below (ν w) w w'∧A w' (ν w) 23 [.pointer mp]∧A w' (η w) 68 [.slice pa pn pc]:=by obtain⟨w1,aP,z1,b1,O⟩:=al1 w 23 [.pointer mp];obtain⟨G,aB,-,b2,Z,au⟩:=al2 b1 z1 68 [.slice pa pn pc];replace O:=au _ _ _ O;clear au;go_enter func26,ntmps26;go_wp2_with fail;go_ret;exact⟨rfl,b2,O,Z⟩
def tj {vs:Array Value} (h:vs.size=2):∃a b,vs=#[a,b]:=by
 obtain⟨l⟩:=vs
 match l,h with
 | [a,b],_=>exact⟨a,b,rfl⟩
def qq (Y c W ag:Nat) (mE:bg) (Ls:List Nat) (o:ab) (w:World) (e:Ending) (w':World):Prop:=e= .returned (.tuple #[.int .i64 (ag:Nat),.int .i64 0])∧∃o',J (·∈Ls) o w o' w'∧fG Y c W mE Ls w.heap.size o' w'
def vN (z:Wf o w) (h:aC o w Y c W m ta ea ua tc ec uc xs L) (hE:a6 o w) (aw:bN o w) (aB:b4 o w)
  (ai:∀i,i < n→∃g,pa=some ⟨g,0,none⟩∧Fz o w g∧w.cell? (κ g i)=some (.int .u64 0)) (aq:0 < n→∃g,pa=some ⟨g,0,none⟩) (hr:c5 n m=some (ag,mE)) (hn:ag≤1000000) :
  Calls prog 5 #[π Y,.slice pa n n] w (qq Y c W ag mE (ah Y L xs) o w):=by
 have aJ:=ee h.blk;have ad:∀k∈ah Y L xs,k < w.heap.size:=fun k hk=>Bw;obtain⟨w1,aP⟩:∃u,w.alloc (.cells #[ι 0] 3)=u:=⟨_,rfl⟩;have z1:w1.heap.size=w.heap.size+1:=by rw[←aP];simp
 have Z:A w1 (ν w) 3 [ι 0]:=by rw[←aP];exact Zh w _ _
 have T1:J Θ o w (o.set (ν w) (some w.heap.size)) w1:=by rw[←aP];exact ZJ z _
 have aF:=nE (some ⟨Y,0,none⟩) pa n n w1;have ak:=χ aP;have HH:=χ (Zf z (Zf h (Zf hE (Zf aw (Zf aB (Zf ai (Zf ad (Zf T1 Z))))))));clear z h hE aw aB ai ad T1 Z aP;refine callsIn_wide.1 (callsIn_of_wp_marks (n:=4) func5 rfl trivial ?_ rfl);simp only[ntmps5,List.size_toArray,List.length_cons,List.length_nil,Nat.reduceAdd,Nat.reduceSub,Array.replicate_succ,Array.replicate_zero,List.push_toArray,List.append_toArray,List.nil_append,List.cons_append];refine wpIn_wide.2 ?_;go_upto_region 4 with (go_at_call 22;refine γ aJ ?_);rw[ak.out];go_wp2_with first
  | (go_at_call 26;refine aF.mono ?_;rintro e G ⟨rfl,aa,km,kp⟩)
 generalize aM:w.heap.size=bd at *;generalize aU:o.set bd (some bd)=o1 at *;rw[z1] at km kp;have az:=km.lt;have aD:=kp.lt;refine (wpIn_wide (n:=4)).1 (iF (gf:=45) (lb:=#[.pointer (some ⟨bd+1+1,0,none⟩),.pointer (some ⟨bd+1,0,none⟩)]) rfl (enters_of func45 ψ rfl) (k:=ag) (B:=(·=bd)) (R:=fun O W2=>iM Y c W mE (ah Y L xs) (d4 (·=bd) (ν G)) (two o1 (ν G)) O W2) ?_ ?_ (fun j O=>A O bd 3 [ι (j:Nat)]) ?_ ?_ ?_ ?_)
 ·intro af Wd hg hz hJ hY h0
  obtain⟨z,h,hE,aw,aB,ai,ad,T1,Z⟩:=HH.out;have ae:=z.BD T1;have V:J Θ o1 w1 o1 G:=Zb ae aa;have ap:=ae.BD V;have T3:J Θ o1 G (two o1 (ν G)) Wd:=((Zb ap (ds hg (Zc _) fun g hg=>by cases hg)).BN ω ω ω (.inr ω)).BN ω ω ω (.inr ω);have T:=(T1.same z V).same z T3;have I:=T.kp;have ay:∀q,bd < q→q < G.heap.size→two o1 (ν G) q=none:=fun q H h2=>by unfold two;rw[ab.BG _ _ ω,ab.BG _ _ ω,←aU,ab.BG _ _ ω];exact z.ge ω
  have aR:∀q t cs,A G q t cs→A Wd q t cs:=fun q t cs hq=>(hg.block q hq.lt ξ).trans hq;refine wK (d4 (·=bd) (ν G)) af (η G) (z.BD T) (h.same T) (hE.kept I) (aw.kept I) (aB.kept I T.size) (aR _ _ _ kp) (aR _ _ _ km) (ay _ ω ω) ?_ aq ?_ hJ hY h0 hr
  ·intro i hi
   obtain⟨g,e,aj,hc⟩:=ai i hi;exact⟨g,e,(I.fz T.size aj).1,(I.cell aj i).trans hc⟩
  ·rintro q (rfl | rfl | rfl)
   ·refine⟨ω,?_,fun e=>by have:=ad _ e;omega⟩
    unfold two;rw[ab.BG _ _ ω,ab.BG _ _ ω,←aU];exact Zw _ _ _
   ·refine⟨ω,?_,fun e=>by have:=ad _ e;omega⟩
    unfold two;rw[ab.BG _ _ ω];exact Zw _ _ _
   ·refine⟨ω,?_,fun e=>by have:=ad _ e;omega⟩
    unfold two;exact Zw _ _ _
 ·rintro q rfl
  omega
 ·intro j O W2 hI hF
  exact (hF.block bd hI.lt fun e=>e rfl).trans hI
 ·exact (aa.block bd ω).trans HH.out.2.2.2.2.2.2.2.2
 ·intro j vs O bR am hI ad
  obtain⟨v1,v2,rfl⟩:=tj am;gi_wp2;refine⟨World.grownBy.refl _ _,?_⟩;intro E aA;have k3:A E bd 3 [ι (j:Nat)]:=(aA.block bd hI.lt Ξ).trans hI;obtain⟨c0,f0,-⟩:=kb0 k3;have e1:((j+1:Nat):Int)=(j:Int)+1:=ω;have HB:=χ (show Fr (·=bd) E (σ E bd 0 (ι ((j:Int)+1)):World)∧A (σ E bd 0 (ι ((j:Int)+1))) bd 3 [ι ((j+1:Nat):Int)] from⟨Z4 (.inl rfl),by rw[e1];exact k3.set 0 _⟩);clear e1;clear hI k3;gi_wp2;exact HB.out
 ·intro O W2 M aG ax hR ac aA hd
  have k3:A M bd 3 [ι (ag:Nat)]:=(aA.block bd ac.lt Ξ).trans ac;have c0:=k3.c 0 rfl
  have HF:=χ (show ∃o',J (·∈ah Y L xs) o w o' (M.putObj (ν G) (.deferred none))∧fG Y c W mE (ah Y L xs) (ν w) o' (M.putObj (ν G) (.deferred none)) from by
    obtain⟨z,h,hE,aw,aB,ai,ad,T1,Z⟩:=HH.out;obtain⟨o',U,hC,an⟩:=hR;have ae:=z.BD T1;have V:J Θ o1 w1 o1 G:=Zb ae aa;have ap:=ae.BD V;have T3:J Θ o1 G (two o1 (ν G)) O:=((Zb ap (ds aG (Zc _) fun g hg=>by cases hg)).BN ω ω ω (.inr ω)).BN ω ω ω (.inr ω);have T:=(T1.same z V).same z T3;have ao:=(z.BD T).BD U;have T4:J (d4 (·=bd) (ν G)) o' W2 o' (M.putObj (ν G) (.deferred none)):=Z9 ao ((Yj (S:=d4 (·=bd) (ν G)) aA fun g hg=>by injection hg with hg;exact .inl (.inr (.inr hg.symm))).same (YB (.inr (.inl rfl)) _)) fun b _ hb=>⟨b,hC b hb,hb⟩;have hS:=T.size
    refine⟨o',(T.more' fun _ e=>e.elim).trans z (U.same (z.BD T) (T4.more' fun _ e=>.inr e)) fun k hk e=>e.elim id fun e=>by rcases e with e | e | e <;> omega,an.kept (T4.et (K:=fun q=>¬d4 (·=bd) (ν G) q) fun _ h e=>h e) T4.size (fun k hk e=>by have:=ad k hk;rcases e with e | e | e <;> omega) (fun k hk e=>by rcases e with e | e | e <;> omega) Zr ω⟩)
  clear ac k3 hR aA;go_wp2_with fail;refine⟨by simp,.inl ⟨_,_,rfl,run_takeDeferred hd,?_⟩⟩;exact⟨.tuple #[ι (ag:Nat),ι 0],by simp[results,results5,go_sem],rfl,HF.out⟩
end
end
section
section
variable {mp:Option Addr} {w:World} {mb pb g cap:Nat} {x:Int}
def pD (h:aL (.pointer mp) w) (km:A w mb 23 [.pointer mp]) (kp:A w pb 68 [.slice (Γ g) 1 cap]) (hg:w.cell? (κ g 0)=some (.int .u64 x)) (an:g < w.heap.size) (y) :
  Calls prog 45 #[y,π pb,π mb] w fun e w'=>(∃v,e= .returned v)∧Below (ν w) w w':=by
 have aF:=i7 h;have ay:=jZ (h.below (Zj (ν w) w).drew) (.int .u64 x);have c0:=km.c 0 rfl;have c1:=kp.c 0 rfl;have aO:w.drew.cell? (κ mb 0)=some (.pointer mp)∧w.drew.cell? (κ g 0)=some (.int .u64 x):=⟨c0,hg⟩
 have HS:=χ (show ∀w',Below w.drew.heap.size w.drew w'→w'.cell? (κ mb 0)=some (.pointer mp)∧w'.cell? (κ g 0)=some (.int .u64 x) from fun w' hb=>by
   have hz:=(Zj (ν w) w).drew.size
   exact⟨(hb.cell (p:=κ mb 0) (Za km.lt hz)).trans c0,(hb.cell (p:=κ g 0) (Za an hz)).trans hg⟩)
 have HB:=χ (fun w' (hb:Below w.drew.heap.size w.drew w')=>(Zj (ν w) w).drew.trans (hb.mono (Zj (ν w) w).drew.size));clear h km kp hg;go_enter func45,ntmps45;go_upto_region 1 with fail;refine ZV 1 ?_;rw[rounds_succ];go_upto_region 4 with (go_at_call 11;refine γ aF ?_);refine bj [(0,true),(1,true),(2,true),(3,true),(4,false),(5,true),(6,true),(7,true),(8,true),(9,true)] (fun w'=>w'.cell? (κ mb 0)=some (.pointer mp)∧w'.cell? (κ g 0)=some (.int .u64 x)) ψ ψ aO ?_;iterate 4 (refine wpC_t ?_;refine pe ?_)
 refine xP ?_;intro K I;go_at_call 4;refine δ ay ?_;intro M ah;have aZ:=HS.out M ah;have hb:=HB.out M ah;clear ay aO ah;refine I _ _ _ Φ (fun _=>aZ) ?_;clear I K;refine yf ?_;go_wp2_with fail;refine Zl (Yw rfl _ _ _) rfl ?_;exact⟨⟨_,rfl⟩,hb⟩
end
def mP {mp w g x} (h:aL (.pointer mp) w) (hg:A w g 22 [.int .u64 x]):Calls prog 7 #[.pointer mp,.slice (Γ g) 1 1] w fun e w'=>∃mb pb g' cap,e= .returned (.func (.func 28) #[] #[π mb,π pb])∧Below (ν w) w w'∧A w' mb 23 [.pointer none]∧A w' pb 68 [.slice (Γ g') 1 cap]∧w'.cell? (κ g' 0)=some (.int .u64 x)∧g' < w'.heap.size:=by
 have ap:=it h;clear h;go_enter func7,ntmps7;have c0:w.drew.cell? (κ g 0)=some (.int .u64 x):=hg.c 0 rfl;clear hg;go_wp2_with (go_at_call 18;refine γ ap ?_);generalize (Question.appendCap 1 0 22).cut (w.tape w.drawn (Question.appendCap 1 0 22))=cp;generalize Builtin.zeroCells #[Value.int IntKind.u64 0] (cp - 1)=zs;have e:(#[Value.int .u64 x] ++ zs:Array Value)=(Value.int .u64 x :: zs.toList).toArray:=by cases zs;simp
 rw[e];obtain⟨u1,aP⟩:∃u,w.alloc (.cells (Value.int .u64 x :: zs.toList).toArray 22)=u:=⟨_,rfl⟩;have z1:u1.heap.size=w.heap.size+1:=by rw[←aP];simp
 have b1:Below (ν w) w u1:=by rw[←aP];exact am w _
 have O:A u1 (ν w) 22 (.int .u64 x :: zs.toList):=by rw[←aP];exact Zh w _ _
 rw[aP];obtain⟨u2,aB⟩:∃u,u1.alloc (.cells #[.pointer none] 23)=u:=⟨_,rfl⟩;have z2:u2.heap.size=w.heap.size+1+1:=by rw[←aB];simp[z1]
 have b2:Below (ν w) w u2:=by rw[←aB];exact b1.alloc b1.size _
 replace O:A u2 (ν w) 22 (.int .u64 x :: zs.toList):=by rw[←aB];exact O.alloc _
 have Z:A u2 (η w) 23 [.pointer none]:=by rw[←aB,←z1];exact Zh u1 _ _
 rw[aB];obtain⟨u3,aY⟩:∃u,u2.alloc (.cells #[.slice (Γ (ν w)) 1 cp] 68)=u:=⟨_,rfl⟩;have b3:Below (ν w) w u3:=by rw[←aY];exact b2.alloc b2.size _
 replace O:A u3 (ν w) 22 (.int .u64 x :: zs.toList):=by rw[←aY];exact O.alloc _
 replace Z:A u3 (η w) 23 [.pointer none]:=by rw[←aY];exact Z.alloc _
 have k2:A u3 (w.heap.size+1+1) 68 [.slice (Γ (ν w)) 1 cp]:=by rw[←aY,←z2];exact Zh u2 _ _
 rw[aY];go_ret;exact⟨w.heap.size+1,w.heap.size+1+1,w.heap.size,cp,rfl,b3.drew,Z,k2,Zz (w:=u3) O 0 rfl,O.lt⟩
def nK {m mb pb g cap x w} (km:A w mb 23 [.pointer none]) (kp:A w pb 68 [.slice (Γ g) 1 cap]) (hg:w.cell? (κ g 0)=some (.int .u64 x)) (an:g < w.heap.size) (sz B) :
  je prog m 28 #[π mb,π pb] sz 0 B (fun O W2=>Below O.heap.size O W2) w:=by
 intro af W Y hz hJ hY h0;have aa:Below (ν w) w W:=ds Y (Zc _) fun g hg=>by cases hg
 have HJ:=χ (show ∀W',Below W.heap.size W W'→af 0 W' from fun W' hb=>hJ 0 W W' h0 (ZA hb));replace km:A W mb 23 [.pointer none]:=(aa.block _ km.lt).trans km;replace kp:A W pb 68 [.slice (Γ g) 1 cap]:=(aa.block _ kp.lt).trans kp;replace hg:=(aa.cell (p:=κ g 0) an).trans hg;replace an:=Za an aa.size;clear hJ hY h0 aa Y hz;generalize w.heap.size=b0;obtain⟨w1,aP⟩:∃u,W.alloc (.cells #[.func (.yield (b0+1)) #[] #[]] 70)=u:=⟨_,rfl⟩;have b1:Below W.heap.size W w1:=by rw[←aP];exact am W _
 have aJ:Below W.heap.size W w1.drew:=b1.drew;have ap:=it (jz w1.drew);have HS:=χ (fun G (_:Below W.heap.size W G)=>nE none (some ⟨g,0,none⟩) 1 cap G);have aO:w1.drew.cell? (κ mb 0)=some (.pointer none)∧w1.drew.cell? (κ pb 0)=some (.slice (Γ g) 1 cap):=⟨(aJ.cell (p:=κ mb 0) km.lt).trans (km.c 0 rfl),(aJ.cell (p:=κ pb 0) kp.lt).trans (kp.c 0 rfl)⟩;have HK:=χ (Zf km (Zf kp (Zf hg an)));clear km kp hg an;refine callsIn_of_wp_marks func28 rfl trivial ?_ rfl;simp only[ntmps28,List.size_toArray,List.length_cons,List.length_nil,Nat.reduceAdd,Nat.reduceSub,Array.replicate_succ,Array.replicate_zero,List.push_toArray,List.append_toArray,List.nil_append,List.cons_append];refine wpIn_wide.2 ?_;go_upto_region 1 with fail;apply wp_scope_straight;apply wp_seq;apply wp_label;go_upto_region 1 with fail;refine bj [(0,true),(2,true),(1,false),(3,false)] (fun w'=>w'.cell? (κ mb 0)=some (.pointer none)∧w'.cell? (κ pb 0)=some (.slice (Γ g) 1 cap)) ψ ψ aO ?_;iterate 2 (refine wpC_t ?_;refine pe ?_)
 refine xP ?_;intro K I;go_at_call 18;refine γ ap ?_;refine I _ _ _ Φ (fun _=>aO) ?_;clear I K;refine pe ?_;refine xP ?_;intro K I;go_at_call 26;refine (HS.out _ aJ).mono ?_;rintro e E ⟨rfl,ac,bc,z⟩;have bu:=HK.out.1.lt;have bd:=HK.out.2.1.lt;have aS:=aJ.size;have a5:E.cell? (κ mb 0)=some (.pointer none)∧E.cell? (κ pb 0)=some (.slice (Γ g) 1 cap):=⟨(ac.cell (p:=κ mb 0) (Za bu aS)).trans aO.1,(ac.cell (p:=κ pb 0) (Za bd aS)).trans aO.2⟩;refine I _ _ _ Φ (fun _=>a5) ?_;clear I K;refine pe ?_;refine bn ?_;go_wp2_with fail;have az:Below W.heap.size W E:=aJ.trans (ac.mono aS);obtain⟨-,-,hg,an⟩:=HK.out;have aA:=(az.cell (p:=κ g 0) an).trans hg;have J:=Za an az.size;clear aO ap a5 hg an;refine (wpIn_wide (n:=4)).1 (iF (gf:=45) (lb:=#[.pointer (some ⟨w1.drew.heap.size+1,0,none⟩),.pointer (some ⟨w1.drew.heap.size,0,none⟩)]) rfl (enters_of func45 ψ rfl) (k:=0) (B:=Θ) (R:=fun O W2=>Below O.heap.size O W2) ?_ ?_ (fun _ _=>True) ?_ ?_ ?_ ?_)
 ·intro J' Wd Y aj U Z L
  have ah:Below (ν E) E Wd:=ds Y (Zc _) fun g hg=>by cases hg
  refine callsIn_wide.2 ((pD (mp:=none) (jz Wd) ((ah.block _ bc.lt).trans bc) ((ah.block _ z.lt).trans z) ((ah.cell (p:=κ g 0) J).trans aA) (Za J ah.size) _).mono ?_);rintro e V ⟨hv,ai⟩;exact⟨hv,U 0 Wd V L (ZA ai),ai⟩
 ·exact fun _ h=>h.elim
 ·exact fun _ _ _ _ _=>Zk
 ·trivial
 ·exact fun j _ _ h=>absurd h (Nat.not_lt_zero j)
 ·intro O W2 M aG ax hR _ H hd
  have c1:Below W.heap.size W O:=az.trans (ds aG az.size fun g hg=>by cases hg);have c2:Below W.heap.size W W2:=c1.trans (hR.mono c1.size);have a5:=az.size;have c3:Below W.heap.size W M:=c2.trans (ds H c2.size fun g hg=>by injection hg with hg;omega);have c4:Below W.heap.size W (M.putObj (ν E) (.deferred none)):=c3.trans (Yh (YB (S:=(·=E.heap.size)) rfl _) W.heap.size (fun q hq e=>by omega) c3.size);go_wp2_with fail;rw[Exit.noGoto_normal];refine⟨by simp,.inl ⟨_,_,rfl,run_takeDeferred hd,?_⟩⟩;exact⟨.tuple #[],by simp[results,results28,go_sem],⟨_,rfl⟩,HJ.out _ c4,c4⟩
end
section
def gj (e:a0) (k s n:Int):Bool:=decide (e.kind=k∧e.step=s∧e.th=0∧e.sy=0∧e.br=0∧e.pa=0∧e.n=n∧e.v.kd=0∧e.v.n=0∧e.v.l.length=0)
def hO (m1:bg):Bool:=match c5 1000 m1 with
 | none=>false
 | some (q,m2)=>decide (q≤1000000) && !m2.full && decide (cI m2=2) && match m2.ths with
   | [t0,t1]=>t0.over && t1.over && decide (t0.parts.length=0) && decide (t1.parts.length=0) && decide (t0.val.n=5) && decide (t1.val.kd=1) && small t0.val && small t1.val
   | _=>false
def nm:Bool:=match fU dT 100 9 1000 with
 | none=>false
 | some m0=>decide (m0.runs=[0]) && match c5 3 m0 with
   | none=>false
   | some (k,m1)=>decide (k=3) && decide (m1.runs=[0,1]) && !m1.full && (m1.trace.all fun e=>small e.v) && (match m1.trace with
     | [a,b]=>gj a 2 0 0 && gj b 1 2 1
     | _=>false) && hO m1
def mL:Bool:=match fU dT 1 9 1000 with
 | none=>false
 | some n0=>match c5 50 n0 with
   | none=>false
   | some (q,n1)=>decide (q≤1000000) && n1.full
def o3 {m1} (h:hO m1=true):∃q m2 t0 t1,c5 1000 m1=some (q,m2)∧q≤1000000∧m2.full=false∧cI m2=2∧m2.ths=[t0,t1]∧t0.over=true∧t1.over=true∧t0.parts=[]∧t1.parts=[]∧t0.val.n=5∧t1.val.kd=1∧small t0.val=true∧small t1.val=true:=by
 unfold hO at h
 split at h
 ·cases h
 ·rename_i q m2 hr
  simp only[Bool.and_eq_true,decide_eq_true_eq,Bool.not_eq_true'] at h;obtain⟨⟨⟨H,h2⟩,h3⟩,h4⟩:=h
  split at h4
  ·rename_i t0 t1 ht
   simp only[Bool.and_eq_true,decide_eq_true_eq] at h4;obtain⟨⟨⟨⟨⟨⟨⟨a1,a2⟩,a3⟩,a4⟩,a5⟩,a6⟩,aa⟩,z⟩:=h4;exact⟨q,m2,t0,t1,hr,H,h2,h3,ht,a1,a2,Z5 a3,Z5 a4,a5,a6,aa,z⟩
  ·cases h4
def pG:∃m0 m1 a b,fU dT 100 9 1000=some m0∧m0.runs=[0]∧c5 3 m0=some (3,m1)∧m1.runs=[0,1]∧m1.full=false∧(∀e∈m1.trace,small e.v=true)∧m1.trace=[a,b]∧gj a 2 0 0=true∧gj b 1 2 1=true∧hO m1=true:=by
 have h:nm=true:=by kernel_rfl
 unfold nm at h
 split at h
 ·cases h
 ·rename_i m0 h0
  simp only[Bool.and_eq_true,decide_eq_true_eq] at h;obtain⟨hr,h⟩:=h
  split at h
  ·cases h
  ·rename_i k m1 H
   simp only[Bool.and_eq_true,decide_eq_true_eq,Bool.not_eq_true',List.all_eq_true] at h;obtain⟨⟨⟨⟨⟨a1,a2⟩,a3⟩,a4⟩,a5⟩,a6⟩:=h;subst a1
   split at a5
   ·rename_i a b ht
    rw[Bool.and_eq_true] at a5;exact⟨m0,m1,a,b,h0,hr,H,a2,a3,a4,ht,a5.1,a5.2,a6⟩
   ·cases a5
def wG:∃n0 q n1,fU dT 1 9 1000=some n0∧c5 50 n0=some (q,n1)∧q≤1000000∧n1.full=true:=by
 have h:mL=true:=by kernel_rfl
 unfold mL at h
 split at h
 ·cases h
 ·rename_i n0 h0
  split at h
  ·cases h
  ·rename_i q n1 H
   simp only[Bool.and_eq_true,decide_eq_true_eq] at h;exact⟨n0,q,n1,h0,H,h.1,h.2⟩
abbrev eB:ab:=fun _=>none
structure WA (O:World) (o:ab) (w:World):Prop where
 tn:J (fun _=>False) eB O o w
 es:a6 o w
 ef:bN o w
 eb:b4 o w
def MB (O:World) (Y:Nat) (m:bg) (o:ab) (w:World):Prop:=∃c W ta ea ua tc ec uc xs L,aC o w Y c W m ta ea ua tc ec uc xs L∧∀k∈ah Y L xs,O.heap.size≤k
def MC (O:World) (B Y:Nat) (m:bg) (o:ab) (w:World):Prop:=∃c W ta ea ua tc ec uc xs L,aC o w Y c W m ta ea ua tc ec uc xs L∧∀k∈ah Y L xs,O.heap.size≤k∧k < B
def CB (b i:Nat) (v:Value) (o:ab) (w:World):Prop:=Fz o w b∧w.cell? ⟨b,i,none⟩=some v
section
variable {O w w':World} {o o':ab} {Y b i:Nat} {m:bg} {v:Value} {Ls:List Nat}
def iv (w):Wf eB w:=⟨fun b k h=>by cases h⟩
def WA.wf (h:WA O o w):Wf o w:=(iv O).BD h.tn
def WA.run (h:WA O o w) (U:J (·∈Ls) o w o' w') (hL:∀k∈Ls,O.heap.size≤k):WA O o' w':=
 ⟨h.tn.trans (iv O) U fun k hk e=>by have:=hL k e;omega,h.es.kept U.frozen,h.ef.kept U.frozen,h.eb.kept U.frozen U.size⟩
def WA.step (h:WA O o w) (U:J Θ o w o' w'):WA O o' w':=h.run (Ls:=[]) (U.more' fun _ e=>e.elim) fun k hk=>by cases hk
def WA.below (h:WA O o w) (hb:Below (ν w) w w'):WA O o w':=h.step (Zb h.wf hb)
def WA.out (h:WA O o w):Below (ν O) O w:=⟨h.tn.fr.os,h.tn.fr.tape,h.tn.fr.output,h.tn.fr.size,fun k hk=>h.tn.fr.block k hk fun⟨_,_,e⟩=>e.elim⟩
def MB.step (h:MB O Y m o w) (U:J Θ o w o' w'):MB O Y m o' w':=by obtain⟨c,W,ta,ea,ua,tc,ec,uc,xs,L,h,hL⟩:=h;exact⟨c,W,ta,ea,ua,tc,ec,uc,xs,L,h.same U,hL⟩
def MB.below (h:MB O Y m o w) (z:Wf o w) (hb:Below (ν w) w w'):MB O Y m o w':=h.step (Zb z hb)
def aC.CF {c W tc ec uc ta ea ua xs L} (h:aC o w Y c W m ta ea ua tc ec uc xs L):∀k∈ah Y L xs,k < w.heap.size:=fun k hk=>by
 rcases ZG.1 hk with e | hk
 ·rw[e];exact h.lt
 ·rcases Zv.1 hk with hk | hk
  ·exact h.wld.lt k hk
  ·obtain⟨x,hx,hk⟩:=Z1.1 hk
   exact (h.ok x hx).lt k hk
def MB.bound (h:MB O Y m o w):MC O (ν w) Y m o w:=by obtain⟨c,W,ta,ea,ua,tc,ec,uc,xs,L,h,hL⟩:=h;exact⟨c,W,ta,ea,ua,tc,ec,uc,xs,L,h,fun k hk=>⟨hL k hk,h.CF k hk⟩⟩
def MC.mb {B} (h:MC O B Y m o w):MB O Y m o w:=by obtain⟨c,W,ta,ea,ua,tc,ec,uc,xs,L,h,hL⟩:=h;exact⟨c,W,ta,ea,ua,tc,ec,uc,xs,L,h,fun k hk=>(hL k hk).1⟩
def MC.CQ {B} (h:MC O B Y m o w) (U:J (·∈Ls) o w o' w') (hL:∀k∈Ls,B≤k):MC O B Y m o' w':=by
 obtain⟨c,W,ta,ea,ua,tc,ec,uc,xs,L,h,hb⟩:=h;have hk:=U.et (K:=fun k=>k < B) fun k H h2=>by have:=hL k h2;omega
 exact⟨c,W,ta,ea,ua,tc,ec,uc,xs,L,h.kept hk U.size (hb Y Zr).2 (fun k E=>(hb k (Zo _ (Zm _ E))).2) fun x hx k E=>(hb k (Zo _ (Zx _ (Z1.2 ⟨x,hx,E⟩)))).2,hb⟩
def MC.step {B} (h:MC O B Y m o w) (U:J Θ o w o' w'):MC O B Y m o' w':=h.CQ (Ls:=[]) (U.more' fun _ e=>e.elim) fun k hk=>by cases hk
def MC.below {B} (h:MC O B Y m o w) (z:Wf o w) (hb:Below (ν w) w w'):MC O B Y m o w':=h.step (Zb z hb)
def CB.run (h:CB b i v o w) (U:J (·∈Ls) o w o' w'):CB b i v o' w':=⟨(U.frozen.fz U.size h.1).1,(U.frozen.cell h.1 i).trans h.2⟩
def CB.step (h:CB b i v o w) (U:J Θ o w o' w'):CB b i v o' w':=⟨(U.frozen.fz U.size h.1).1,(U.frozen.cell h.1 i).trans h.2⟩
def CB.below (h:CB b i v o w) (z:Wf o w) (hb:Below (ν w) w w'):CB b i v o w':=h.step (Zb z hb)
end
end
section
section
variable {O z w w':World} {o o':ab} {Y g n ag:Nat} {m mE:bg} {l:List Nat} {t:aS}
def nr (hA:WA O o w) (h:MB z Y m o w) (hl:m.runs=l):Calls prog 10 #[π Y] w (gO l w):=by obtain⟨c,W,ta,ea,ua,tc,ec,uc,xs,L,h,-⟩:=h;subst hl;exact pu hA.wf hA.eb h.blk h.two
def q0 (h:MB z Y m o w) (hs:∀e∈m.trace,small e.v=true) {es} (ht:m.trace=es) (hl:es.length≤1000000):Calls prog 14 #[π Y] w (hI es w):=by obtain⟨c,W,ta,ea,ua,tc,ec,uc,xs,L,h,-⟩:=h;subst ht;exact xC h hs hl
def qA (h:MB z Y m o w) {s} (hs:cI m=s):Calls prog 9 #[π Y] w (ϑ (ι s) w):=by obtain⟨c,W,ta,ea,ua,tc,ec,uc,xs,L,h,-⟩:=h;subst hs;exact ht h.blk h.two
def uq (h:MB z Y m o w) {k} (hk:m.ths.length=k):Calls prog 12 #[π Y] w (μ (ι (k:Nat)) w):=by obtain⟨c,W,ta,ea,ua,tc,ec,uc,xs,L,h,-⟩:=h;subst hk;exact si h.blk
def mX (hA:WA O o w) (h:MB z Y m o w) (ht:m.ths[n]? =some t) (hp:t.parts=[]):Calls prog 6 #[π Y,ι (n:Nat)] w fun e w'=>∃c,fW c t o w e w':=by obtain⟨c,W,ta,ea,ua,tc,ec,uc,xs,L,h,-⟩:=h;rw[h.ths,List.getElem?_map,Option.map_eq_some_iff] at ht;obtain⟨x,hx,rfl⟩:=ht;exact (uU hA.wf h hx hp).mono fun e w' he=>⟨c,he⟩
def ti (O z:World) (Y ag:Nat) (mE:bg) (o:ab) (w:World) (e:Ending) (w':World):Prop:=e= .returned (.tuple #[.int .i64 (ag:Nat),.int .i64 0])∧∃o',WA O o' w'∧(mE.full=false→MB z Y mE o' w')∧(∃c W ta ea ua tc ec uc,A w' Y 32 (bF mE c W ta ea ua tc ec uc))∧aR mE.runs∧(∀b i v,CB b i v o w→CB b i v o' w')∧∀B G m',B≤z.heap.size→MC O B G m' o w→MC O B G m' o' w'
def jf (hA:WA O o w) (hN:O.heap.size≤z.heap.size) (h:MB z Y m o w) (hz:A w g 22 (List.replicate n (.int .u64 0))) (hg:o g=none) (hr:c5 n m=some (ag,mE)) (ht:ag≤1000000) :
  Calls prog 5 #[π Y,.slice (Γ g) n n] w (ti O z Y ag mE o w):=by
 obtain⟨c,W,ta,ea,ua,tc,ec,uc,xs,L,h,hL⟩:=h;refine (vN hA.wf h hA.es hA.ef hA.eb (fun i hi=>⟨g,rfl,⟨hg,hz.lt⟩,hz.c i (by rw[List.getElem?_replicate,if_pos hi])⟩) (fun _=>⟨g,rfl⟩) hr ht).mono ?_;rintro e w' ⟨rfl,o',U,hE⟩;refine⟨rfl,o',hA.run U fun k hk=>Zp hN (hL k hk),fun hf=>?_,?_,?_,fun b i v hc=>hc.run U,fun B G m' hB hc=>hc.CQ U fun k hk=>Zp hB (hL k hk)⟩
 ·rcases hE with ⟨H,-⟩ | ⟨ae,ad,ac,aa,E,Z,I,L',H,h2⟩
  ·rw[hf] at H;cases H
  ·exact⟨c,W,ae,ad,ac,aa,E,Z,I,L',H,fun k hk=>(h2 k hk).elim (hL k) fun e=>by
    have:=hL Y Zr;have:=h.lt
    omega⟩
 ·rcases hE with ⟨-,-,ae,ad,ac,aa,E,Z,H,-⟩ | ⟨ae,ad,ac,aa,E,Z,I,L',H,-⟩
  ·exact⟨c,W,ae,ad,ac,aa,E,Z,H⟩
  ·exact⟨c,W,ae,ad,ac,aa,E,Z,H.blk⟩
 ·rcases hE with ⟨-,H,-⟩ | ⟨ae,ad,ac,aa,E,Z,I,L',H,-⟩
  ·exact H
  ·exact H.two
end
def s3 (n):madeCells (Value.int .u64 0).cells n=(List.replicate n (Value.int .u64 0)).toArray:=by
 have hc:(Value.int .u64 0).cells=#[.int .u64 0]:=rfl;rw[hc];apply Y5.1;apply Ye;intro j
 by_cases hj:j < n
 ·simp[madeCells,hj,Nat.mod_one]
 ·simp[madeCells,hj,Nat.mod_one]
def lG (n:Nat) (hn:n≤1000000) (w):(Instr.makeSlice 68 (ι (n:Int)) (ι (n:Int))).run prog w= .ok (.slice (Γ (ν w)) n n) (w.alloc (.cells (List.replicate n (Value.int .u64 0)).toArray 22)):=by obtain⟨i,hi,hz,hs,hb⟩:=cq lJ;have hr:=run_make (P:=prog) w 68 22 i _ underlying68 hi hz .i64 .i64 n n ω (Int.le_refl _) (by rw[hb];omega) ω;rw[hs,Int.toNat_natCast,Nat.mul_one,s3] at hr;exact hr
def xv:bS []=false:=by kernel_rfl
def oQ:bS dT=true:=by kernel_rfl
def t3 (w):b0 (ο w) w [] none 0:=⟨fun j f hf=>by simp at hf,Zc _,by decide⟩
def kO:dT.length≤1000:=by decide
def lv:∀f∈dT,f.ns.length≤1000∧∀x∈f.ns,x.l.length≤1000:=by decide
def nP {ok w g j cs es e} (hk:A w g 88 cs) (hr:aD (bA ok w) 10 es cs) (hj:es[j]? =some e):∃a c,∀i u,(dI e a c)[i]? =some u→w.cell? (κ g (j*10+i))=some u:=by
 obtain⟨a,c,I,-⟩:=hr.2 j e hj;refine⟨a,c,fun i u hu=>hk.c (j*10+i) ?_⟩;rw[←I,List.getElem?_take] at hu
 split at hu
 ·rwa [List.getElem?_drop] at hu
 ·cases hu
def kC {w:World} {ga gb j:Nat} {e:a0} {k s n:Int} (hB:gj e k s n=true) (hA:∃a c,∀i u,(dI e a c)[i]? =some u→w.cell? (κ ga (j*10+i))=some u)
  (hC:∀i u,([.int .i64 k,.int .i64 s,.int .i64 0,.int .i64 0,.int .i64 0,.int .i64 0,.int .i64 n,.int .i64 0,.int .i64 0,.slice none 0 0]:List Value)[i]? =some u→w.cell? (κ gb (j*10+i))=some u):gC w ga gb j:=by
 obtain⟨a,c,hA⟩:=hA;simp only[gj,decide_eq_true_eq] at hB;obtain⟨b1,b2,b3,b4,I,b6,b7,b8,J,h⟩:=hB;refine⟨k,s,0,0,0,0,n,0,0,a,none,c,0,?_,?_,?_,?_,?_,?_,?_,?_,?_,?_,hC 0 _ rfl,hC 1 _ rfl,hC 2 _ rfl,hC 3 _ rfl,hC 4 _ rfl,hC 5 _ rfl,hC 6 _ rfl,hC 7 _ rfl,hC 8 _ rfl,hC 9 _ rfl⟩
 ·rw[←b1];exact hA 0 _ rfl
 ·rw[←b2];exact hA 1 _ rfl
 ·rw[←b3];exact hA 2 _ rfl
 ·rw[←b4];exact hA 3 _ rfl
 ·rw[←I];exact hA 4 _ rfl
 ·rw[←b6];exact hA 5 _ rfl
 ·rw[←b7];exact hA 6 _ rfl
 ·rw[←b8];exact hA 7 _ rfl
 ·rw[←J];exact hA 8 _ rfl
 ·rw[←h];exact hA 9 _ rfl
def sa {l1 l2:List Value} {i u} (hl:l1.length=10) (h:l2[i]? =some u):(l1 ++ l2)[1*10+i]? =some u:=by rw[List.getElem?_append_right ω,hl,show 1*10+i - 10=i by omega];exact h
def pZ {l1 l2:List Value} {i u} (h:l1[i]? =some u):(l1 ++ l2)[0*10+i]? =some u:=by have hi:=(Ze.1 h).1;rw[List.getElem?_append_left ω,show 0*10+i=i by omega];exact h
def mr {l w g cap} (h0:0 < l.length) (hl:l.length≤1000000) (aE:aQ w 3 1 (.slice (Γ g) l.length cap) l.length (cn l)) :
  Calls prog 37 #[.slice (Γ g) l.length cap,.slice (Γ (ν w)) l.length l.length] (w.alloc (.cells (cn l).toArray 3)) (ϑ (.bool true) w):=by
 have hb:=am w (.cells (cn l).toArray 3);have hk:=Zh w 3 (cn l)
 ·have hg:g < w.heap.size:=by
   obtain⟨a1,cm,e1,-,-,aJ⟩:=aE.form;obtain⟨x,hx⟩:∃x,(cn l)[0]? =some x:=⟨_,Zg (by unfold cn;simpa using h0)⟩;obtain⟨g2,e2,e4,-⟩:=aJ 0 x hx;injection e1 with e1 _ _;rw[e2] at e1;injection e1 with e1;injection e1 with e1 _ _;rw[e1];exact e4
  refine (wB (N:=l.length) (ga:=g) (gb:=w.heap.size) hl (fun j hj=>?_) (Za hg hb.size) hk.lt).mono ?_
  ·obtain⟨a1,cm,e1,-,-,aJ⟩:=aE.form
   have hx:(cn l)[j]? =ι (l[j]:Nat):=by unfold cn;rw[List.getElem?_map,List.getElem?_eq_getElem hj];rfl
   obtain⟨g2,e2,e4,e3,-⟩:=aJ j _ hx;injection e1 with e1 _ _;rw[e2] at e1;injection e1 with e1;injection e1 with e1 _ _;exact⟨(l[j]:Nat),(hb.cell (p:=κ g j) hg).trans (by rw[e1];exact e3),hk.c j hx⟩
  ·rintro e w' ⟨rfl,h⟩
   exact⟨rfl,hb.trans (h.mono hb.size)⟩
end
def kJ {w} (bJ:WA w eB w):Calls prog 19 #[] w (ϑ (.bool true) w):=by
 obtain⟨m0,m1,ea,eb,aw,bM,dj,ay,aJ,dw,dq,dl,ds,di⟩:=pG;obtain⟨q2,m2,t0,t1,dz,be,bo,c3,aH,dx,dv,aC,a9,aX,ao,aV,aS⟩:=o3 di;obtain⟨n0,q3,n1,aR,dg,bl,aN⟩:=wG;have hG:=fun wx=>vD wx;go_enter func19,ntmps19;go_upto_region 2 with first
  | (go_at_call 36
     refine (hG _).mono ?_;rintro e w1 ⟨pa,rfl,af,aj⟩;have A1:=χ (bJ.below af)
     have aD:=nC A1.out.wf aj kO lv aw)
  | (go_at_call 35;go_loud (
     refine aD.mono ?_;rintro e G ⟨o2,Y,c,W,ta,ad,ua,tc,ec,uc,xs,L,rfl,aq,cA,bI⟩;have A2:=χ (A1.out.step aq)
     have B2:=χ (show MB w Y m0 o2 G from⟨c,W,ta,ad,ua,tc,ec,uc,xs,L,cA,fun k hk=>Zp A1.out.out.size (bI k hk)⟩)))
 clear aq cA bI aD aj af bJ aw;have ak:=nr A2.out B2.out bM;unfold gO at ak;simp only[List.length_cons,List.length_nil,Nat.reduceAdd] at ak;go_upto_region 4 with first
  | (go_at_call 8;refine γ (gP _ _) ?_)
  | (go_at_call 10;go_loud (
     refine ak.mono ?_;rintro e E ⟨g3,U,rfl,aA,ac,aB⟩
     have cQ:Calls prog 37 #[.slice (Γ g3) 1 U,.slice (Γ (ν E)) 1 1] (E.alloc (.cells #[ι 0] 3)) (fun e w'=>e= .returned (.bool true)∧Below (ν E) E w'):=mr (l:=[0]) φ φ aB))
  | (go_at_call 37;go_loud (
     refine cQ.mono ?_
     rintro e M ⟨rfl,ah⟩))
 have I:=ac.trans (ah.mono ac.size);have A4:=χ (A2.out.below I);have B4:=χ (B2.out.below A2.out.wf I);clear ak cQ aB aA ac ah I A2 B2 A1;obtain⟨x5,a7⟩:∃u,M.alloc (.cells #[.int .u64 0,.int .u64 0,.int .u64 0] 22)=u:=⟨_,rfl⟩;have ai:Below (ν M) M x5:=by rw[←a7];exact am _ _
 have A5:=χ (A4.out.below ai);have B5:=χ (B4.out.below A4.out.wf ai);have cw:=jf A5.out (Zc _) B5.out (g:=M.heap.size) (n:=3) (by rw[←a7];exact Zh M _ _) (A4.out.wf.ge (Zc _)) dj φ;clear ai
 go_upto_region 5 with (go_at_call 5;go_loud (
    refine cw.mono ?_
    rintro e w6 ⟨rfl,o6,bf,b0,-⟩))
 have A6:=χ bf;have B6:=χ (b0 aJ);clear cw a7 A4 B4 A5 B5 bf b0;have ab:=q0 B6.out dw dq ξ;unfold hI at ab;simp only[List.length_cons,List.length_nil,Nat.reduceAdd] at ab;go_upto_region 7 with first
  | (go_at_call 8;refine γ (gP _ _) ?_)
  | (go_at_call 14;go_loud (
     refine ab.mono ?_;rintro e w7 ⟨rfl,ae,dT,aL,bR⟩;have aY:=am w7 (.cells #[ι 2,ι 0,ι 0,ι 0,ι 0,ι 0,ι 0,ι 0,ι 0,ζ,ι 1,ι 2,ι 0,ι 0,ι 0,ι 0,ι 1,ι 0,ι 0,ζ] 88);have bd:A (w7.alloc (.cells #[ι 2,ι 0,ι 0,ι 0,ι 0,ι 0,ι 0,ι 0,ι 0,ζ,ι 1,ι 2,ι 0,ι 0,ι 0,ι 0,ι 1,ι 0,ι 0,ζ] 88)) (ν w7) 88 ([.int .i64 2,.int .i64 0,.int .i64 0,.int .i64 0,.int .i64 0,.int .i64 0,.int .i64 0,.int .i64 0,.int .i64 0,.slice none 0 0] ++ [.int .i64 1,.int .i64 2,.int .i64 0,.int .i64 0,.int .i64 0,.int .i64 0,.int .i64 1,.int .i64 0,.int .i64 0,.slice none 0 0]):=Zh w7 _ _;have b9:Calls prog 38 #[.slice (Γ (ν w6)) 2 2,.slice (Γ (ν w7)) 2 2] (w7.alloc (.cells #[ι 2,ι 0,ι 0,ι 0,ι 0,ι 0,ι 0,ι 0,ι 0,ζ,ι 1,ι 2,ι 0,ι 0,ι 0,ι 0,ι 1,ι 0,ι 0,ζ] 88)) (fun e w'=>e= .returned (.bool true)∧Below (ν w7) w7 w'):=by
       refine (vi (N:=2) φ (fun j hj=>?_) (Za aL.lt aY.size) bd.lt).mono ?_
       ·have z:j=0∨j=1:=ω
        rcases z with rfl | rfl
        ·obtain⟨a,c,h⟩:=nP aL bR (j:=0) (e:=ea) rfl
         exact kC dl ⟨a,c,fun i u hu=>(aY.cell (p:=κ (ν w6) _) aL.lt).trans (h i u hu)⟩ fun i u hu=>bd.c _ (pZ hu)
        ·obtain⟨a,c,h⟩:=nP aL bR (j:=1) (e:=eb) rfl
         exact kC ds ⟨a,c,fun i u hu=>(aY.cell (p:=κ (ν w6) _) aL.lt).trans (h i u hu)⟩ fun i u hu=>bd.c _ (sa rfl hu)
       ·rintro e w' ⟨rfl,h⟩
        exact⟨rfl,aY.trans (h.mono aY.size)⟩
     clear bd aL bR aY ab))
  | (go_at_call 38;go_loud (
     refine δ b9 ?_;intro w9 aT;have bT:=ae.trans (aT.mono ae.size);have A9:=χ (A6.out.below bT);have B9:=χ (B6.out.below A6.out.wf bT);have bx:=nr A9.out B9.out ay;unfold gO at bx;simp only[List.length_cons,List.length_nil,Nat.reduceAdd] at bx
     clear b9 ae aT bT))
  | (go_at_call 10;go_loud (
     refine bx.mono ?_;rintro e aZ ⟨a0,dA,rfl,c4,a6,a1⟩;have b5:Calls prog 37 #[.slice (Γ a0) 2 dA,.slice (Γ (ν aZ)) 2 2] (aZ.alloc (.cells #[ι 0,ι 1] 3)) (fun e w'=>e= .returned (.bool true)∧Below (ν aZ) aZ w'):=mr (l:=[0,1]) φ φ a1
     clear bx a1 c4))
  | (go_at_call 37;go_loud (
     refine b5.mono ?_
     rintro e aO ⟨rfl,bc⟩))
 have bL:=a6.trans (bc.mono a6.size);have bB:=χ (A9.out.below bL);have cR:=χ (B9.out.below A9.out.wf bL);clear a6 bc bL b5 A9 B9 A6 B6;obtain⟨zs,V⟩:∃zs,List.replicate 1000 (Value.int .u64 0)=zs:=⟨_,rfl⟩;have dh:∀w,(Instr.makeSlice 68 (ι 1000) (ι 1000)).run prog w= .ok (.slice (Γ (ν w)) 1000 1000) (w.alloc (.cells zs.toArray 22)):=fun w=>by rw[←V];exact lG 1000 φ w
 obtain⟨dd,bN⟩:∃u,aO.alloc (.cells zs.toArray 22)=u:=⟨_,rfl⟩;have aM:Below (ν aO) aO dd:=by rw[←bN];exact am _ _
 have cL:=χ (bB.out.below aM);have cZ:=χ (cR.out.below bB.out.wf aM);have cW:=jf cL.out (Zc _) cZ.out (g:=aO.heap.size) (n:=1000) (by rw[←bN,V];exact Zh aO _ _) (bB.out.wf.ge (Zc _)) dz be;clear aM V
 go_upto_region 8 with (go_at_call 5;go_loud (
    refine cW.mono ?_
    rintro e bw ⟨rfl,bz,cC,cz,-⟩))
 have bH:=χ cC;have bV:=χ (cz bo);clear cW bN dh bB cR cL cZ cC cz;have bX:Calls prog 6 #[π Y,ι 0] bw (fun e w'=>∃c,fW c t0 bz bw e w'):=mX bH.out bV.out (n:=0) (t:=t0) (by rw[aH];rfl) aC;unfold fW at bX
 go_upto_region 9 with (go_at_call 6;go_loud (
    refine bX.mono ?_
    rintro e aW ⟨bD,bh,T0,rfl,Z,b8⟩))
 have bO:=χ (bH.out.step Z);have bS:=χ (bV.out.step Z);have bP:Calls prog 6 #[π Y,ι 1] aW (fun e w'=>∃c,fW c t1 bh aW e w'):=mX bO.out bS.out (n:=1) (t:=t1) (by rw[aH];rfl) a9;unfold fW at bP;clear bX bH bV Z
 go_upto_region 10 with (go_at_call 6;go_loud (
    refine bP.mono ?_
    rintro e an ⟨dL,aU,T1,rfl,aF,b6⟩))
 have ba:=χ (bO.out.step aF);have cr:=χ (bS.out.step aF);have bu:=mI ba.out.wf (b8.kept (aF.kp) aF.size fun _ _=>Zk) dx aV;unfold jX at bu;rw[aX] at bu;clear bP bO bS aF b8
 go_upto_region 11 with (go_at_call 39;go_loud (
    refine bu.mono ?_
    rintro e bi ⟨az,ca,rfl,aE⟩))
 obtain⟨a8,bF⟩:∃u,bi.alloc (.cells #[ι t0.val.kd,ι 5,.slice az t0.val.l.length ca] 86)=u:=⟨_,rfl⟩;have a4:Below (ν an) an a8:=by rw[←bF];exact aE.alloc aE.size _
 have a3:=χ (ba.out.below a4);have cU:=χ (cr.out.below ba.out.wf a4)
 have b1:=χ (show CB (ν bi) 1 (ι 5) aU a8 from by
   have hk:A a8 (ν bi) 86 [ι t0.val.kd,ι 5,.slice az t0.val.l.length ca]:=by rw[←bF];exact Zh bi _ _
   exact⟨⟨ba.out.wf.ge aE.size,hk.lt⟩,hk.c 1 rfl⟩)
 have bU:J Θ aU an aU a8:=Zb ba.out.wf a4;have H:=mI a3.out.wf (b6.kept (bU.kp) bU.size fun _ _=>Zk) dv aS;unfold jX at H;rw[ao] at H;clear bu ba cr bU b6 aE a4;rw[bF];clear bF
 go_upto_region 12 with (go_at_call 39;go_loud (
    refine H.mono ?_
    rintro e bj ⟨ax,cT,rfl,bt⟩))
 obtain⟨aI,bC⟩:∃u,bj.alloc (.cells #[ι 1,ι t1.val.n,.slice ax t1.val.l.length cT] 86)=u:=⟨_,rfl⟩;have bA:Below a8.heap.size a8 aI:=by rw[←bC];exact bt.alloc bt.size _
 have bb:=χ (a3.out.below bA);have ck:=χ (cU.out.below a3.out.wf bA);have cX:=χ (b1.out.below a3.out.wf bA)
 have cq:=χ (show CB (ν bj) 0 (ι 1) aU aI from by
   have hk:A aI (ν bj) 86 [ι 1,ι t1.val.n,.slice ax t1.val.l.length cT]:=by rw[←bC];exact Zh bj _ _
   exact⟨⟨a3.out.wf.ge bt.size,hk.lt⟩,hk.c 0 rfl⟩)
 rw[bC];clear H a3 cU b1 bt bA bC;have cn:Calls prog 35 #[.agg #[ζ],.agg #[ι 1,ι 1,ι 1]] aI (fun e w'=>e= .returned (.tuple #[.pointer none,ι 2])∧Below aI.heap.size aI w'):=rI (p:=[]) (t3 aI) xv
 go_upto_region 13 with (go_at_call 35;go_loud (
    refine cn.mono ?_
    rintro e dS ⟨rfl,bn⟩))
 have bp:=χ (bb.out.below bn);have cf:=χ (ck.out.below bb.out.wf bn);have cF:=χ (cX.out.below bb.out.wf bn);have cb:=χ (cq.out.below bb.out.wf bn);clear cn bb ck cX cq bn;go_upto_region 14 with first
  | (go_at_call 36
     refine (hG _).mono ?_;rintro e dO ⟨dF,rfl,bK,cj⟩
     have cY:=pm (threads:=1) (fuel:=1) cj oQ)
  | (go_at_call 35;go_loud (
     refine cY.mono ?_
     rintro e dD ⟨rfl,ci⟩))
 have bg:=bK.trans (ci.mono bK.size);have bq:=χ (bp.out.below bg);have cE:=χ (cf.out.below bp.out.wf bg);have cD:=χ (cF.out.below bp.out.wf bg);have cg:=χ (cb.out.below bp.out.wf bg);clear cY cj bp cf cF cb bK ci bg;go_upto_region 15 with first
  | (go_at_call 36
     refine (hG _).mono ?_;rintro e cP ⟨dU,rfl,ap,cJ⟩;have bE:=χ (bq.out.below ap);have cx:=χ (cE.out.below bq.out.wf ap);have b7:=χ (cD.out.below bq.out.wf ap);have cS:=χ (cg.out.below bq.out.wf ap)
     have cM:=nC bE.out.wf cJ kO lv aR)
  | (go_at_call 35;go_loud (
     refine cM.mono ?_
     rintro e aQ ⟨du,M2,c8,dr,c5,df,c9,c6,c',dt,dp,de,rfl,ag,b3,b'⟩))
 have aK:=χ (bE.out.step ag);have cm:=χ (show MB cP M2 n0 du aQ from⟨c8,dr,c5,df,c9,c6,c',dt,dp,de,b3,b'⟩);have cd:=χ (cx.out.bound.step ag);have cG:=χ (b7.out.step ag);have cH:=χ (cS.out.step ag);have dm:w.heap.size≤cP.heap.size:=bE.out.out.size;clear cM cJ ag b3 b' bq cE cD cg bE cx b7 cS ap;obtain⟨zt,bQ⟩:∃zt,List.replicate 50 (Value.int .u64 0)=zt:=⟨_,rfl⟩;have c7:∀w,(Instr.makeSlice 68 (ι 50) (ι 50)).run prog w= .ok (.slice (Γ (ν w)) 50 50) (w.alloc (.cells zt.toArray 22)):=fun w=>by rw[←bQ];exact lG 50 φ w
 obtain⟨c2,bG⟩:∃u,aQ.alloc (.cells zt.toArray 22)=u:=⟨_,rfl⟩;have a':Below (ν aQ) aQ c2:=by rw[←bG];exact am _ _
 have ce:=χ (aK.out.below a');have cB:=χ (cm.out.below aK.out.wf a');have ct:=χ (cd.out.below aK.out.wf a');have cV:=χ (cG.out.below aK.out.wf a');have cK:=χ (cH.out.below aK.out.wf a');have cO:=jf ce.out dm cB.out (g:=aQ.heap.size) (n:=50) (by rw[←bG,bQ];exact Zh aQ _ _) (aK.out.wf.ge (Zc _)) dg bl;clear a' bQ
 go_upto_region 16 with (go_at_call 5;go_loud (
    refine cO.mono ?_
    rintro e dP ⟨rfl,dM,bW,-,⟨dB,dK,dQ,dH,dN,dE,dJ,dI,cu⟩,b2,bY,cN⟩))
 have bv:=(cN _ _ _ (Zc _) ct.out).mb;have b4:=bY _ _ _ cV.out;have cy:=bY _ _ _ cK.out;have O:=qA bv c3;have aa:=fun w' hb=>uq (w:=w') (bv.below bW.wf hb) (k:=2) (by rw[aH];rfl);have a5:cI n1=3:=by unfold cI;rw[if_pos aN]
 have HZ:=χ (Zf bW (Zf bv (Zf b4 (Zf cy (Zf cu b2)))));have db:=χ aa;clear cO bG c7 aK cm cd cG cH ce cB ct cV cK bW bv b4 cy cu b2 bY cN aa;go_wp2_with first
  | (go_at_call 8;refine γ (gP _ _) ?_)
  | (go_at_call 9
     refine δ O ?_;intro bZ aP;have aq:=db.out bZ aP;have dC:=(HZ.out.2.2.1.below HZ.out.1.wf aP).2;have dG:=(HZ.out.2.2.2.1.below HZ.out.1.wf aP).2;have aG:=ht (w:=bZ) ((aP.block _ HZ.out.2.2.2.2.1.lt).trans HZ.out.2.2.2.2.1) HZ.out.2.2.2.2.2;rw[a5] at aG
     clear O)
  | (go_at_call 12;go_loud (
     refine aq.mono ?_
     rintro e wn ⟨rfl,rfl⟩))
  | (go_at_call 9;go_loud (
     refine aG.mono ?_
     rintro e dR ⟨rfl,dy⟩))
 have dk:=HZ.out.1.below (aP.trans (dy.mono aP.size));go_ret;exact⟨rfl,dk.out⟩
end Go.Proofs.YtmchabopafimeaaGreatDoor
