import Derived.Test.YtmchabopafimeaaGreatDoorQal
namespace Go.Proofs.YtmchabopafimeaaGreatDoor
set_option maxRecDepth 100000
set_option maxHeartbeats 16000000
set_option linter.all false
open Go.RowKit Go.Sort Tryz
section
def xJ (v w):Calls prog 229 #[v,ι 0] w (μ v w):=by have hR:=cK 0 w;go_enter func229,ntmps229;go_wp2_with (go_at_call 172;refine γ hR ?_);go_ret;exact⟨rfl,rfl⟩
def uf (v w):Calls prog 229 #[v,ι 6] w fun e w'=>e=eA 6∧w=w':=by have hR:=mS 6 w;unfold eA U at *;go_enter func229,ntmps229;go_wp2_with (go_at_call 172;refine γ hR ?_);exact⟨rfl,rfl,rfl⟩
def e6 (ok w):aG ok w vZ (.agg #[ι 0,ι 0,ζ]):=by unfold vZ;rw[aG];exact⟨none,0,rfl,by unfold ag;omega,by unfold ag;omega,Zc _,Z2 _,cE.2 (Ym _ _ _ _ _)⟩
structure dR (o:ab) (w:World) (m:aH) (th:Int) (bases:List bI) (conds:List Int) (aQ ay:Option Addr) (cb cc:Nat):Prop where
 th0:0≤th
 rt:ag th
 B:aU (bh (Fz o w) w) (Fz o w) w 7 bases aQ
 C:aU dB (Fz o w) w 1 conds ay
 lb:bases.length≤cb
 mb:cb≤maxLen
 lc:conds.length≤cc
 mc:cc≤maxLen
 inc:eN m.cos.length (-1) conds=true
 few:bases.length≤32
 cl:conds.length≤1000000
 all:bases.all (dt m conds)=true
 S:∀b∈bases,c7 b
def dR.kept {o o' w w' m th bases conds aQ ay cb cc K} (h:dR o w m th bases conds aQ ay cb cc) (I:aM K o w o' w') (hs:w.heap.size≤w'.heap.size):dR o' w' m th bases conds aQ ay cb cc:=
 ⟨h.th0,h.rt,h.B.kept I hs fun _ _ hx=>hx.et (fun _ hg q=>I.cell hg q) (fun _ hg=>(I.fz hs hg).1),h.C.kept I hs fun _ _ hx=>hx,h.lb,h.mb,h.lc,h.mc,h.inc,h.few,h.cl,h.all,h.S⟩
def xG:(prog.info? 126).map (fun i=>(i.zero,i.size,i.bytes))=some (some (.agg #[ι 0,ζ,ζ,ι 0,Δ,Δ,ι 0,ι 0,ι 0,ζ,ι 0]),11,128):=by kernel_rfl
section
variable {o:ab} {w:World} {W Y:Nat} {m:aH} {aB aF aC:Value} {cs:List (Nat×Nat×Nat×Nat)} {ds:List (Nat×Nat)} {th:Int} {bases:List bI} {conds:List Int} {aQ ay:Option Addr} {cb cc:Nat}
def Ak {p q:Prop} (k:q) (h:Zq q→p:=by
 intro mq;have c0:=ao.c 0 rfl;have c1:=bM.c 0 rfl;have c2:=a6.c 0 rfl;have c3:=aw.c 0 rfl;obtain⟨cA,-,-,cW,-⟩:=kc3 hW.blk;unfold aA at c0 cA
 have HK:=χ (fun (w':World) (h:∀b∈[W,bw,bt,bc,bb],w'.heap[b]? =w.heap[b]?)=>(show (w'.cell? (κ bw 0)=π W∧w'.cell? (κ W 3)=some aC∧w'.cell? (κ bt 0)=ι th∧w'.cell? (κ bb 0)=some (.slice aQ bases.length cb)∧w'.cell? (κ bc 0)=some (.slice ay conds.length cc))∧w'.cell? (κ W 0)=π Y from
   ⟨⟨(aY (h bw ξ) 0).trans c0,(aY (h W ξ) 3).trans cW,(aY (h bt ξ) 0).trans c1,(aY (h bb ξ) 0).trans c3,(aY (h bc ξ) 0).trans c2⟩,(aY (h W ξ) 0).trans cA⟩))
 have bE:=χ (fun w' (hb:Below (ν w) w w')=>(show ∀b∈[W,bw,bt,bc,bb],w'.heap[b]? =w.heap[b]? from fun b aj=>hb.block b (aO b aj)));have bJ:=χ (fun wx (aj:Below (ν w) w wx)=>(show ai o wx W m Y aB aF aC cs ds from hW.kept (kB z aj) aj.size fun _ _=>Zk));have hN:=fun wx (h:A wx W 113 [aA Y,aB,aF,aC])=>d3 W Y aB aF aC wx h;have hR:=fun n wx=>cK n wx;have bl:=(ie aZ).2;have bG:=m4 hW conds ay cc (hC.et (fun _ _ _=>rfl) (fun _ hg=>hg.2) fun _ _ h=>h) aq aZ;have HV:=χ (fun wx (b:bI) (bs:List Value) (aP:b∈bases) (aj:Below (ν w) w wx) (hBC:bh (ο wx) wx b bs)=>k2 (z.below aj) (bJ.out wx aj) b bs hBC conds ay cc (hC.et (fun g hg q=>aj.cell (p:=κ g q) hg.2) (fun g hg=>Za hg.2 aj.size) fun _ _ h=>h) bl aq (List.all_eq_true.1 a3 b aP) (hS b aP));have bF:=χ hB;have bi:=χ hW;have bu:=hW.blk;have d1:decide (0≤th)=true:=Zy bp;have d2:decide ((bases.length:Int)≤32)=true:=Zy ω;revert c0 c1 c2 c3 cA cW HK bE bJ hN hR bl bG HV bF bi bu d1 d2
 exact mq.u):p:=h ⟨k⟩
def Al {p q:Prop} (k:q) (h:Zq q→p:=by
 intro mq;have y0:=(hbr.cell (p:=κ gb (ob+k*7)) aR.2).trans (ap 0 ω);have y1:=(hbr.cell (p:=κ gb (ob+k*7+1)) aR.2).trans (ap 1 ω);have y2:=(hbr.cell (p:=κ gb (ob+k*7+2)) aR.2).trans (ap 2 ω);have y3:=(hbr.cell (p:=κ gb (ob+k*7+3)) aR.2).trans (ap 3 ω);have y4:=(hbr.cell (p:=κ gb (ob+k*7+4)) aR.2).trans (ap 4 ω);have y5:=(hbr.cell (p:=κ gb (ob+k*7+5)) aR.2).trans (ap 5 ω);have y6:=(hbr.cell (p:=κ gb (ob+k*7+6)) aR.2).trans (ap 6 ω);have L:decide (k < bases.length)=true:=Zy ad;have aL:=am wr (.cells #[ι b.kd,ι b.n,ι b.v.kd,ι b.v.n,.slice av b.v.l.length cv,.slice aD b.wr.length cw,.slice an b.nk.length cn] 194);have bf:=hbr.trans (aL.mono hbr.size);obtain⟨⟨p0,p1,p2,p3,p4⟩,-⟩:=HK.out _ (bE.out _ bf);have bS:=HV.out _ b _ aP bf (bg.et (fun q hq i=>bf.cell (p:=κ q i) hq.2) (fun q hq=>Za hq.2 bf.size));revert y0 y1 y2 y3 y4 y5 y6 L aL bf p0 p1 p2 p3 p4 bS
 exact mq.u):p:=h ⟨k⟩
def Am {p:Prop} (h:p:=by
 intro b aj;simp only[List.mem_cons,List.not_mem_nil,or_false] at aj;rcases iq aj with rfl | rfl | rfl | rfl | rfl
 ·exact hW.blk.lt
 ·exact ao.lt
 ·exact bM.lt
 ·exact a6.lt
 ·exact aw.lt):p:=h
def sD (z:Wf o w) (hW:ai o w W m Y aB aF aC cs ds) (th bases conds aQ ay cb cc) (hA:dR o w m th bases conds aQ ay cb cc) (ah:m.most - m.cells.length < 1) (bw bt bc bb B) (ao:A w bw 27 [aA W]) (bM:A w bt 3 [ι th]) (a6:A w bc 47 [.slice ay conds.length cc]) (aw:A w bb 124 [.slice aQ bases.length cb]) :
  Calls prog 226 #[π bw,π bt,π bc,π bb] w (bH (·∈wl W Y cs ds) (.int .i64) (eu B W m (.error 6) (wl W Y cs ds)) o w):=by
 obtain⟨bp,bN,hB,hC,bX,bO,be,bL,aZ,bQ,aq,a3,hS⟩:=hA;have aO:∀b∈[W,bw,bt,bc,bb],b < w.heap.size:=Am;refine Ak ?_;intro c0 c1 c2 c3 cA cW HK bE bJ hN hR bl bG HV bF bi bu d1 d2;clear hB hW aZ a3 bp;go_enter func226,ntmps226;go_wp2_with first
  | (go_at_call 49;refine γ (hN _ bu) ?_)
  | (go_at_call 172;refine γ (hR _ _) ?_)
  | (go_at_call 227;refine γ bG ?_)
 clear d1 d2 bG hN bu;go_loopw [6,26] (fun _ ix wr=>∃k:Nat,ix= .int .i64 (k:Nat)∧k≤bases.length∧Below (ν w) w wr) (fun _ ix _=>bases.length - (intOf ix).toNat)
 case atStart=>exact⟨0,rfl,Z2 _,Zj _ _⟩
 case round=>
  obtain⟨k,rfl,hk,hbr⟩:=hrel
  by_cases ad:k < bases.length
  ·obtain⟨gb,ob,ys,rfl,aR,-,ap,bg⟩:=bF.out k bases[k] (Zg ad)
   have aP:=Z8 ad;generalize bases[k]=b at *;obtain⟨av,aD,an,cv,cw,cn,rfl,-⟩:=id bg;refine Al ?_;intro y0 y1 y2 y3 y4 y5 y6 L aL bf p0 p1 p2 p3 p4 bS;clear ap bg;go_wp2_with first
    | (go_at_call 228;refine δ bS ?_;intro G aa)
    | (go_at_call 172;refine γ (hR _ _) ?_)
   go_roundw
   case' rel=>exact⟨k+1,by go_num,ω,bf.trans (aa.mono bf.size)⟩
   case' measure=>simp[intOf];omega
  ·have L:decide (k < bases.length)=false:=Zn ad
   obtain⟨⟨p0,p1,p2,p3,p4⟩,pA⟩:=HK.out _ (bE.out _ hbr);have aE:=z.below hbr;have bB:=bJ.out wr hbr;have hM:=lQ o Y m.most m.cells m.cnt wr aE bB.ar;unfold ca at hM;simp only[ah,if_true] at hM;have hX:=uf;unfold eA U at hX
   have bd:=χ (fun w1 (hb:Below (ν wr) wr w1)=>(show ∃o',J (·∈wl W Y cs ds) o w o' w1∧aT B W m (wl W Y cs ds) o' w1 from
     ⟨o,Zb z (hbr.trans (hb.mono hbr.size)),_,aI.below ⟨Y,aB,aF,aC,cs,ds,bi.out,rfl⟩ z (hbr.trans (hb.mono hbr.size)),fun q hq=>.inl hq⟩))
   clear bB ah;go_wp2_with first
    | (go_at_call 230;refine δ hM ?_;intro w1 af)
    | (go_at_call 229;refine γ (hX _ _) ?_)
   obtain⟨o9,M,h9⟩:=bd.out _ af;exact⟨rfl,o9,M,.error 6,⟨h9,rfl⟩,rfl⟩
def r9 (z:Wf o w) (hW:ai o w W m Y aB aF aC cs ds) (th bases conds aQ ay cb cc) (hA:dR o w m th bases conds aQ ay cb cc) (ah:¬m.most - m.cells.length < 1) (bw bt bc bb B) (ao:A w bw 27 [aA W]) (bM:A w bt 3 [ι th]) (a6:A w bc 47 [.slice ay conds.length cc]) (aw:A w bb 124 [.slice aQ bases.length cb]) (aK:∀b∈[bw,bt,bc,bb],o b=none) :
  Calls prog 226 #[π bw,π bt,π bc,π bb] w (bH (·∈wl W Y cs ds) (.int .i64) (eu B W {m with cells:=m.cells ++ List.replicate 1 0,sys:=m.sys ++ [(⟨th,bases,conds,(m.cells.length:Nat),false,false,0,vZ,0⟩:cd)]} (.ok (m.sys.length:Int)) (wl W Y cs ds)) o w):=by
 obtain⟨bp,bN,hB,hC,bX,bO,be,bL,aZ,bQ,aq,a3,hS⟩:=hA;have aO:∀b∈[W,bw,bt,bc,bb],b < w.heap.size:=Am;refine Ak ?_;intro c0 c1 c2 c3 cA cW HK bE bJ hN hR bl bG HV bF bi bu d1 d2;clear hB hW aZ a3 bp;go_enter func226,ntmps226;go_wp2_with first
  | (go_at_call 49;refine γ (hN _ bu) ?_)
  | (go_at_call 172;refine γ (hR _ _) ?_)
  | (go_at_call 227;refine γ bG ?_)
 clear d1 d2 bG hN bu;go_loopw [6,26] (fun _ ix wr=>∃k:Nat,ix= .int .i64 (k:Nat)∧k≤bases.length∧Below (ν w) w wr) (fun _ ix _=>bases.length - (intOf ix).toNat)
 case atStart=>exact⟨0,rfl,Z2 _,Zj _ _⟩
 case round=>
  obtain⟨k,rfl,hk,hbr⟩:=hrel
  by_cases ad:k < bases.length
  ·obtain⟨gb,ob,ys,rfl,aR,-,ap,bg⟩:=bF.out k bases[k] (Zg ad)
   have aP:=Z8 ad;generalize bases[k]=b at *;obtain⟨av,aD,an,cv,cw,cn,rfl,-⟩:=id bg;refine Al ?_;intro y0 y1 y2 y3 y4 y5 y6 L aL bf p0 p1 p2 p3 p4 bS;clear ap bg;go_wp2_with first
    | (go_at_call 228;refine δ bS ?_;intro G aa)
    | (go_at_call 172;refine γ (hR _ _) ?_)
   go_roundw
   case' rel=>exact⟨k+1,by go_num,ω,bf.trans (aa.mono bf.size)⟩
   case' measure=>simp[intOf];omega
  ·have L:decide (k < bases.length)=false:=Zn ad
   obtain⟨⟨p0,p1,p2,p3,p4⟩,pA⟩:=HK.out _ (bE.out _ hbr);have aE:=z.below hbr;have bB:=bJ.out wr hbr;have hM:=lQ o Y m.most m.cells m.cnt wr aE bB.ar;unfold ca at hM;simp only[ah,if_false] at hM;have hX:=xJ;have ce:=bi.out.ok.few;have aI:m.cells.length≤65536:=by obtain⟨vl,vc,nl,ys,ha⟩:=bi.out.ar;exact Zp ha.len ha.most2
   have Z:=bi.out.nd;have a1:W≠Y:=yU;have bW:=bi.out.lt;have bP:=χ bB;have bC:=hbr.size;clear bB ah Z;go_wp2_with first
    | (go_at_call 230;refine hM.mono ?_;rintro e w1 ⟨rfl,o1,ak,aJ⟩)
    | (go_at_call 229;refine γ (hX _ _) ?_)
   have ae:=aE.BD ak;have bD:=ak.et (K:=(·≠Y)) fun _ h=>h;have aU:∀b∈[W,bw,bt,bc,bb],∀q,o b=some q→q≠Y:=by
    intro b hb q hq;rcases ZG.1 hb with rfl | hb
    ·rw[bi.out.own] at hq;cases hq;exact a1
    ·rw[aK b hb] at hq;cases hq
   have aS:∀b∈[W,bw,bt,bc,bb],w1.heap[b]? =w.heap[b]? :=fun b hb=>((bD b (Za (aO b hb) bC) (fun q hq=>aU b hb q hq)).1).trans (bE.out _ hbr b hb);have bR:∀b∈[bw,bt,bc,bb],o1 b=none:=fun b hb=>((bD b (Za (aO b (Zo _ hb)) bC) (fun q hq=>aU b (Zo _ hb) q hq)).2).trans (aK b hb);have a7:=bP.out.Cn 1 ak aJ;have af:J (·=Y) o w o1 w1:=(Zb (D:=(·=Y)) z hbr).same z ak;have ac:=af.frozen;have a8:=af.size;have a4:bx (· < w1.drew.heap.size) w1.drew (⟨th,bases,conds,(m.cells.length:Nat),false,false,0,vZ,0⟩:cd) [ι th,.slice aQ bases.length cb,.slice ay conds.length cc,ι (m.cells.length:Nat),Δ,Δ,ι 0,ι 0,ι 0,ζ,ι 0]:=by
    refine⟨aQ,ay,none,cb,cc,0,rfl,?_,?_,?_,bN,?_,?_,?_,bX,bO,be,bL⟩
    ·exact bF.out.et (fun g hg q=>ac.cell hg q) (fun g hg=>Za hg.2 a8) (fun _ _ hx=>hx.et (fun g hg q=>ac.cell hg q) (fun g hg=>Za hg.2 a8))
    ·exact hC.et (fun g hg q=>ac.cell hg q) (fun g hg=>Za hg.2 a8) fun _ _ h=>h
    ·exact e6 _ _
    ·unfold ag;show -9223372036854775808≤((m.cells.length:Nat):Int)∧_;constructor
     ·omega
     ·show ((m.cells.length:Nat):Int)≤_;omega
    ·show ag 0;unfold ag;omega
    ·show ag 0;unfold ag;omega
   have bT:bK (⟨th,bases,conds,(m.cells.length:Nat),false,false,0,vZ,0⟩:cd):=⟨hS,by show bases.length≤_;omega,aq,(by show small vZ=true;decide)⟩;have bV:=ly (⟨th,bases,conds,(m.cells.length:Nat),false,false,0,vZ,0⟩:cd) _ w1.drew a4 bT;have a9:m.sys.length≤10000000000:=ω;clear hM a4 bT hX;refine bj [(0,true),(1,true),(2,true),(3,true),(4,true),(5,true),(6,true),(7,true),(8,true),(9,true),(10,false),(11,false),(12,false),(13,false),(14,false),(15,false)] (fun w'=>w'.cell? (κ bw 0)=π W∧w'.cell? (κ W 3)=some aC∧w'.cell? (κ bt 0)=ι th∧w'.cell? (κ bb 0)=some (.slice aQ bases.length cb)∧w'.cell? (κ bc 0)=some (.slice ay conds.length cc)) ψ ψ (HK.out w1 aS).1 ?_;iterate 10 (refine wpC_t ?_;try go_frame)
   refine xP ?_;intro K I;go_at_call 56;refine bV.mono ?_;rintro e G ⟨ba,rfl,aa,aG⟩;have bA:Below (ν w1) w1 G:=(Zj _ _).drew.trans aa;have a':∀b∈[W,bw,bt,bc,bb],G.heap[b]? =w.heap[b]? :=fun b hb=>(bA.block b (Za (aO b hb) a8)).trans (aS b hb);have bv:=χ aG;obtain⟨x0,x1,n1,c1,x2,n2,c2,x3,x4,x5,x6,x7,x8,x9,n9,c9,U,rfl⟩:=bx.agg aG;refine I _ _ _ Φ (fun _=>(HK.out G a').1) ?_;clear I K aG;refine xR ?_;intro K I;have aj:=am G (.cells #[ι x0,.slice x1 n1 c1,.slice x2 n2 c2,ι x3,.bool x4,.bool x5,ι x6,ι x7,ι x8,.slice x9 n9 c9,ι U] 126);have aM:=bA.trans (aj.mono bA.size);have a5:∀b∈[W,bw,bt,bc,bb],(G.alloc (.cells #[ι x0,.slice x1 n1 c1,.slice x2 n2 c2,ι x3,.bool x4,.bool x5,ι x6,ι x7,ι x8,.slice x9 n9 c9,ι U] 126)).heap[b]? =w.heap[b]? :=fun b hb=>(aM.block b (Za (aO b hb) a8)).trans (aS b hb);have aW:(G.alloc (.cells #[ι x0,.slice x1 n1 c1,.slice x2 n2 c2,ι x3,.bool x4,.bool x5,ι x6,ι x7,ι x8,.slice x9 n9 c9,ι U] 126)).heap[G.heap.size]? =some (.cells ([.int .i64 x0,.slice x1 n1 c1,.slice x2 n2 c2,.int .i64 x3,.bool x4,.bool x5,.int .i64 x6,.int .i64 x7,.int .i64 x8,.slice x9 n9 c9,.int .i64 U]:List Value).toArray 126 (0,0)):=Zh G 126 [ι x0,.slice x1 n1 c1,.slice x2 n2 c2,ι x3,.bool x4,.bool x5,ι x6,ι x7,ι x8,.slice x9 n9 c9,ι U];have az:=a7.kept (kB ae aM) aM.size fun _ _=>Zk;have ax:=ae.below aM
   have aV:bx (Fz o1 (G.alloc (.cells #[ι x0,.slice x1 n1 c1,.slice x2 n2 c2,ι x3,.bool x4,.bool x5,ι x6,ι x7,ι x8,.slice x9 n9 c9,ι U] 126))) (G.alloc (.cells #[ι x0,.slice x1 n1 c1,.slice x2 n2 c2,ι x3,.bool x4,.bool x5,ι x6,ι x7,ι x8,.slice x9 n9 c9,ι U] 126)) (⟨th,bases,conds,(m.cells.length:Nat),false,false,0,vZ,0⟩:cd) [ι x0,.slice x1 n1 c1,.slice x2 n2 c2,ι x3,.bool x4,.bool x5,ι x6,ι x7,ι x8,.slice x9 n9 c9,ι U]:=bv.out.et (fun g hg q=>aj.cell (p:=κ g q) hg.2) (fun g hg=>⟨ae.ge hg.1,Za hg.2 aj.size⟩);refine I _ _ _ Φ (fun _=>(HK.out _ a5).1) ?_;clear I K;try go_frame
   refine aN rfl (fun K I=>?_);obtain⟨xs,q1,q2⟩:=az.rsy;refine hT _ (by rfl) _ _ 111 126 _ 11 128 underlying111 xG rfl φ φ (by rfl) aC _ _ (by rfl) q1.row (ν G) [ι x0,.slice x1 n1 c1,.slice x2 n2 c2,ι x3,.bool x4,.bool x5,ι x6,ι x7,ι x8,.slice x9 n9 c9,ι U] (by rfl) aW rfl (by intro u hu;simp only[List.mem_cons,List.not_mem_nil,or_false] at hu;rcases hu with rfl | rfl | rfl | rfl | rfl | rfl | rfl | rfl | rfl | rfl | rfl <;> rfl) a9 ?_;intro g5 a0 V H h2 h3 h4;generalize G.alloc (.cells #[ι x0,.slice x1 n1 c1,.slice x2 n2 c2,ι x3,.bool x4,.bool x5,ι x6,ι x7,ι x8,.slice x9 n9 c9,ι U] 126)=E at *;have b2:∀q,aC.ownBlock=some q→q∉[bw,bt,bc,bb]:=fun q hq hb=>by have:=q1.own q hq;rw[bR q hb] at this;cases this
   have bz:w.heap.size≤E.heap.size:=Zp a8 aM.size;have aX:∀b∈[W,bw,bt,bc,bb],V.heap[b]? =w.heap[b]? :=by
    intro b hb;refine (h2.block b (Za (aO b hb) bz) ?_).trans (a5 b hb);intro e;rcases ZG.1 hb with rfl | hb
    ·exact bq az.blk q1.row φ e.symm
    ·exact b2 b e.symm hb
   refine I _ _ _ Φ (fun _=>(HK.out _ aX).1) ?_;clear I K;refine xR ?_;intro K I;refine I _ _ _ Φ (fun _=>(HK.out _ aX).1) ?_;clear I K;refine xR ?_;intro K I;refine I _ _ _ Φ (fun _=>(HK.out _ aX).1) ?_;clear I K;try go_frame
   have bZ:V.cell? (κ W 3)=some aC:=(HK.out _ aX).1.2.1;have b1:V.frozen? (κ W 3)=false:=by rw[show V.frozen? (κ W 3)=w.frozen? (κ W 3) by simp[World.frozen?,aX W ξ]];exact bi.out.blk.fz _
   have b0:V.cell? (κ bw 0)=π W:=(HK.out _ aX).1.1;obtain⟨n,hn⟩:∃n,m.sys.length=n:=⟨_,rfl⟩;have bY:n≤65536:=ω
   have bd:=χ (show ∃o',J (·∈wl W Y cs ds) o w o' (σ V W 3 (.slice (Γ g5) (n+1) a0):World)∧aT B W {m with cells:=m.cells ++ List.replicate 1 0,sys:=m.sys ++ [(⟨th,bases,conds,(m.cells.length:Nat),false,false,0,vZ,0⟩:cd)]} (wl W Y cs ds) o' (σ V W 3 (.slice (Γ g5) (n+1) a0)) from by
     have bU:(m.cells ++ List.replicate 1 0).length=m.cells.length+1:=by simp
     obtain⟨t1,t2⟩:=az.Cw ax (x:=(⟨th,bases,conds,(m.cells.length:Nat),false,false,0,vZ,0⟩:cd)) q1 q2 aV rfl H h2 h3 ⟨by show (0:Int)≤((m.cells.length:Nat):Int);omega,by show ((m.cells.length:Nat):Int) < ((m.cells ++ List.replicate 1 0).length:Nat);rw[bU];omega⟩ (by show _≤(m.cells ++ List.replicate 1 0).length;rw[bU];show m.chs.length+2*m.cos.length+m.sys.length+1≤_;omega);rw[show (m.sys).length=n from hn] at t1 t2;have bo:J (·∈wl W Y cs ds) o w o1 E:=(af.same z (Zb ae aM)).more z fun q _ e=>by rw[e];exact gN
     exact⟨_,bo.same z (t1.more ax fun q _ e=>by rw[e];exact eD),_,⟨Y,_,_,_,_,_,t2,rfl⟩,fun O hq=>.inl hq⟩)
   refine xY ?_;clear H h2 h3 h4 aW az a7 aJ aX a5 a' aS p0 p1 p2 p3 p4 pA bV aV q1 q2;go_wp2_with fail;go_ret;obtain⟨o9,M,h9⟩:=bd.out;exact⟨o9,M,.ok (n:Int),⟨h9,by rw[hn]⟩,rfl⟩
def nu (h0:0≤th) (hi:eN m.cos.length (-1) conds=true) (bQ:bases.length≤32) (ha:bases.all (dt m conds)=true):b3 th bases conds m=(match eR 1 m with
  | (.ok i,w)=>(.ok (w.sys.length:Int),{w with sys:=w.sys ++ [⟨th,bases,conds,i,false,false,0,vZ,0⟩]})
  | (.error e,w)=>(.error e,w)):=by
 unfold b3 Wm.get Wm.bind ci;simp[h0,hi,bQ,ha,Wm.ret];cases eR 1 m with
 | mk r w=>cases r <;> rfl
def tl (hA:dR o w m th bases conds aQ ay cb cc) (h:m.most - m.cells.length < 1):b3 th bases conds m=(.error 6,m):=by rw[nu hA.th0 hA.inc hA.few hA.all];unfold eR;rw[if_pos h]
def vA (hA:dR o w m th bases conds aQ ay cb cc) (h:¬m.most - m.cells.length < 1):b3 th bases conds m=(.ok (m.sys.length:Int),{m with cells:=m.cells ++ List.replicate 1 0,sys:=m.sys ++ [(⟨th,bases,conds,(m.cells.length:Nat),false,false,0,vZ,0⟩:cd)]}):=by rw[nu hA.th0 hA.inc hA.few hA.all];unfold eR;rw[if_neg h]
def mj {o w W Y m aB aF aC cs ds} (z:Wf o w) (hW:ai o w W m Y aB aF aC cs ds) (th bases conds aQ ay cb cc) (hA:dR o w m th bases conds aQ ay cb cc) :
  Calls prog 182 #[π W,ι th,.slice aQ bases.length cb,.slice ay conds.length cc] w (fb W (b3 th bases conds m).2 (b3 th bases conds m).1 (wl W Y cs ds) o w):=by
 obtain⟨u1,aN,aq,ac,O⟩:=al1 w 27 [π W];obtain⟨u2,L,aa,aj,Z,au⟩:=al2 ac aq 3 [ι th];replace O:=au _ _ _ O;clear au;obtain⟨u3,ap,aw,aK,k2,au⟩:=al2 aj aa 124 [.slice aQ bases.length cb];replace O:=au _ _ _ O;replace Z:=au _ _ _ Z;clear au;obtain⟨u4,aR,-,U,k3,au⟩:=al2 aK aw 47 [.slice ay conds.length cc];replace O:=au _ _ _ O;replace Z:=au _ _ _ Z;replace k2:=au _ _ _ k2;clear au;refine yT ?_;intro n0 n1 n2 n3;have an:J Θ o w o u4:=Zb z U;have aM:=z.BD an;have A:=hW.kept (an.kp) U.size fun _ _=>Zk;have G:=hA.kept (an.kp) U.size
 have I:=lL 226 #[ϖ w,π (η w),π (w.heap.size+1+1+1),π (ς w)] W (b3 th bases conds m).2 (b3 th bases conds m).1 (wl W Y cs ds) o u4 aM A.lt Ψ (fun o3 E ax ag aT=>by
   by_cases ah:m.most - m.cells.length < 1
   ·rw[tl hA ah]
    exact sD ax (A.kept (ag.kp) ag.size fun _ _=>Zk) th bases conds aQ ay cb cc (G.kept (ag.kp) ag.size) ah _ _ _ _ _ (ag.frozen.BF O n0).1 (ag.frozen.BF Z n1).1 (ag.frozen.BF k3 n3).1 (ag.frozen.BF k2 n2).1
   ·rw[vA hA ah]
    exact r9 ax (A.kept (ag.kp) ag.size fun _ _=>Zk) th bases conds aQ ay cb cc (G.kept (ag.kp) ag.size) ah _ _ _ _ _ (ag.frozen.BF O n0).1 (ag.frozen.BF Z n1).1 (ag.frozen.BF k3 n3).1 (ag.frozen.BF k2 n2).1 (fun b hb=>by
    simp only[List.mem_cons,List.not_mem_nil,or_false] at hb;rcases hb with rfl | rfl | rfl | rfl
    ·exact (ag.frozen.BF O n0).2
    ·exact (ag.frozen.BF Z n1).2
    ·exact (ag.frozen.BF k3 n3).2
    ·exact (ag.frozen.BF k2 n2).2))
 have a8:=U.size;have HT:=χ an;clear an aM A O n0 Z n1 k2 n2 k3 n3;go_enter func182,ntmps182;go_wp2_with fail;refine I.mono ?_;rintro e M ⟨o4,ao,⟨L',H,h2⟩,rfl⟩;have hF:fb W (b3 th bases conds m).2 (b3 th bases conds m).1 (wl W Y cs ds) o w (.returned (.tuple #[ι (eS (b3 th bases conds m).1),ι (code (b3 th bases conds m).1)])) M:=
  ⟨o4,(HT.out.more z fun _ _ h=>h.elim).same z ao,⟨L',H,fun q hq=>(h2 q hq).imp id fun h=>Zp a8 h⟩,rfl⟩
 generalize eS (b3 th bases conds m).1=r1 at hF ⊢;generalize code (b3 th bases conds m).1=r2 at hF ⊢;clear I ao H h2;go_wp2_with fail
 first
  | (go_ret2;exact hF)
  | exact Zl (v:= .tuple #[ι r1,ι r2]) (by simp[results,results182,go_sem]) rfl hF
end
end
section
end
def ka (n:Nat):aH:=⟨n,[],0,[],[],[]⟩
def tP (o n) (H:1≤n) (h2:n≤65536) (w) (z:Wf o w):Calls prog 63 #[ι (n:Nat)] w fun e w'=>∃o' W L,e= .returned (.tuple #[π W,ι 0])∧J Θ o w o' w'∧aI o' w' W (ka n) L∧(∀k∈L,w.heap.size≤k):=by
 have hC:=pA o n H h2 w z
 have bd:=χ (fun w1 (Y:Nat) o1 (hA:w.heap.size≤Y) (U:J Θ o w o1 w1) (hI:an o1 w1 Y n [] 0)=>(show ∃o' W L,J Θ o w o' (w1.alloc (.cells #[π Y,ζ,ζ,ζ] 113))∧W=w1.heap.size∧aI o' (w1.alloc (.cells #[π Y,ζ,ζ,ζ] 113)) W (ka n) L∧(∀k∈L,w.heap.size≤k) from by
   have ae:=z.BD U;have hB:=ZJ ae (.cells #[π Y,ζ,ζ,ζ] 113);have I:=hB.et (K:=fun _=>True) fun _ _ h=>h;have G:Y < w1.heap.size:=by obtain⟨vl,vc,nl,xs,ha⟩:=hI;exact ha.blk.lt
   refine⟨_,w1.heap.size,_,U.same z hB,rfl,⟨Y,.slice none 0 0,.slice none 0 0,.slice none 0 0,[],[],⟨Zh w1 _ [aA Y,ζ,ζ,ζ],Zw _ _ _,hI.kept I trivial,aw.nil _ _ _ _ _,rfl,(fun i c x h=>by simp at h),aw.nil _ _ _ _ _,rfl,(fun i d x h=>by simp at h),Yd _ _ _ _ _ _,?_,?_⟩,rfl⟩,fun k hk=>?_⟩
   ·show [w1.heap.size,Y].Nodup
    simp;omega
   ·exact⟨(fun n h=>by cases h),(fun x h=>by cases h),(fun x h=>by cases h),(fun x h=>by cases h),(fun x h=>by cases h),by show 0+2*0+0≤0;omega⟩
   ·have hs:=U.size
    have E:k∈[w1.heap.size,Y]:=hk;simp only[List.mem_cons,List.not_mem_nil,or_false] at E;rcases E with rfl | rfl
    ·exact hs
    ·exact hA))
 go_enter func63,ntmps63;go_wp2_with (go_at_call 89;refine hC.mono ?_;rintro e w1 ⟨Y,o1,rfl,hA,U,hI⟩);obtain⟨o',W,L,g1,g2,g3,g4⟩:=bd.out w1 Y o1 hA U hI;subst g2;go_ret2;exact⟨o',_,L,rfl,g1,g3,g4⟩
def jW (R:Value→World→Prop) (e:Ending) (w':World):Prop:=∃v w1,e= .returned v∧R v w1∧Below w1.heap.size w1 w'
def fk (R:Value→World→Prop) (e:Ending) (w':World):Prop:=∃v,e= .returned (.tuple #[v,.int .i64 0])∧R v w'
def lq {o w W Y m aB aF aC cs ds} (hW:ai o w W m Y aB aF aC cs ds):Calls prog 256 #[π W] w (μ (.bool false) w):=by have I:=h7 hW;clear hW;go_enter func256,ntmps256;go_wp2_with (go_at_call 96;refine γ I ?_);go_ret;exact⟨rfl,rfl⟩
def yW {p:Prop} (h:p:=by
 go_wp2_with fail;go_loopw [3,6] (fun _ ix wr=>(ix= .int .i64 0∨ix= .int .i64 1)∧wr=w) (fun _ ix _=>2 - (intOf ix).toNat)
 case atStart=>exact⟨.inl rfl,rfl⟩
 case round=>
  obtain⟨h,rfl⟩:=iq hrel;rcases iq h with rfl | rfl
  ·go_wp2_with fail
   go_roundw
   case' rel=>exact⟨.inr rfl,trivial⟩
   case' measure=>decide
  ·go_wp2_with fail
   refine bodyPost_end (Yw rfl _ _ _) rfl ?_
   exact⟨rfl,rfl⟩):p:=h
def eC (g c:Nat) (w:World) (h0:w.cell? (κ g 0)=ι 0):Calls prog 345 #[.slice (Γ g) 1 c] w (μ (.tuple #[]) w):=by go_enter func345,ntmps345;exact yW
def rK (g c:Nat) (w:World) (h0:w.cell? (κ g 0)=ι 0) (H:w.cell? (κ g 1)=ι 0):Calls prog 345 #[.slice (Γ g) 2 c] w (μ (.tuple #[]) w):=by
 go_enter func345,ntmps345;go_wp2_with fail;go_loopw [3,6] (fun _ ix wr=>(ix= .int .i64 0∨ix= .int .i64 1∨ix= .int .i64 2)∧wr=w) (fun _ ix _=>3 - (intOf ix).toNat)
 case atStart=>exact⟨.inl rfl,rfl⟩
 case round=>
  obtain⟨h,rfl⟩:=hrel;rcases h with rfl | rfl | rfl
  ·go_wp2_with fail
   go_roundw
   case' rel=>exact⟨.inr (.inl rfl),trivial⟩
   case' measure=>decide
  ·go_wp2_with fail
   go_roundw
   case' rel=>exact⟨.inr (.inr rfl),trivial⟩
   case' measure=>decide
  ·go_wp2_with fail
   refine xQ ?_;exact⟨rfl,rfl⟩
def An {p q:Prop} (k:q) (h:Zq q→p:=by
 intro mq;have hp:A (σ7 M (ν w) (ι x0) (ι x1) (ι x2) (ι x3) (ι x4) (ι x5) (.slice x6 U c6)) (ν w) 307 [ι x0,ι x1,ι x2,ι x3,ι x4,ι x5,.slice x6 U c6]:=aW (b:=0) [(0,ι x0),(1,ι x1),(2,ι x2),(3,ι x3),(4,ι x4),(5,ι x5),(6,.slice x6 U c6)] _ _ L.out;have hX:J (·=w.heap.size) o2 M o2 (σ7 M (ν w) (ι x0) (ι x1) (ι x2) (ι x3) (ι x4) (ι x5) (.slice x6 U c6)):=Z9 (h2.below I) (aE (S:=(·=w.heap.size)) rfl 0 [(0,ι x0),(1,ι x1),(2,ι x2),(3,ι x3),(4,ι x4),(5,ι x5),(6,.slice x6 U c6)] M) fun x _ hx=>⟨w.heap.size,by rw[hx];exact ao,rfl⟩;have ae:=((((an.more z fun _ _ h=>h.elim).same z aq).same z (Zb h2 I)).trans z hX fun k hk e=>by omega:J D o w o2 (σ7 M (ν w) (ι x0) (ι x1) (ι x2) (ι x3) (ι x4) (ι x5) (.slice x6 U c6)));have Y:=(tB h2 I).et (K:=(·≠w.heap.size)) fun _ _ h=>h;revert hp hX ae Y
 exact mq.u):p:=h ⟨k⟩
def Ao {p q:Prop} (k:q) (h:Zq q→p:=by
 intro mq;have ay:¬D w.heap.size:=fun h=>by have:=hD _ h;omega
 have k2:A G (ν w) 307 [ι 0,ι 0,ι 0,ι 0,ι 0,ι 0,ζ]:=(ZO (K:=(·=w.heap.size)) aq (fun q e=>by rw[e];exact ay) (ν w) ad (fun q hq=>by rw[af] at hq;cases hq;rfl)).1.trans O;have ao:=aq.owned ad af ay;have h2:=H.BD aq;have HR:=χ V;have kn:=Zh G 307 [ι x0,ι x1,ι x2,ι x3,ι x4,ι x5,.slice x6 U c6];have ac:=am G (.cells #[ι x0,ι x1,ι x2,ι x3,ι x4,ι x5,.slice x6 U c6] 307);revert ay k2 ao h2 HR kn ac
 exact mq.u):p:=h ⟨k⟩
def yo {p q:Prop} (k:q) (h:Zq q→p:=by
 intro mq;have af:(o.set (ν w) (some w.heap.size)) w.heap.size=some w.heap.size:=Zw _ _ _;revert af
 exact mq.u):p:=h ⟨k⟩
def j' (F:Nat) (caps D) (R:List Value→ab→World→Prop) (o w) (z:Wf o w) (hD:∀k,D k→k < w.heap.size) (hR:∀l o1 w1 G,R l o1 w1→aM (·≠w.heap.size) o1 w1 o1 G→w1.heap.size≤G.heap.size→R l o1 G) (hA:∀l o w,R l o w→dG l) (hF:Λ F) (aG:∀o2 G,Wf o2 G→J Θ o w o2 G→G.heap.size=w.heap.size+1→Calls prog F caps G fun e w'=>∃o',J D o2 G o' w'∧∃l,e= .returned (.tuple #[.agg l.toArray,ι 0])∧R l o' w') :
  Calls prog 338 #[.func (.func F) #[] caps] w fun e w'=>∃o',J D o w o' w'∧∃l,e= .returned (.agg l.toArray)∧R l o' w':=by refine yb ?_;intro an;refine xV ?_;intro O;have aa:=aG _ _ (z.BD an) an ξ;refine yo ?_;intro af;have H:=z.BD an;have ad:=O.lt;generalize o.set (ν w) (some w.heap.size)=o1 at *;clear aG;go_enter func338,ntmps338;go_wp2_with fail;generalize w.alloc θ=w1 at *;refine aa.mono ?_;rintro e G ⟨o2,aq,l,rfl,V⟩;obtain⟨x0,x1,x2,x3,x4,x5,x6,U,c6,rfl⟩:=hA _ _ _ V;refine Ao ?_;intro ay k2 ao h2 HR kn ac;clear V;go_upto_region 2 with fail;generalize G.alloc (.cells #[ι x0,ι x1,ι x2,ι x3,ι x4,ι x5,.slice x6 U c6] 307)=E at *;have ah:=am E (.cells #[ι 0] 33);have ai:=eC (ν E) 1 (E.alloc θ2) ((Zh E 33 [ι 0]).c 0 rfl);have Z:=Z6 kn ah;have k4:=Z6 (Z6 k2 ac) ah;have I:=ac.trans (ah.mono ac.size);go_upto_region 3 with (go_at_call 345;refine γ ai ?_);generalize E.alloc θ2=M at *;obtain⟨l0,l1,l2,l3,l4,l5,l6,-⟩:=kc6 Z;obtain⟨r0,f0,r1,f1,r2,f2,r3,f3,r4,f4,r5,f5,r6,f6,-⟩:=kb6 k4;have L:=χ k4;clear kn Z k4 k2 O ai;go_wp2_with fail;refine An ?_;intro hp hX ae Y;exact Zl (v:= .agg #[ι x0,ι x1,ι x2,ι x3,ι x4,ι x5,.slice x6 U c6]) (by simp[results,results338,go_sem,hp.c 0 rfl,hp.c 1 rfl,hp.c 2 rfl,hp.c 3 rfl,hp.c 4 rfl,hp.c 5 rfl,hp.c 6 rfl]) rfl ⟨o2,ae,_,rfl,hR _ _ _ _ (hR _ _ _ _ HR.out Y I.size) (hX.et fun _ h=>h) hX.size⟩
def Ap {p:Prop} (h:p:=by
 go_wp2_with first
  | (go_at_call 345;refine γ ai ?_)
  | (refine aG.mono ?_
     rintro e w1 ⟨v,rfl,hR⟩;have hb:=am w1 (.cells #[ι 0] 33)
     have ai:=eC (ν w1) 1 (w1.alloc θ2) ((Zh w1 33 [ι 0]).c 0 rfl))
 go_ret
 exact⟨v,w1,rfl,hR,hb⟩):p:=h
def iI (F:Nat) (caps w R) (hF:Λ F) (aG:Calls prog F caps w (fk R)) :
  Calls prog 335 #[.func (.func F) #[] caps] w (jW R):=by go_enter func335,ntmps335;exact Ap
def jG (F:Nat) (caps w R) (hF:Λ F) (aG:Calls prog F caps w (fk R)) :
  Calls prog 342 #[.func (.func F) #[] caps] w (jW R):=by go_enter func342,ntmps342;exact Ap
def l3 {o w W Y m aB aF aC cs ds} (hW:ai o w W m Y aB aF aC cs ds):Calls prog 290 #[π W] w (μ (.bool false) w):=by have I:=h7 hW;clear hW;go_enter func290,ntmps290;go_wp2_with (go_at_call 96;refine γ I ?_);go_ret;exact⟨rfl,rfl⟩
def ia (g c:Nat) (w:World) (h0:w.cell? (κ g 0)=ι 0):Calls prog 364 #[.slice (Γ g) 1 c] w (μ (.tuple #[]) w):=by go_enter func364,ntmps364;exact yW
def lz (F:Nat) (caps D) (R:List Value→ab→World→Prop) (o w) (z:Wf o w) (hD:∀k,D k→k < w.heap.size) (hR:∀l o1 w1 G,R l o1 w1→aM (·≠w.heap.size) o1 w1 o1 G→w1.heap.size≤G.heap.size→R l o1 G) (hA:∀l o w,R l o w→dG l) (hF:Λ F) (aG:∀o2 G,Wf o2 G→J Θ o w o2 G→G.heap.size=w.heap.size+1→Calls prog F caps G fun e w'=>∃o',J D o2 G o' w'∧∃l,e= .returned (.tuple #[.agg l.toArray,ι 0])∧R l o' w') :
  Calls prog 356 #[.func (.func F) #[] caps] w fun e w'=>∃o',J D o w o' w'∧∃l,e= .returned (.agg l.toArray)∧R l o' w':=by refine yb ?_;intro an;refine xV ?_;intro O;have aa:=aG _ _ (z.BD an) an ξ;refine yo ?_;intro af;have H:=z.BD an;have ad:=O.lt;generalize o.set (ν w) (some w.heap.size)=o1 at *;clear aG;go_enter func356,ntmps356;go_wp2_with fail;generalize w.alloc θ=w1 at *;refine aa.mono ?_;rintro e G ⟨o2,aq,l,rfl,V⟩;obtain⟨x0,x1,x2,x3,x4,x5,x6,U,c6,rfl⟩:=hA _ _ _ V;refine Ao ?_;intro ay k2 ao h2 HR kn ac;clear V;go_upto_region 2 with fail;generalize G.alloc (.cells #[ι x0,ι x1,ι x2,ι x3,ι x4,ι x5,.slice x6 U c6] 307)=E at *;have ah:=am E (.cells #[ι 0] 33);have ai:=ia (ν E) 1 (E.alloc θ2) ((Zh E 33 [ι 0]).c 0 rfl);have Z:=Z6 kn ah;have k4:=Z6 (Z6 k2 ac) ah;have I:=ac.trans (ah.mono ac.size);go_upto_region 3 with (go_at_call 364;refine γ ai ?_);generalize E.alloc θ2=M at *;obtain⟨l0,l1,l2,l3,l4,l5,l6,-⟩:=kc6 Z;obtain⟨r0,f0,r1,f1,r2,f2,r3,f3,r4,f4,r5,f5,r6,f6,-⟩:=kb6 k4;have L:=χ k4;clear kn Z k4 k2 O ai;go_wp2_with fail;refine An ?_;intro hp hX ae Y;exact Zl (v:= .agg #[ι x0,ι x1,ι x2,ι x3,ι x4,ι x5,.slice x6 U c6]) (by simp[results,results356,go_sem,hp.c 0 rfl,hp.c 1 rfl,hp.c 2 rfl,hp.c 3 rfl,hp.c 4 rfl,hp.c 5 rfl,hp.c 6 rfl]) rfl ⟨o2,ae,_,rfl,hR _ _ _ _ (hR _ _ _ _ HR.out Y I.size) (hX.et fun _ h=>h) hX.size⟩
def qe (F:Nat) (caps w R) (hF:Λ F) (aG:Calls prog F caps w (fk R)) :
  Calls prog 354 #[.func (.func F) #[] caps] w (jW R):=by
 go_enter func354,ntmps354;go_wp2_with first
  | (go_at_call 364;refine γ ai ?_)
  | (refine aG.mono ?_
     rintro e w1 ⟨v,rfl,hR⟩;have hb:=am w1 (.cells #[ι 0] 33)
     have ai:=ia (ν w1) 1 (w1.alloc θ2) ((Zh w1 33 [ι 0]).c 0 rfl))
 go_ret;exact⟨v,w1,rfl,hR,hb⟩
section
def Wm.BL {α β:Type} {x:Wm α} {f:α→Wm β} {m m'} {b:β} (h:x.bind f m=(.ok b,m')):∃a m1,x m=(.ok a,m1)∧f a m1=(.ok b,m'):=by
 unfold Wm.bind at h;cases hx:x m with
 | mk r m1=>
   rw[hx] at h;cases r with
   | ok a=>exact⟨a,m1,rfl,h⟩
   | error e=>cases h
def yX {p:Prop} (h:p:=by
 refine⟨c.toNat,ω,?_,h2.symm⟩;rw[←H]
 simp[List.getD,List.getElem?_eq_getElem ad]):p:=h
def g9 {c m m' x} (h:eK c m=(.ok x,m')):∃k:Nat,c=k∧m.chs[k]? =some x∧m'=m:=by
 unfold eK at h
 split at h
 ·cases h
 ·next hc=>injection h with H h2;injection H with H;have ad:c.toNat < m.chs.length:=ω;exact yX
def rh {c m m' x} (h:eU c m=(.ok x,m')):∃k:Nat,c=k∧m.cos[k]? =some x∧m'=m:=by
 unfold eU at h
 split at h
 ·cases h
 ·next hc=>injection h with H h2;injection H with H;have ad:c.toNat < m.cos.length:=ω;exact yX
def fy {c m m' x} (h:az c m=(.ok x,m')):∃k:Nat,c=k∧m.sys[k]? =some x∧m'=m:=by
 unfold az at h
 split at h
 ·cases h
 ·next hc=>injection h with H h2;injection H with H;have ad:c.toNat < m.sys.length:=ω;exact yX
def eW {b e m m'} {u:Unit} (h:ci b e m=(.ok u,m')):b=true∧m'=m:=by
 unfold ci at h;cases b with
 | true=>exact⟨rfl,by injection h with _ h;exact h.symm⟩
 | false=>cases h
section
variable {o:ab} {w:World} {W:Nat} {m m':aH} {L:List Nat}
def lp (z:Wf o w) (hI:aI o w W m L) {c b} (h:cN c m=(.ok b,m')):Calls prog 337 #[π W,ι c] w (c2 (.bool) W m' b L o w):=by obtain⟨x,m1,H,-⟩:=Wm.BL h;obtain⟨k,rfl,hx,-⟩:=g9 H;obtain⟨Y,aB,aF,aC,cs,ds,hW,rfl⟩:=hI;have hf:=hW.ok.chs x (Zi hx);obtain⟨-,e2⟩:=l7 hx hf;have h3:=o6 z hW k x hx;rw[h] at e2 h3;injection e2 with e2;rw[e2];exact h3
def sL (z:Wf o w) (hI:aI o w W m L) {c b} (h:dg c m=(.ok b,m')):Calls prog 350 #[π W,ι c] w (c2 (.bool) W m' b L o w):=by obtain⟨x,m1,H,-⟩:=Wm.BL h;obtain⟨k,rfl,hx,-⟩:=rh H;obtain⟨Y,aB,aF,aC,cs,ds,hW,rfl⟩:=hI;have hf:=hW.ok.fds x (Zi hx);obtain⟨-,e2⟩:=nT hx hf;have h3:=sj z hW k x hx;rw[h] at e2 h3;injection e2 with e2;rw[e2];exact h3
def xz (z:Wf o w) (hI:aI o w W m L) {c b} (h:cR c m=(.ok b,m')):Calls prog 344 #[π W,ι c] w (c2 (.int .i64) W m' b L o w):=by obtain⟨x,m1,H,-⟩:=Wm.BL h;obtain⟨k,rfl,hx,-⟩:=fy H;obtain⟨Y,aB,aF,aC,cs,ds,hW,rfl⟩:=hI;obtain⟨G,aJ⟩:=hW.ok.fls x (Zi hx);obtain⟨f,aa⟩:∃f:Nat,x.fl=f:=⟨x.fl.toNat,ω⟩;have hf:f < m.cells.length:=ω;obtain⟨-,e2⟩:=m5 hx aa hf (hW.ok.two _ (Z8 hf));have h3:=uM z hW k x hx f aa;rw[h] at e2 h3;injection e2 with e2;rw[e2];exact h3
def wU (z:Wf o w) (hI:aI o w W m L) {c b} (h:fa c m=(.ok b,m')):Calls prog 271 #[π W,ι c] w (c2 (.bool) W m' b L o w):=by obtain⟨x,m1,H,-⟩:=Wm.BL h;obtain⟨k,rfl,hx,-⟩:=fy H;obtain⟨Y,aB,aF,aC,cs,ds,hW,rfl⟩:=hI;obtain⟨G,aJ⟩:=hW.ok.fls x (Zi hx);obtain⟨f,aa⟩:∃f:Nat,x.fl=f:=⟨x.fl.toNat,ω⟩;have hf:f < m.cells.length:=ω;have e2:=mn hx aa hf (hW.ok.two _ (Z8 hf));have h3:=sh z hW k x hx f aa;rw[h] at e2 h3;injection e2 with e2 _;injection e2 with e2;rw[e2];exact h3
def j0 (z:Wf o w) (hI:aI o w W m L) {c} (h:b1 c m=(.ok (),m')):Calls prog 348 #[π W,ι c] w (cF W m' 0 L o w):=by obtain⟨x,m1,H,-⟩:=Wm.BL h;obtain⟨k,rfl,hx,-⟩:=g9 H;obtain⟨Y,aB,aF,aC,cs,ds,hW,rfl⟩:=hI;have h3:=ph z hW k x hx;rw[h] at h3;exact h3
def mC (z:Wf o w) (hI:aI o w W m L) {c} (h:ct c m=(.ok (),m')):Calls prog 351 #[π W,ι c] w (cF W m' 0 L o w):=by obtain⟨x,m1,H,-⟩:=Wm.BL h;obtain⟨k,rfl,hx,-⟩:=fy H;obtain⟨Y,aB,aF,aC,cs,ds,hW,rfl⟩:=hI;obtain⟨G,aJ⟩:=hW.ok.fls x (Zi hx);obtain⟨f,aa⟩:∃f:Nat,x.fl=f:=⟨x.fl.toNat,ω⟩;have h3:=tp z hW k x hx f aa;rw[h] at h3;exact h3
def oM (z:Wf o w) (hI:aI o w W m L) {c} (h:gX c m=(.ok (),m')):Calls prog 96 #[π W,ι c] w (cF W m' 0 L o w):=by obtain⟨x,m1,H,-⟩:=Wm.BL h;obtain⟨k,rfl,hx,-⟩:=fy H;obtain⟨Y,aB,aF,aC,cs,ds,hW,rfl⟩:=hI;have h3:=w9 z hW k x hx;rw[h] at h3;exact h3
def sI (z:Wf o w) (hI:aI o w W m L) (hE:a6 o w) {c send y aD cx} (hy:a4 (Fz o w) w y (bu y aD cx)) (h:cS c send y m=(.ok (),m')):Calls prog 375 #[π W,ι c,ι (sd send),.agg (bu y aD cx).toArray] w (cF W m' 0 L o w):=by obtain⟨x,m1,H,-⟩:=Wm.BL h;obtain⟨k,rfl,hx,-⟩:=g9 H;obtain⟨Y,aB,aF,aC,cs,ds,hW,rfl⟩:=hI;have h3:=vX z hW hE k send x hx y aD cx hy;rw[h] at h3;exact h3
def nA (z:Wf o w) (hI:aI o w W m L) (hE:a6 o w) {c send i r} (h:eG c send i m=(.ok r,m')):Calls prog 340 #[π W,ι c,ι (sd send),ι (i:Nat)] w (eH W m' r L o w):=by obtain⟨x,m1,H,h2⟩:=Wm.BL h;obtain⟨k,rfl,hx,rfl⟩:=g9 H;obtain⟨Y,aB,aF,aC,cs,ds,hW,rfl⟩:=hI;have h3:=o1 z hW hE k send i x hx;injection h2 with h4 h5;injection h4 with h4;rw[h4,h5] at h3;exact h3
def h8 (z:Wf o w) (hI:aI o w W m L) {s br pa v av cv} (hv:aG (Fz o w) w v (.agg (υ v av cv))) (h:dQ s br v pa m=(.ok (),m')):Calls prog 346 #[π W,ι s,ι br,.agg (υ v av cv),ι pa] w (cF W m' 0 L o w):=by
 obtain⟨x,m1,H,h2⟩:=Wm.BL h;obtain⟨k,rfl,hx,rfl⟩:=fy H;obtain⟨Y,aB,aF,aC,cs,ds,hW,rfl⟩:=hI;obtain⟨_,_,h3,h4⟩:=Wm.BL h2;obtain⟨hb,rfl⟩:=eW h3;obtain⟨_,_,h5,h6⟩:=Wm.BL h4;obtain⟨af,rfl⟩:=eW h5;obtain⟨_,_,h7,M⟩:=Wm.BL h6;obtain⟨hp,rfl⟩:=eW h7;obtain⟨_,_,h9,U⟩:=Wm.BL M;obtain⟨hd,rfl⟩:=eW h9;unfold ge at U;injection U with _ U;rw[Int.toNat_natCast] at U;rw[decide_eq_true_eq] at hb hp;obtain⟨b,rfl⟩:∃b:Nat,br=b:=⟨br.toNat,ω⟩;have A:x.done=false:=by simpa using hd
 have ah:=ut z hW k x hx b ω v av cv hv af pa hp.1 hp.2 A;rw[←U];exact ah
def lW (z:Wf o w) (hI:aI o w W m L) (hS:∀x∈m.sys,bK x) {s br y} (h:ic s br m=(.ok y,m')):m'=m∧Calls prog 373 #[π W,ι s,ι br] w (nO y o w):=by obtain⟨x,m1,H,h2⟩:=Wm.BL h;obtain⟨k,rfl,hx,rfl⟩:=fy H;obtain⟨Y,aB,aF,aC,cs,ds,hW,rfl⟩:=hI;obtain⟨_,_,h3,h4⟩:=Wm.BL h2;obtain⟨hb,rfl⟩:=eW h3;injection h4 with h4 h5;injection h4 with h4;rw[decide_eq_true_eq] at hb;obtain⟨b,rfl⟩:∃b:Nat,br=b:=⟨br.toNat,ω⟩;have ad:b < x.bases.length:=ω;have h6:=sN z hW k x hx b x.bases[b] (Zg ad) ((hS x (Zi hx)).1 _ (Z8 ad)).1;refine⟨h5.symm,?_⟩;rw[←h4];rw[Int.toNat_natCast,show x.bases.getD b ⟨0,0,vZ,[],[]⟩=x.bases[b] by simp[List.getD,List.getElem?_eq_getElem ad]];exact h6
def e7 (z:Wf o w) (hI:aI o w W m L) (hS:∀x∈m.sys,bK x) {s x} (h:az s m=(.ok x,m')):m'=m∧Calls prog 113 #[π W,ι s] w (iH x o w):=by obtain⟨k,rfl,hx,rfl⟩:=fy h;obtain⟨Y,aB,aF,aC,cs,ds,hW,rfl⟩:=hI;exact⟨rfl,wt z hW k x hx (hS x (Zi hx))⟩
end
def Zu:=@Wm.BL
end
section
def g6 (m:bP) (aD:Option Addr) (cx:Nat) (av:Option Addr) (cv:Nat):List Value:=[.int .i64 m.ent.sy,.int .i64 m.ent.th,.int .i64 m.ent.br,.int .i64 m.ent.fl,.int .i64 m.ent.v.kd,.int .i64 m.ent.v.n,.slice aD m.ent.v.l.length cx,.int .i64 m.at_,.int .i64 m.own,.int .i64 m.br,.int .i64 m.kd,.int .i64 m.n,.int .i64 m.v.kd,.int .i64 m.v.n,.slice av m.v.l.length cv,.slice none 0 0,.slice none 0 0,.bool m.met,.int .i64 m.pa]
structure b' (o:ab) (w:World) (p:Nat) (m:bP) (aD:Option Addr) (cx:Nat) (av:Option Addr) (cv:Nat):Prop where
 blk:A w p 398 (g6 m aD cx av cv)
 own:o p=some p
 ent:a4 (Fz o w) w m.ent (bu m.ent aD cx)
 v:aG (Fz o w) w m.v (.agg #[.int .i64 m.v.kd,.int .i64 m.v.n,.slice av m.v.l.length cv])
def a9 (o:ab) (w:World) (p:Nat) (m:bP):Prop:=∃aD cx av cv,b' o w p m aD cx av cv
section
variable {o o':ab} {w w':World} {p W:Nat} {m:bP} {aD av:Option Addr} {cx cv:Nat} {K:Nat→Prop} {wm wm':aH} {L:List Nat}
def b'.kept (h:b' o w p m aD cx av cv) (I:aM K o w o' w') (hs:w.heap.size≤w'.heap.size) (hp:K p):b' o' w' p m aD cx av cv:=by obtain⟨H,h2⟩:=I.blk h.blk h.own hp;exact⟨H,h2,h.ent.kept I hs,h.v.kept I hs⟩
def a9.kept (h:a9 o w p m) (I:aM K o w o' w') (hs:w.heap.size≤w'.heap.size) (hp:K p):a9 o' w' p m:=by obtain⟨aD,cx,av,cv,h⟩:=h;exact⟨aD,cx,av,cv,h.kept I hs hp⟩
def a9.lt (h:a9 o w p m):p < w.heap.size:=by obtain⟨aD,cx,av,cv,h⟩:=h;exact h.blk.lt
def Aq {p:Prop} (h:p:=by
 have U:=Z3 (D:=(·=p)) z h.own rfl 7 (ι a);have I:=U.et (K:=(·≠p)) fun _ h=>h
 exact⟨U,h.blk.set 7 _,h.own,h.ent.kept I U.size,h.v.kept I U.size⟩):p:=h
def b'.state (h:b' o w p m aD cx av cv) (z:Wf o w) (a):J (·=p) o w o (σ w p 7 (ι a):World)∧b' o (σ w p 7 (ι a)) p {m with at_:=a} aD cx av cv:=by exact Aq
def be (W p:Nat) (m':bP) (wm':aH) (L:List Nat) (b:Bool) (o:ab) (w:World) (e:Ending) (w':World):Prop:=∃o',J (fun k=>k∈L∨k=p) o w o' w'∧aT w.heap.size W wm' L o' w'∧a9 o' w' p m'∧e= .returned (.bool b)
def eO (W:Nat) (wm':aH) (L:List Nat) (v0:Value) (o:ab) (w:World) (v:Value) (w':World):Prop:=v=v0∧∃o',J (·∈L) o w o' w'∧aT w.heap.size W wm' L o' w'
def Ar {p:Prop} (h:p:=by
 have ah:=z.BD an;have ae:=ah.BD U;obtain⟨L',H,h2⟩:=iq hS;have hs:=an.size;refine⟨o1,?_,⟨L',H.kept (aq.et (K:=(·≠p)) fun _ h=>h) aq.size fun k hk=>?_,fun k hk=>(h2 k hk).imp id fun h=>by omega⟩,hP,rfl⟩
 ·exact (an.same z (U.more ah fun _ _ h=>.inl h)).same z (aq.more ae fun _ _ h=>.inr h)
 ·rintro rfl
  rcases h2 k hk with h | h
  ·exact af h
  ·omega):p:=h
def be.Cd {O w1 G E o1 m1 b} (z:Wf o w) (an:J (fun k=>k∈L∨k=p) o w E O) (af:p∉L) (aQ:p < w.heap.size) (U:J (·∈L) E O o1 w1) (hS:aT (ν O) W wm' L o1 w1) (aq:J (·=p) o1 w1 o1 G) (hP:a9 o1 G p m1):be W p m1 wm' L b o w (.returned (.bool b)) G:=by exact Ar
def be.fin {O w1 G o1 m1 b} (z:Wf o w) (hb:Below (ν w) w O) (af:p∉L) (aQ:p < w.heap.size) (U:J (·∈L) o O o1 w1) (hS:aT (ν O) W wm' L o1 w1) (aq:J (·=p) o1 w1 o1 G) (hP:a9 o1 G p m1):be W p m1 wm' L b o w (.returned (.bool b)) G:=
 be.Cd z (Zb z hb) af aQ U hS aq hP
def As {p q:Prop} (k:q) (h:Zq q→p:=by
 intro mq;have c0:=ao.c 0 rfl;have c1:=a1.c 0 rfl;have c2:w.cell? (κ p 11)=ι m.n:=hP.blk.c 11 rfl;unfold aA at c0 c1;have HK:=χ (fun (w':World) (h:w'.heap[bw]? =w.heap[bw]? ∧w'.heap[bp]? =w.heap[bp]? ∧w'.heap[p]? =w.heap[p]?)=>(show w'.cell? (κ bw 0)=π W∧w'.cell? (κ bp 0)=π p∧w'.cell? (κ p 11)=ι m.n from⟨(aY h.1 0).trans c0,(aY h.2.1 0).trans c1,(aY h.2.2 _).trans c2⟩))
 have HT:=χ (fun w1 o1 (U:J (·∈L) o w.drew o1 w1)=>(show w1.heap[bw]? =w.heap[bw]? ∧w1.heap[bp]? =w.heap[bp]? ∧w1.heap[p]? =w.heap[p]? from
   ⟨(U.frozen bw ao.lt (fun q hq=>by rw[n1] at hq;cases hq)).1,(U.frozen bp a1.lt (fun q hq=>by rw[n2] at hq;cases hq)).1,(ZO (K:=(·=p)) U (fun q e=>by rw[e];exact af) p hP.blk.lt (fun q hq=>by rw[hP.own] at hq;cases hq;rfl)).1⟩))
 have aV:w.drew.heap[bw]? =w.heap[bw]? ∧w.drew.heap[bp]? =w.heap[bp]? ∧w.drew.heap[p]? =w.heap[p]? :=⟨rfl,rfl,rfl⟩;have HF:=χ (fun w1 o1 (U:J (·∈L) o w.drew o1 w1) (hS:aT w.drew.heap.size W wm' L o1 w1)=>(show eO W wm' L (.bool b) o w (.bool b) w1 from⟨rfl,o1,(Zb (D:=(·∈L)) z hd).same z U,hS⟩));revert c0 c1 c2 HK HT aV HF
 exact mq.u):p:=h ⟨k⟩
def yY {p:Prop} (h:p:=by
 have hE:=HF.out w1 o1 ak O;clear ak O hC;go_wp2_with fail;go_ret2
 exact⟨_,rfl,hE⟩):p:=h
def kS (z:Wf o w) (hI:aI o w W wm L) (hP:a9 o w p m) (af:p∉L) {b} (h:cN m.n wm=(.ok b,wm')) (bw bp) (ao:A w bw 27 [aA W]) (a1:A w bp 293 [aA p]) (n1:o bw=none) (n2:o bp=none) :
  Calls prog 336 #[π bw,π bp] w (fk (eO W wm' L (.bool b) o w)):=by
 obtain⟨aD,cx,av,cv,hP⟩:=hP;have hd:Below (ν w) w w.drew:=(Zj _ _).drew;have hC:=lp (z.below hd) (hI.below z hd) h;refine As ?_;intro c0 c1 c2 HK HT aV HF;clear h hI hP;go_enter func336,ntmps336;go_wp2_with fail;go_region_held3 (fun w'=>w'.cell? (κ bw 0)=π W∧w'.cell? (κ bp 0)=π p∧w'.cell? (κ p 11)=ι m.n)
   (first | with_reducible exact HK.out _ aV | with_reducible exact HK.out _ aS)
   (first
     | (go_at_call 337;(refine hC.mono ?_;rintro e w1 ⟨o1,ak,O,rfl⟩;have aS:=HT.out w1 o1 ak;dsimp only)))
 exact yY
def jq (z:Wf o w) (hI:aI o w W wm L) (hP:a9 o w p m) (af:p∉L) {b} (h:cR m.ent.sy wm=(.ok b,wm')) (bw bp) (ao:A w bw 27 [aA W]) (a1:A w bp 293 [aA p]) (n1:o bw=none) (n2:o bp=none) :
  Calls prog 343 #[π bw,π bp] w (fk (eO W wm' L (ι b) o w)):=by
 obtain⟨aD,cx,av,cv,hP⟩:=hP;have hd:Below (ν w) w w.drew:=(Zj _ _).drew;have hC:=xz (z.below hd) (hI.below z hd) h;have c0:=ao.c 0 rfl;have c1:=a1.c 0 rfl;have c2:w.cell? (κ p 0)=ι m.ent.sy:=hP.blk.c 0 rfl;unfold aA at c0 c1;have HK:=χ (fun (w':World) (h:w'.heap[bw]? =w.heap[bw]? ∧w'.heap[bp]? =w.heap[bp]? ∧w'.heap[p]? =w.heap[p]?)=>(show w'.cell? (κ bw 0)=π W∧w'.cell? (κ bp 0)=π p∧w'.cell? (κ p 0)=ι m.ent.sy from⟨(aY h.1 0).trans c0,(aY h.2.1 0).trans c1,(aY h.2.2 _).trans c2⟩))
 have HT:=χ (fun w1 o1 (U:J (·∈L) o w.drew o1 w1)=>(show w1.heap[bw]? =w.heap[bw]? ∧w1.heap[bp]? =w.heap[bp]? ∧w1.heap[p]? =w.heap[p]? from
   ⟨(U.frozen bw ao.lt (fun q hq=>by rw[n1] at hq;cases hq)).1,(U.frozen bp a1.lt (fun q hq=>by rw[n2] at hq;cases hq)).1,(ZO (K:=(·=p)) U (fun q e=>by rw[e];exact af) p hP.blk.lt (fun q hq=>by rw[hP.own] at hq;cases hq;rfl)).1⟩))
 have aV:w.drew.heap[bw]? =w.heap[bw]? ∧w.drew.heap[bp]? =w.heap[bp]? ∧w.drew.heap[p]? =w.heap[p]? :=⟨rfl,rfl,rfl⟩;have HF:=χ (fun w1 o1 (U:J (·∈L) o w.drew o1 w1) (hS:aT w.drew.heap.size W wm' L o1 w1)=>(show eO W wm' L (ι b) o w (ι b) w1 from⟨rfl,o1,(Zb (D:=(·∈L)) z hd).same z U,hS⟩));clear h hI hP;go_enter func343,ntmps343;go_wp2_with fail;go_region_held3 (fun w'=>w'.cell? (κ bw 0)=π W∧w'.cell? (κ bp 0)=π p∧w'.cell? (κ p 0)=ι m.ent.sy)
   (first | with_reducible exact HK.out _ aV | with_reducible exact HK.out _ aS)
   (first
     | (go_at_call 344;(refine hC.mono ?_;rintro e w1 ⟨o1,ak,O,rfl⟩;have aS:=HT.out w1 o1 ak;dsimp only)))
 exact yY
def kI (z:Wf o w) (hI:aI o w W wm L) (hP:a9 o w p m) (af:p∉L) {b} (h:dg m.n wm=(.ok b,wm')) (bw bp) (ao:A w bw 27 [aA W]) (a1:A w bp 293 [aA p]) (n1:o bw=none) (n2:o bp=none) :
  Calls prog 349 #[π bw,π bp] w (fk (eO W wm' L (.bool b) o w)):=by
 obtain⟨aD,cx,av,cv,hP⟩:=hP;have hd:Below (ν w) w w.drew:=(Zj _ _).drew;have hC:=sL (z.below hd) (hI.below z hd) h;refine As ?_;intro c0 c1 c2 HK HT aV HF;clear h hI hP;go_enter func349,ntmps349;go_wp2_with fail;go_region_held3 (fun w'=>w'.cell? (κ bw 0)=π W∧w'.cell? (κ bp 0)=π p∧w'.cell? (κ p 11)=ι m.n)
   (first | with_reducible exact HK.out _ aV | with_reducible exact HK.out _ aS)
   (first
     | (go_at_call 350;(refine hC.mono ?_;rintro e w1 ⟨o1,ak,O,rfl⟩;have aS:=HT.out w1 o1 ak;dsimp only)))
 exact yY
def yh {p q:Prop} (k:q) (h:Zq q→p:=by
 intro mq;have n0:o w.heap.size=none:=z.ge (Zc _);have n1:o (w.heap.size+1)=none:=z.ge ω;have aM:=z.below b2;have I:=(tB z b2).kp;have ac:=hI.below z b2;have aF:=hP.kept I b2.size trivial;revert n0 n1 aM I ac aF
 exact mq.u):p:=h ⟨k⟩
def yZ {p q:Prop} (k:q) (h:Zq q→p:=by
 intro mq;have aa:=(tB ax ah).kp;obtain⟨aD,cx,av,cv,aq⟩:=ad.kept aa ah.size trivial;have ao:J (·∈L) o G o3 M:=ag.same aM (Zb ax ah);have aR:aT (ν G) W wm' L o3 M:=yw;revert aa aD cx av cv aq ao aR
 exact mq.u):p:=h ⟨k⟩
def yi {p q:Prop} (k:q) (h:Zq q→p:=by
 intro mq;obtain⟨w1,ae,z1,b1,O⟩:=al1 w 293 [aA p];obtain⟨G,ap,-,b2,Z,au⟩:=al2 b1 z1 27 [aA W];revert w1 ae z1 b1 O G ap b2 Z au
 exact mq.u):p:=h ⟨k⟩
def y' {p:Prop} (h:p:=by
 have H:=((ao.frozen (ν w) K0.out.lt (fun q hq=>by rw[n0] at hq;cases hq)).1)
 exact (aY H 0).trans (K0.out.c 0 rfl)):p:=h
def yw {p:Prop} (h:p:=by
 obtain⟨L',H,h2⟩:=iq aV
 exact⟨L',H.kept aa ah.size fun _ _=>Zk,h2⟩):p:=h
def tX (z:Wf o w) (hI:aI o w W wm L) (hP:a9 o w p m) (af:p∉L) (h:cN m.n wm=(.ok true,wm')):Calls prog 304 #[π p,π W] w (be W p {m with at_:=2} wm' L false o w):=by refine yi ?_;intro w1 ae z1 b1 O G ap b2 Z au;replace O:=au _ _ _ O;clear au;refine yh ?_;intro n0 n1 aM I ac aF;have aG:=iI 336 #[π (η w),ϖ w] G _ Ψ (kS aM ac aF af h _ _ Z O n1 n0);have aQ:=hP.lt;have bi:=χ aF;have K0:=χ O;clear hP hI ac aF h Z n1 I;unfold aA at *;go_enter func304,ntmps304;go_wp2_with fail;refine aG.mono ?_;rintro e M ⟨v,E,rfl,⟨rfl,o3,ag,aV⟩,ah⟩;have ax:=aM.BD ag;have ad:=bi.out.kept (ag.et (K:=(·=p)) fun q e=>by rw[e];exact af) ag.size rfl;refine yZ ?_;intro aa aD cx av cv aq ao aR;have aK:=ax.below ah;have c0:M.cell? (κ (ν w) 0)=π p:=y';have c7:M.cell? (κ p 7)=ι m.at_:=aq.blk.c 7 rfl;have f7:M.frozen? (κ p 7)=false:=aq.blk.fz 7;obtain⟨t1,t2⟩:=aq.state aK 2;have HF:=χ (be.fin (b:=false) z b2 af aQ ao aR t1 ⟨aD,cx,av,cv,t2⟩);clear t1 t2 ao aR aq ag aV ad aG;go_wp2_with fail;go_ret;exact HF.out
def At {p:Prop} (h:p:=by
 go_wp2_with fail;refine aG.mono ?_;rintro e M ⟨v,E,rfl,⟨rfl,o3,ag,aV⟩,ah⟩;have ax:=aM.BD ag;have ad:=bi.out.kept (ag.et (K:=(·=p)) fun q e=>by rw[e];exact af) ag.size rfl;have aa:=(tB ax ah).kp;obtain⟨aD,cx,av,cv,aq⟩:=ad.kept aa ah.size trivial;have ao:J (·∈L) o G o3 M:=ag.same aM (Zb ax ah);have aR:aT (ν G) W wm' L o3 M:=by obtain⟨L',H,h2⟩:=iq aV;exact⟨L',H.kept aa ah.size fun _ _=>Zk,h2⟩
 have aK:=ax.below ah;have HF:=χ (be.fin (b:=false) z b2 af aQ ao aR (ZM _ aK) ⟨aD,cx,av,cv,aq⟩);clear ao aR aq ag aV ad aG;go_wp2_with fail;go_ret
 exact HF.out):p:=h
def oJ (z:Wf o w) (hI:aI o w W wm L) (hP:a9 o w p m) (af:p∉L) (h:cN m.n wm=(.ok false,wm')):Calls prog 304 #[π p,π W] w (be W p m wm' L false o w):=by refine yi ?_;intro w1 ae z1 b1 O G ap b2 Z au;replace O:=au _ _ _ O;clear au;refine yh ?_;intro n0 n1 aM I ac aF;have aG:=iI 336 #[π (η w),ϖ w] G _ Ψ (kS aM ac aF af h _ _ Z O n1 n0);have aQ:=hP.lt;have bi:=χ aF;clear hP hI ac aF h Z n1 I;unfold aA at *;go_enter func304,ntmps304;exact At
def Au {p q:Prop} (k:q) (h:Zq q→p:=by
 intro mq;refine yh ?_;intro n0 n1 aM I ac aF;have aQ:=hP.lt;obtain⟨ai,Y,V,aj,ay⟩:=aF;obtain⟨s1,s2⟩:=ay.state aM 10;have c0:G.cell? (κ (ν w) 0)=π p:=O.c 0 rfl;have c7:G.cell? (κ p 7)=ι m.at_:=ay.blk.c 7 rfl;have f7:G.frozen? (κ p 7)=false:=ay.blk.fz 7;have O:=(s1.frozen.BF O n0).1;have Z:=(s1.frozen.BF Z n1).1;have A:=ac.kept (s1.et (K:=(·≠p)) fun _ h=>h) s1.size fun k hk e=>af (e ▸ hk);have az:=aM.BD s1;have an:J (fun k=>k∈L∨k=p) o w o (σ G p 7 (ι 10)):=(Zb z b2).same z (s1.more aM fun _ _ h=>.inr h);have aG:=iI 349 #[π (η w),ϖ w] _ _ Ψ (kI az A ⟨_,_,_,_,s2⟩ af h _ _ Z O n1 n0);revert n0 n1 aM I ac aQ ai Y V aj ay s1 s2 c0 c7 f7 O Z A az an aG
 exact mq.u):p:=h ⟨k⟩
def Av {p q:Prop} (k:q) (h:Zq q→p:=by
 intro mq;have ax:=az.BD ag;have ad:=bv.out.kept (ag.et (K:=(·=p)) fun q e=>by rw[e];exact af) ag.size rfl;have aa:=(tB ax ah).kp;have aq:=ad.kept aa ah.size trivial;have ao:=ag.same az (Zb ax ah);have aR:aT (σ G p 7 (ι 10):World).heap.size W wm' L o3 M:=yw;have aK:=ax.below ah;revert ax ad aa aq ao aR aK
 exact mq.u):p:=h ⟨k⟩
def qb (z:Wf o w) (hI:aI o w W wm L) (hP:a9 o w p m) (af:p∉L) (h:dg m.n wm=(.ok true,wm')):Calls prog 311 #[π p,π W] w (be W p {m with at_:=9} wm' L false o w):=by refine yi ?_;intro w1 ae z1 b1 O G ap b2 Z au;replace O:=au _ _ _ O;clear au;refine Au ?_;intro n0 n1 aM I ac aQ ai Y V aj ay s1 s2 c0 c7 f7 O Z A az an aG;have K0:=χ O;have bv:=χ s2;have U:=χ an;clear hP hI ac ay h O Z n1 I s1 s2 A an;unfold aA at *;go_enter func311,ntmps311;go_wp2_with fail;refine aG.mono ?_;rintro e M ⟨v,E,rfl,⟨rfl,o3,ag,aV⟩,ah⟩;refine Av ?_;intro ax ad aa aq ao aR aK;have c0:M.cell? (κ (ν w) 0)=π p:=y';have c7:M.cell? (κ p 7)=ι 10:=aq.blk.c 7 rfl;have f7:M.frozen? (κ p 7)=false:=aq.blk.fz 7;obtain⟨t1,t2⟩:=aq.state aK 9;have HF:=χ (be.Cd (b:=false) z U.out af aQ ao aR t1 ⟨_,_,_,_,t2⟩);clear t1 t2 ao aR aq ag aV ad aG bv U;go_wp2_with fail;go_ret;exact HF.out
def ws (z:Wf o w) (hI:aI o w W wm L) (hP:a9 o w p m) (af:p∉L) (h:dg m.n wm=(.ok false,wm')):Calls prog 311 #[π p,π W] w (be W p {m with at_:=10} wm' L false o w):=by refine yi ?_;intro w1 ae z1 b1 O G ap b2 Z au;replace O:=au _ _ _ O;clear au;refine Au ?_;intro n0 n1 aM I ac aQ ai Y V aj ay s1 s2 c0 c7 f7 O Z A az an aG;have bv:=χ s2;have U:=χ an;clear hP hI ac ay h O Z n1 I s1 s2 A an;unfold aA at *;go_enter func311,ntmps311;go_wp2_with fail;refine aG.mono ?_;rintro e M ⟨v,E,rfl,⟨rfl,o3,ag,aV⟩,ah⟩;refine Av ?_;intro ax ad aa aq ao aR aK;have HF:=χ (be.Cd (b:=false) z U.out af aQ ao aR (ZM _ aK) ⟨_,_,_,_,aq⟩);clear ao aR aq ag aV ad aG bv U;go_wp2_with fail;go_ret;exact HF.out
end
end
end Go.Proofs.YtmchabopafimeaaGreatDoor
