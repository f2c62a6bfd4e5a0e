import Derived.Test.YtmchabopafimeaaGreatDoorQbc
import Derived.Lib.LaidTab
namespace Go.Proofs.YtmchabopafimeaaGreatDoor
set_option maxRecDepth 100000
set_option maxHeartbeats 16000000
set_option linter.all false
open Go.RowKit Go.Sort Tryz
attribute [local go_sem] Oper.semAt_some
structure hX (w:World):Prop where
 es:a6 eB w
 ef:bN eB w
 eb:b4 eB w
def hX.wa {w w'} (h:hX w) (hb:Below (ν w) w w'):WA w' eB w':=by have U:J Θ eB w eB w':=Zb (iv w) hb;exact⟨ZM _ (iv w'),h.es.kept U.frozen,h.ef.kept U.frozen,h.eb.kept U.frozen U.size⟩
def mH (w):(binOp .eql 58 (.agg #[ι 0,ι 0,ι 0]) (.agg #[ι 0,ι 0,ι 0])).run prog w= .ok (.bool true) w:=by kernel_rfl
def oB (w):(Instr.field 56 (.agg #[ζ]) 0).run prog w= .ok (.slice none 0 0) w:=by kernel_rfl
def lj (a b w):(binOp .eql 42 (.func (.func 28) #[] #[π a,π b]) Value.nilFunc).run prog w= .ok (.bool false) w:=by kernel_rfl
def By {p q:Prop} (k:q) (h:Zq q→p:=by
 intro mq;refine (wpIn_wide (n:=6)).1 (iF (gf:=28) (lb:=#[.pointer (some ⟨mb,0,none⟩),.pointer (some ⟨pb,0,none⟩)]) rfl (enters_of func28 ψ rfl) (k:=0) (B:=Θ) (R:=fun O W2=>Below O.heap.size O W2) (nK aA aj L aS 2 _) (fun _ h=>h.elim) (fun _ _=>True) (fun _ _ _ _ _=>Zk) trivial (fun j _ _ h=>absurd h (Nat.not_lt_zero j)) ?_)
 exact mq.u):p:=h ⟨k⟩
def Bz {p:Prop} (h:p:=by
 have a3:=HB.out.2.lt;have bh:(σ w9 (ν w) 0 (.bool true):World).heap[w6.heap.size]? =some (.deferred (some [])):=((Z0 _ _ _ _ Ω).trans (an.block _ a4)).trans hd;have aD:=(k9.set 0 (.bool true)).Ck (k:=w6.heap.size) (o:= .deferred none) ω;have bb:Below (ν w) w w9:=HB.out.1.trans (c9.mono HB.out.1.size);have I:Below (ν w) w ((σ w9 (ν w) 0 (.bool true):World).putObj (ν w6) (.deferred none)):=(bb.setCell (p:=κ (ν w) 0) (Zc _) (.bool true)).trans (Yh (YB (S:=(·=w6.heap.size)) rfl _) (ν w) (fun q hq e=>by omega) (by simpa using bb.size));refine⟨by simp,.inl ⟨_,_,rfl,run_takeDeferred bh,?_⟩⟩
 exact⟨.bool true,by simp[results,results3,go_sem,aD.c 0 rfl],rfl,I⟩):p:=h
def xF (z n zero w) (hE:hX w):Calls prog 3 #[.int .u64 z,ι n,.bool zero] w (ϑ (.bool true) w):=by
 refine callsIn_wide.1 (callsIn_of_wp_marks (n:=6) func3 rfl trivial ?_ rfl);simp only[ntmps3,List.size_toArray,List.length_cons,List.length_nil,Nat.reduceAdd,Nat.reduceSub,Array.replicate_succ,Array.replicate_zero,List.push_toArray,List.append_toArray,List.nil_append,List.cons_append];refine wpIn_wide.2 ?_;cases zero with
 | false=>
   obtain⟨w1,aP,z1,af,Z⟩:=al1 w 4 [Δ];have aa:=af;have HN:=χ (show ∀w',Below (ν w1) w1 w'→aL (.pointer none) w' from fun w' _=>jz w');have HB:=χ (Zf aa Z);have ay:=jZ (HN.out w1 (Zj _ _)) (.int .u64 z);clear af aa Z
   go_upto_region 5 with (go_at_call 4;go_loud (
      refine ay.mono ?_
      rintro e E ⟨rfl,ac⟩))
   have az:Below (ν w1) w1 E:=ac;obtain⟨x4,aJ⟩:∃u,E.alloc (.cells #[.int .u64 z] 22)=u:=⟨_,rfl⟩;have ah:Below (ν w1) w1 x4:=by rw[←aJ];exact az.alloc az.size _
   have ao:=kW (HN.out x4 ah) (.slice (Γ (ν E)) 1 1);have V:=oD (HN.out x4 ah) (ι n);clear az ac ay;go_upto_region 7 with first
    | (go_at_call 5;go_loud (refine γ ao ?_))
    | (go_at_call 6;go_loud (refine γ V ?_))
   clear ao V aJ;obtain⟨x5,a7⟩:∃u,x4.alloc (.cells #[.int .u64 z] 22)=u:=⟨_,rfl⟩;have ai:Below (ν w1) w1 x5:=by rw[←a7];exact ah.alloc ah.size _
   have ad:=mP (g:=x4.heap.size) (x:=z) (HN.out x5 ai) (by rw[←a7];exact Zh x4 _ _);clear ah
   go_upto_region 8 with (go_at_call 7;go_loud (
      refine ad.mono ?_
      rintro e w6 ⟨mb,pb,g6,aM,rfl,aw,aA,aj,L,aS⟩))
   clear ad a7;have aK:=lj;have aX:=ai.size;go_wp2_with fail;clear aK;refine By ?_;intro O W2 M aG ax hR _ H hd;have c0:Below (ν w1) w1 w6:=ai.trans (aw.mono aX);have c1:Below (ν w1) w1 O:=c0.trans (ds aG c0.size fun g hg=>by cases hg);have c2:Below (ν w1) w1 W2:=c1.trans (hR.mono c1.size);have bg:=c0.size;have c3:Below (ν w1) w1 M:=c2.trans (ds H c2.size fun g hg=>by injection hg with hg;omega);have a4:w6.heap.size < M.heap.size:=aO hd;clear aA aj L aS aG ax hR H c1 c2 ai aw;have U:=HN.out M c3;have aF:=ll U;have ak:=nn U;have am:=i7 U;have aq:=ld U;have Y:=lY U;have ab:=lO U;have J:=li U;have ap:=lP U;clear U;have aI:=mH;have ag:=oB;go_wp2_with first
    | (go_at_call 8;refine γ (gP _ _) ?_)
    | (go_at_call 9;refine γ aF ?_)
    | (go_at_call 10;refine γ ak ?_)
    | (go_at_call 11;refine γ am ?_)
    | (go_at_call 12;refine γ aq ?_)
    | (go_at_call 13;refine γ Y ?_)
    | (go_at_call 14;refine γ ab ?_)
    | (go_at_call 15;refine γ J ?_)
    | (go_at_call 16;go_loud (
       refine δ ap ?_;intro w7 ae;have c7:Below (ν w1) w1 w7:=c3.trans (ae.mono c3.size);have aC:=mM (HN.out w7 c7)
       clear aF ak am aq Y ab J ap))
    | (go_at_call 17;go_loud (
       refine δ aC ?_;intro w8 aY;have c8:Below (ν w1) w1 w8:=c7.trans (aY.mono c7.size);have aE:=it (HN.out w8 c8)
       have aH:=kJ (hE.wa (HB.out.1.trans (c8.mono HB.out.1.size)))))
    | (go_at_call 18;go_loud (refine γ aE ?_))
    | (go_at_call 19;go_loud (
       refine δ aH ?_;intro w9 aT;have an:Below M.heap.size M w9:=ae.trans ((aY.trans (aT.mono aY.size)).mono ae.size);have c9:Below (ν w1) w1 w9:=c3.trans (an.mono c3.size);have k9:A w9 (ν w) 4 [Δ]:=(c9.block _ HB.out.2.lt).trans HB.out.2;have q9:=k9.c 0 rfl
       have f9:=k9.fz 0))
   exact Bz
 | true=>
   obtain⟨w1,aP,z1,af,Z⟩:=al1 w 4 [Δ];obtain⟨G,aB,-,aa,km,au⟩:=al2 af z1 32 [ι 0,ι 0,ι 0,.pointer none,.pointer none,ζ,.int .u64 0,Δ,ζ,ζ];replace Z:=au _ _ _ Z;clear au;have HN:=χ (show ∀w',Below (ν G) G w'→aL (π (η w)) w' from fun w' hb=>(u1 km rfl).below hb);have HB:=χ (Zf aa Z);have ay:=jZ (HN.out G (Zj _ _)) (.int .u64 z);clear af aa Z km
   go_upto_region 5 with (go_at_call 4;go_loud (
      refine ay.mono ?_
      rintro e E ⟨rfl,ac⟩))
   have az:Below (ν G) G E:=ac;obtain⟨x4,aJ⟩:∃u,E.alloc (.cells #[.int .u64 z] 22)=u:=⟨_,rfl⟩;have ah:Below (ν G) G x4:=by rw[←aJ];exact az.alloc az.size _
   have ao:=kW (HN.out x4 ah) (.slice (Γ (ν E)) 1 1);have V:=oD (HN.out x4 ah) (ι n);clear az ac ay;go_upto_region 7 with first
    | (go_at_call 5;go_loud (refine γ ao ?_))
    | (go_at_call 6;go_loud (refine γ V ?_))
   clear ao V aJ;obtain⟨x5,a7⟩:∃u,x4.alloc (.cells #[.int .u64 z] 22)=u:=⟨_,rfl⟩;have ai:Below (ν G) G x5:=by rw[←a7];exact ah.alloc ah.size _
   have ad:=mP (g:=x4.heap.size) (x:=z) (HN.out x5 ai) (by rw[←a7];exact Zh x4 _ _);clear ah
   go_upto_region 8 with (go_at_call 7;go_loud (
      refine ad.mono ?_
      rintro e w6 ⟨mb,pb,g6,aM,rfl,aw,aA,aj,L,aS⟩))
   clear ad a7;have aK:=lj;have aX:=ai.size;go_wp2_with fail;clear aK;refine By ?_;intro O W2 M aG ax hR _ H hd;have c0:Below (ν G) G w6:=ai.trans (aw.mono aX);have c1:Below (ν G) G O:=c0.trans (ds aG c0.size fun g hg=>by cases hg);have c2:Below (ν G) G W2:=c1.trans (hR.mono c1.size);have bg:=c0.size;have c3:Below (ν G) G M:=c2.trans (ds H c2.size fun g hg=>by injection hg with hg;omega);have a4:w6.heap.size < M.heap.size:=aO hd;clear aA aj L aS aG ax hR H c1 c2 ai aw;have U:=HN.out M c3;have aF:=ll U;have ak:=nn U;have am:=i7 U;have aq:=ld U;have Y:=lY U;have ab:=lO U;have J:=li U;have ap:=lP U;clear U;have aI:=mH;have ag:=oB;go_wp2_with first
    | (go_at_call 8;refine γ (gP _ _) ?_)
    | (go_at_call 9;refine γ aF ?_)
    | (go_at_call 10;refine γ ak ?_)
    | (go_at_call 11;refine γ am ?_)
    | (go_at_call 12;refine γ aq ?_)
    | (go_at_call 13;refine γ Y ?_)
    | (go_at_call 14;refine γ ab ?_)
    | (go_at_call 15;refine γ J ?_)
    | (go_at_call 16;go_loud (
       refine δ ap ?_;intro w7 ae;have c7:Below (ν G) G w7:=c3.trans (ae.mono c3.size);have aC:=mM (HN.out w7 c7)
       clear aF ak am aq Y ab J ap))
    | (go_at_call 17;go_loud (
       refine δ aC ?_;intro w8 aY;have c8:Below (ν G) G w8:=c7.trans (aY.mono c7.size);have aE:=it (HN.out w8 c8)
       have aH:=kJ (hE.wa (HB.out.1.trans (c8.mono HB.out.1.size)))))
    | (go_at_call 18;go_loud (refine γ aE ?_))
    | (go_at_call 19;go_loud (
       refine δ aH ?_;intro w9 aT;have an:Below M.heap.size M w9:=ae.trans ((aY.trans (aT.mono aY.size)).mono ae.size);have c9:Below (ν G) G w9:=c3.trans (an.mono c3.size);have k9:A w9 (ν w) 4 [Δ]:=(c9.block _ HB.out.2.lt).trans HB.out.2;have q9:=k9.c 0 rfl
       have f9:=k9.fz 0))
   exact Bz
def gS:prog.globalNamed "betrothal/channel.sides" =some 1:=by kernel_rfl
def gB:prog.globalNamed "math/bits.deBruijn64tab" =some 0:=by kernel_rfl
def gF:prog.globalNamed "betrothal/force.bounds" =some 2:=by kernel_rfl
def zS:(((Go.begin prog (fun _ _=>0) default).world.heap[1]?).bind Obj.row?)=some (#[.int .i64 0,.int .i64 0],183):=by kernel_rfl
def zF:(((Go.begin prog (fun _ _=>0) default).world.heap[2]?).bind Obj.row?)=some (#[.int .i64 0,.int .i64 0,.int .i64 0],335):=by kernel_rfl
def lT {W:World} {z:String} {g:Nat} {t:TypeId} {O:Array Value} {zs:List Int} (h:W.ShapedOpen prog) (hn:prog.globalNamed z=some g) (hg:g < prog.globals.size)
  (hz:(((Go.begin prog (fun _ _=>0) default).world.heap[g]?).bind Obj.row?)=some (O,t)) (ht:Lib.TabIs prog W z .i64 zs):A W g t (zs.map fun O=>Value.int .i64 O):=by obtain⟨cs,hc,-⟩:=h.1 g O t hg hz;unfold Lib.TabIs World.var? at ht;rw[hn,Option.bind_some,hc] at ht;unfold A;rw[hc,Option.some.inj ht]
def un {W:World} {x y:Int} {l:List Int} (h:W.ShapedOpen prog) (hS:Lib.TabIs prog W "betrothal/channel.sides" .i64 [1,2]) (hF:Lib.TabIs prog W "betrothal/force.bounds" .i64 [32,x,y]) (hB:Lib.TabIs prog W "math/bits.deBruijn64tab" .u8 (0 :: 1 :: l)):hX W:=by have Z:=lT h gS (of_decide_eq_true ψ) zS hS;have k2:=lT h gF (of_decide_eq_true ψ) zF hF;exact⟨⟨Z,rfl⟩,⟨⟨x,y,k2⟩,rfl⟩,⟨Nat.lt_trans Nat.zero_lt_one Z.lt,rfl,hB.cell gB 0 ξ,hB.cell gB 1 ξ⟩⟩
theorem mnone_main (z n:Int) (zero:Bool) {W:World} {x y:Int} {l:List Int} (h:W.ShapedOpen prog) (hS:Lib.TabIs prog W "betrothal/channel.sides" .i64 [1,2]) (hF:Lib.TabIs prog W "betrothal/force.bounds" .i64 [32,x,y]) (hB:Lib.TabIs prog W "math/bits.deBruijn64tab" .u8 (0 :: 1 :: l)) :
  Calls prog 3 #[.int .u64 z,ι n,.bool zero] W fun e W'=>e= .returned (.bool true)∧Below W.heap.size W W':=xF z n zero W (un h hS hF hB)
end Go.Proofs.YtmchabopafimeaaGreatDoor
