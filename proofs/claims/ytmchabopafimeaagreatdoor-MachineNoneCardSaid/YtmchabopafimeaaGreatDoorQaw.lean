import Derived.Test.YtmchabopafimeaaGreatDoorQau
import Derived.Test.YtmchabopafimeaaGreatDoorQav
namespace Go.Proofs.YtmchabopafimeaaGreatDoor
set_option maxRecDepth 100000
set_option maxHeartbeats 16000000
set_option linter.all false
open Go.RowKit Go.Sort Tryz
section
inductive hV where
 | new (v:VT)
 | over (b:bI)
structure bW where
 fo:hV
 sy:Option bd
 v:VT
 after:Bool
inductive i9 where
 | act (F:ba)
 | meet (m:bW)
structure aS where
 num:Int
 parts:List i9
 over:Bool
 val:VT
def dv (o:ab) (w:World) (f:Nat) (m:hV):Prop:=match m with
 | .new v=>eh o w f v
 | .over b=>b.wr=[]∧b.nk=[]∧cX o w f b
def fZ (o:ab) (w:World) (y:Option bd) (p:Option Nat) (l:List Nat):Prop:=match y,p with
 | none,none=>l=[]
 | some s,some S=>a8 o w S s l
 | _,_=>False
def hN (f:Nat) (ps:Option Nat) (m:bW) (wa va:Option Addr) (wc vc:Nat):List Value:=[.pointer (some ⟨f,0,none⟩),.pointer (j2 ps),.slice wa 0 wc,.int .i64 m.v.kd,.int .i64 m.v.n,.slice va m.v.l.length vc,.bool m.after]
structure bU (o:ab) (w:World) (b:Nat) (m:bW) (f:Nat) (ps:Option Nat) (wa va:Option Addr) (wc vc:Nat) (l:List Nat):Prop where
 blk:A w b 217 (hN f ps m wa va wc vc)
 own:o b=some b
 fo:dv o w f m.fo
 val:aG (Fz o w) w m.v (.agg #[.int .i64 m.v.kd,.int .i64 m.v.n,.slice va m.v.l.length vc])
 sy:fZ o w m.sy ps l
 nf:b≠f
 nb:b∉l
 nl:f∉l
 wcm:wc≤maxLen
def c3 (o:ab) (w:World) (b:Nat) (m:bW) (ls:List Nat):Prop:=∃f ps wa va wc vc l,bU o w b m f ps wa va wc vc l∧ls=b :: f :: l
def el (o:ab) (w:World) (b c:Nat) (F:ba) (ls:List Nat):Prop:=∃g,A w b 207 [.pointer (some ⟨g,0,none⟩)]∧o b=none∧a1 o w g c F∧ls=[g]
structure PX where
 m:i9
 b:Nat
 ls:List Nat
def c6 (o:ab) (w:World) (c:Nat) (x:PX):Prop:=match x.m with
 | .act F=>el o w x.b c F x.ls
 | .meet m=>c3 o w x.b m x.ls
def a' (x:PX):Value:=match x.m with
 | .act _=>.iface 205 (.pointer (some ⟨x.b,0,none⟩))
 | .meet _=>.iface 213 (.pointer (some ⟨x.b,0,none⟩))
def n9 (x:PX) (cs:List Value):Prop:=cs=[a' x]
def io (x y:PX):Prop:=∀k∈x.ls,k∉y.ls
def nD (c:Nat) (t:aS) (n:Nat) (pa va:Option Addr) (pc vc:Nat):List Value:=[.pointer (some ⟨c,0,none⟩),.int .i64 t.num,.slice pa n pc,.bool t.over,.bool false,.int .i64 t.val.kd,.int .i64 t.val.n,.slice va t.val.l.length vc]
structure ay (o:ab) (w:World) (T c:Nat) (t:aS) (xs:List PX) (pa va:Option Addr) (pc vc:Nat):Prop where
 blk:A w T 101 (nD c t xs.length pa va pc vc)
 own:o T=some T
 pts:t.parts=xs.map PX.m
 row:ax n9 o w T 103 1 (.slice pa xs.length pc) xs
 ok:∀x∈xs,c6 o w c x
 dis:xs.Pairwise io
 nt:∀x∈xs,T∉x.ls
 few:xs.length≤64
 val:aG (Fz o w) w t.val (.agg #[.int .i64 t.val.kd,.int .i64 t.val.n,.slice va t.val.l.length vc])
def aB (T:Nat) (xs:List PX):List Nat:=T :: xs.flatMap PX.ls
def a7 (o:ab) (w:World) (T c:Nat) (t:aS) (Ls:List Nat):Prop:=∃xs pa va pc vc,ay o w T c t xs pa va pc vc∧Ls=aB T xs
section
variable {o o':ab} {w w':World} {K:Nat→Prop} {b c f g T:Nat} {m:bW} {ps:Option Nat} {wa va pa:Option Addr} {wc vc pc:Nat} {l ls Ls:List Nat} {F:ba} {x x':PX} {xs ys:List PX} {t:aS}
def dv.kept {m} (h:dv o w f m) (I:aM K o w o' w') (hs:w.heap.size≤w'.heap.size) (hf:K f):dv o' w' f m:=by
 cases m with
 | new v=>exact eh.kept h I hs hf
 | over b=>exact⟨h.1,h.2.1,h.2.2.kept I hs hf⟩
def dv.lt {m} (h:dv o w f m):f < w.heap.size:=by
 cases m with
 | new v=>obtain⟨g,a,cc,H,h2,-⟩:=h;exact H.lt
 | over b=>obtain⟨-,-,r,cc,H,h2,-⟩:=h;exact H.lt
def fZ.kept {y} (h:fZ o w y ps l) (I:aM K o w o' w') (hs:w.heap.size≤w'.heap.size) (hl:∀k∈l,K k):fZ o' w' y ps l:=by
 match y,ps,h with
 | none,none,h=>exact h
 | some s,some S,h=>exact YA h I hs hl
def fZ.lt {y} (h:fZ o w y ps l):∀k∈l,k < w.heap.size:=by
 match y,ps,h with
 | none,none,h=>intro k hk;rw[h] at hk;cases hk
 | some s,some S,h=>exact a8.lt h
def bU.kept (h:bU o w b m f ps wa va wc vc l) (I:aM K o w o' w') (hs:w.heap.size≤w'.heap.size) (hb:K b) (hf:K f) (hl:∀k∈l,K k):bU o' w' b m f ps wa va wc vc l:=by obtain⟨H,h2⟩:=I.blk h.blk h.own hb;exact⟨H,h2,h.fo.kept I hs hf,h.val.kept I hs,h.sy.kept I hs hl,h.nf,h.nb,h.nl,h.wcm⟩
def c3.kept (h:c3 o w b m ls) (I:aM K o w o' w') (hs:w.heap.size≤w'.heap.size) (hl:∀k∈ls,K k):c3 o' w' b m ls:=by obtain⟨f,ps,wa,va,wc,vc,l,h,rfl⟩:=h;exact⟨f,ps,wa,va,wc,vc,l,h.kept I hs (hl b ξ) (hl f ξ) (fun k hk=>hl k (by simp[hk])),rfl⟩
def c3.lt (h:c3 o w b m ls):∀k∈ls,k < w.heap.size:=by
 obtain⟨f,ps,wa,va,wc,vc,l,h,rfl⟩:=h;intro k hk;simp only[List.mem_cons] at hk;rcases hk with rfl | rfl | hk
 ·exact h.blk.lt
 ·exact h.fo.lt
 ·exact h.sy.lt k hk
def el.kept (h:el o w b c F ls) (I:aM K o w o' w') (hs:w.heap.size≤w'.heap.size) (hl:∀k∈ls,K k):el o' w' b c F ls:=by obtain⟨g,H,h2,h3,rfl⟩:=h;obtain⟨Z,k2⟩:=I.fz hs ⟨h2,H.lt⟩;exact⟨g,k2.trans H,Z.1,h3.kept I hs (hl g ξ),rfl⟩
def el.lt (h:el o w b c F ls):∀k∈ls,k < w.heap.size:=by obtain⟨g,H,h2,h3,rfl⟩:=h;intro k hk;rw[List.mem_singleton.1 hk];exact h3.lt
def c6.kept (h:c6 o w c x) (I:aM K o w o' w') (hs:w.heap.size≤w'.heap.size) (hl:∀k∈x.ls,K k):c6 o' w' c x:=by
 obtain⟨m,b,ls⟩:=x;cases m with
 | act F=>exact el.kept h I hs hl
 | meet m=>exact c3.kept h I hs hl
def c6.lt (h:c6 o w c x):∀k∈x.ls,k < w.heap.size:=by
 obtain⟨m,b,ls⟩:=x;cases m with
 | act F=>exact el.lt h
 | meet m=>exact c3.lt h
def bC {k}:k∈aB T xs↔k=T∨∃x∈xs,k∈x.ls:=by simp[aB]
def ay.kept (h:ay o w T c t xs pa va pc vc) (I:aM K o w o' w') (hs:w.heap.size≤w'.heap.size) (hl:∀k∈aB T xs,K k):ay o' w' T c t xs pa va pc vc:=by have U:K T:=hl T (by simp[aB]);obtain⟨H,h2⟩:=I.blk h.blk h.own U;exact⟨H,h2,h.pts,h.row.kept I U fun _ _ e=>e,fun x hx=>(h.ok x hx).kept I hs fun k hk=>hl k (bC.2 (.inr ⟨x,hx,hk⟩)),h.dis,h.nt,h.few,h.val.kept I hs⟩
def ay.lt (h:ay o w T c t xs pa va pc vc):∀k∈aB T xs,k < w.heap.size:=by
 intro k hk;rcases bC.1 hk with rfl | ⟨x,hx,hk⟩
 ·exact h.blk.lt
 ·exact (h.ok x hx).lt k hk
def a7.kept (h:a7 o w T c t Ls) (I:aM K o w o' w') (hs:w.heap.size≤w'.heap.size) (hl:∀k∈Ls,K k):a7 o' w' T c t Ls:=by obtain⟨xs,pa,va,pc,vc,h,rfl⟩:=h;exact⟨xs,pa,va,pc,vc,h.kept I hs hl,rfl⟩
def a7.lt (h:a7 o w T c t Ls):∀k∈Ls,k < w.heap.size:=by obtain⟨xs,pa,va,pc,vc,h,rfl⟩:=h;exact h.lt
def ay.CO (h:ay o w T c t (ys ++ [x]) pa va pc vc) (I:aM (fun k=>k∈aB T (ys ++ [x])∧k∉x.ls) o w o' w') (hs:w.heap.size≤w'.heap.size) (hx:c6 o' w' c x') (hv:a' x'=a' x) (hn:∀k∈x'.ls,k∈x.ls∨w.heap.size≤k) :
    ay o' w' T c {t with parts:=ys.map PX.m ++ [x'.m]} (ys ++ [x']) pa va pc vc:=by
  have G:=h.nt x ξ;have A:T∈aB T (ys ++ [x])∧T∉x.ls:=⟨by simp[aB],G⟩;obtain⟨H,h2⟩:=I.blk h.blk h.own A;have am:=ZK.1 h.dis;have aE:=h.row.kept I A fun _ _ e=>e;have aI:(ys ++ [x']).length=(ys ++ [x]).length:=by simp
  refine⟨?_,h2,by simp,?_,?_,?_,?_,by rw[aI];exact h.few,h.val.kept I hs⟩
  ·rw[aI];exact H
  ·rw[aI]
   obtain⟨rs,r1,r2⟩:=aE;refine⟨rs,by rw[aI];exact r1,by rw[aI];exact r2.1,fun j O hz=>?_⟩;rcases ZN j ys.length with hj | hj
   ·rw[List.getElem?_append_left hj] at hz
    exact r2.2 j O (by rw[List.getElem?_append_left hj];exact hz)
   ·have z:j=ys.length:=by
     have:=(Ze.1 hz).1;simp at this;omega
    subst z;obtain rfl:x'=O:=by simpa using hz
    have:=r2.2 ys.length x ξ
    show _=_
    rw[hv];exact this
  ·intro O hz
   rcases Zv.1 hz with hz | hz
   ·exact (h.ok O (Zm _ hz)).kept I hs fun k hk=>⟨bC.2 (.inr ⟨O,Zm _ hz,hk⟩),am.2.2 O hz x ξ k hk⟩
   ·rw[List.mem_singleton.1 hz];exact hx
  ·refine ZK.2 ⟨am.1,by simp,fun O hz y hy k hk E=>?_⟩
   rw[List.mem_singleton.1 hy] at E;rcases hn k E with e | e
   ·exact am.2.2 O hz x ξ k hk e
   ·have:=(h.ok O (Zm _ hz)).lt k hk
    omega
  ·intro O hz hk
   rcases Zv.1 hz with hz | hz
   ·exact h.nt O (Zm _ hz) hk
   ·rw[List.mem_singleton.1 hz] at hk
    rcases hn T hk with e | e
    ·exact G e
    ·have:=h.blk.lt
     omega
def ay.top (h:ay o w T c t (ys ++ [x]) pa va pc vc) (U:J (·∈x.ls) o w o' w') (hx:c6 o' w' c x') (hv:a' x'=a' x) (hn:∀k∈x'.ls,k∈x.ls∨w.heap.size≤k) :
  ay o' w' T c {t with parts:=ys.map PX.m ++ [x'.m]} (ys ++ [x']) pa va pc vc:=h.CO (U.et fun _ h=>h.2) U.size hx hv hn
end
end
section
def jS (b w):(Instr.typeAssert (.iface 205 (.pointer b)) 103 205 true).run prog w= .ok (.tuple #[.pointer b,Υ]) w:=by kernel_rfl
def jL (b w):(Instr.typeAssert (.iface 213 (.pointer b)) 103 213 true).run prog w= .ok (.tuple #[.pointer b,Υ]) w:=by kernel_rfl
def jY (b w):(Instr.typeAssert (.iface 213 (.pointer b)) 103 205 true).run prog w= .ok (.tuple #[.pointer none,Δ]) w:=by kernel_rfl
def p1 (b w):(Instr.typeAssert (.iface 205 (.pointer b)) 103 213 true).run prog w= .ok (.tuple #[.pointer none,Δ]) w:=by kernel_rfl
def mF (w):(Instr.typeAssert .nilIface 103 205 true).run prog w= .ok (.tuple #[.pointer none,Δ]) w:=by kernel_rfl
def my (w):(Instr.typeAssert .nilIface 103 213 true).run prog w= .ok (.tuple #[.pointer none,Δ]) w:=by kernel_rfl
section
variable {o:ab} {w w':World} {c T:Nat} {pa va:Option Addr} {pc vc:Nat} {x:PX} {xs ys:List PX} {t:aS}
def gn (h:ay o w T c t xs pa va pc vc):Calls prog 46 #[π T] w (μ (.bool false) w):=by have c0:=h.blk.c 0 rfl;clear h;go_enter func46,ntmps46;go_wp2_with fail;go_ret;exact⟨rfl,rfl⟩
def c8 (w):Calls prog 129 #[Υ] w (μ (.tuple #[]) w):=by go_enter func129,ntmps129;go_wp2_with fail;refine xQ ?_;exact⟨rfl,rfl⟩
def i' (h:ay o w T c t [] pa va pc vc):Calls prog 104 #[π T] w fun e w'=>e= .returned .nilIface∧w=w':=by have hn:=gn h;have c2:=h.blk.c 2 rfl;clear h;go_enter func104,ntmps104;go_wp2_with (go_at_call 46;refine γ hn ?_);go_ret;exact⟨rfl,rfl⟩
def fg (h:ay o w T c t (ys ++ [x]) pa va pc vc):Calls prog 104 #[π T] w (ϑ (a' x) w):=by
 have hn:=gn h;have c2:=h.blk.c 2 rfl;obtain⟨a,cap,e,e1,e2,aE⟩:=h.row.form;injection e with e3 _ e4;subst e3 e4;obtain⟨E,cs,rfl,-,-,-,hc,-,I⟩:=aE ys.length x ξ;have d0:=hc 0 ω;rw[show cs=[a' x] from I] at d0;rw[Nat.mul_one,Nat.add_zero,List.getElem?_cons_zero] at d0;have aI:(ys ++ [x]).length=ys.length+1:=by simp
 have hl:ys.length < 64:=by have:=h.few;omega
 rw[aI] at c2 e1;generalize ys.length=n at *;generalize a' x=v at *;clear h aE hc I aI;go_enter func104,ntmps104;go_upto_region 3 with (go_at_call 46;refine γ hn ?_);go_quiet (fail);go_wp2_with fail;go_ret;exact⟨rfl,⟨rfl,rfl,rfl,Zc _,fun _ _=>rfl⟩⟩
def i1 {F g} (h:ay o w T c t (ys ++ [x]) pa va pc vc) (hm:x.m= .act F) (hg:A w x.b 207 [π g]):Calls prog 94 #[π T] w (ϑ (π g) w):=by
 have ht:=fg h;have hv:a' x= .iface 205 (π x.b):=by unfold a';rw[hm]
 rw[hv] at ht;have hl:=hg.lt;have c0:=hg.c 0 rfl;clear h hm hv hg;generalize x.b=b at *;have L:=jS (some ⟨b,0,none⟩);go_enter func94,ntmps94;go_wp2_with (go_at_call 104;refine δ ht ?_;intro w1 hb;have c0:=(hb.cell (p:=κ b 0) hl).trans c0);go_ret;exact⟨rfl,hb⟩
def qo {m} (h:ay o w T c t (ys ++ [x]) pa va pc vc) (hm:x.m= .meet m):Calls prog 94 #[π T] w (ϑ (.pointer none) w):=by
 have ht:=fg h;have hv:a' x= .iface 213 (π x.b):=by unfold a';rw[hm]
 rw[hv] at ht;clear h hm hv;generalize x.b=b at *;have L:=jY (some ⟨b,0,none⟩);go_enter func94,ntmps94;go_wp2_with (go_at_call 104;refine δ ht ?_;intro w1 hb);go_ret;exact⟨rfl,hb⟩
def oN (h:ay o w T c t [] pa va pc vc):Calls prog 94 #[π T] w (ϑ (.pointer none) w):=by have ht:=i' h;clear h;have L:=mF;go_enter func94,ntmps94;go_wp2_with (go_at_call 104;refine γ ht ?_);go_ret;exact⟨rfl,Zj _ _⟩
def gU {m} (h:ay o w T c t (ys ++ [x]) pa va pc vc) (hm:x.m= .meet m):Calls prog 111 #[π T] w (ϑ (π x.b) w):=by
 have ht:=fg h;have hv:a' x= .iface 213 (π x.b):=by unfold a';rw[hm]
 rw[hv] at ht;clear h hm hv;generalize x.b=b at *;have L:=jL (some ⟨b,0,none⟩);go_enter func111,ntmps111;go_wp2_with (go_at_call 104;refine δ ht ?_;intro w1 hb);go_ret;exact⟨rfl,hb⟩
def uk {F} (h:ay o w T c t (ys ++ [x]) pa va pc vc) (hm:x.m= .act F):Calls prog 111 #[π T] w (ϑ (.pointer none) w):=by
 have ht:=fg h;have hv:a' x= .iface 205 (π x.b):=by unfold a';rw[hm]
 rw[hv] at ht;clear h hm hv;generalize x.b=b at *;have L:=p1 (some ⟨b,0,none⟩);go_enter func111,ntmps111;go_wp2_with (go_at_call 104;refine δ ht ?_;intro w1 hb);go_ret;exact⟨rfl,hb⟩
def rN (h:ay o w T c t [] pa va pc vc):Calls prog 111 #[π T] w (ϑ (.pointer none) w):=by have ht:=i' h;clear h;have L:=my;go_enter func111,ntmps111;go_wp2_with (go_at_call 104;refine γ ht ?_);go_ret;exact⟨rfl,Zj _ _⟩
end
end
section
structure a0 where
 kind:Int
 step:Int
 th:Int
 sy:Int
 br:Int
 pa:Int
 n:Int
 v:VT
def dI (e:a0) (a:Option Addr) (c:Nat):List Value:=[.int .i64 e.kind,.int .i64 e.step,.int .i64 e.th,.int .i64 e.sy,.int .i64 e.br,.int .i64 e.pa,.int .i64 e.n,.int .i64 e.v.kd,.int .i64 e.v.n,.slice a e.v.l.length c]
def bA (ok:Nat→Prop) (w:World) (e:a0) (cs:List Value):Prop:=∃a c,cs=dI e a c∧aG ok w e.v (.agg #[.int .i64 e.v.kd,.int .i64 e.v.n,.slice a e.v.l.length c])
def cO (t:aS) (k:Int):a0:=⟨k,0,t.num,0,0,0,0,vZ⟩
def qD {w w1} (h:Below (ν w) w w1) (us):Below (ν w) w (a3 w1 (ν w) 0 us):=h.trans (Yh (aE (S:=(·=w.heap.size)) rfl 0 us w1) (ν w) (fun q hq e=>by omega) h.size)
def r4:(prog.info? 103).map (fun i=>(i.zero,i.size,i.bytes))=some (some .nilIface,1,16):=by kernel_rfl
section
variable {o o':ab} {w w' V:World} {c T:Nat} {pa va:Option Addr} {pc vc:Nat} {x:PX} {xs ys:List PX} {t t':aS}
def ay.cells (h:ay o w T c t xs pa va pc vc) (z:Wf o w) (hF:Fr (·=T) w w') {bi bf} (hp:t'.parts=t.parts) (hb:A w' T 101 (nD c t' xs.length pa bi pc bf)) (hv:aG (Fz o w) w t'.val (.agg (υ t'.val bi bf))) :
  J (·=T) o w o w'∧ay o w' T c t' xs pa bi pc bf:=by have U:J (·=T) o w o w':=Z9 z hF fun q _ hq=>⟨T,by rw[hq];exact h.own,rfl⟩;have I:=U.et (K:=(·≠T)) fun _ h=>h;refine⟨U,hb,h.own,hp.trans h.pts,?_,fun x hx=>(h.ok x hx).kept I U.size fun k hk e=>h.nt x hx (e ▸ hk),h.dis,h.nt,h.few,hv.kept I U.size⟩;obtain⟨rs,H,h2⟩:=h.row;refine⟨rs,⟨H.row.et fun g hg ad=>hF.block g ad fun e=>bq h.blk H.row φ (by rw[hg,e]),H.own⟩,h2⟩
def ay.BM (h:ay o w T c t xs pa va pc vc) (z:Wf o w) (hx:c6 o w c x) (hd:∀O∈xs,io O x) (U:T∉x.ls) (hl:xs.length < 64) {rs} (aX:aD n9 1 xs rs) (aH:aw o w T 103 1 (.slice pa xs.length pc) xs.length rs) {g5 cap} (hr:aQ V 103 1 (.slice (Γ g5) (xs.length+1) cap) (xs.length+1) (rs ++ [a' x])) (hg:w.grownBy V (Value.slice pa xs.length pc).ownBlock) (ha:(Value.slice pa xs.length pc).ownBlock=some g5∨g5=w.heap.size) :
  ∃o5,J (·=T) o w o5 (σ V T 2 (.slice (Γ g5) (xs.length+1) cap):World)∧ay o5 (σ V T 2 (.slice (Γ g5) (xs.length+1) cap)) T c {t with parts:=t.parts ++ [x.m]} (xs ++ [x]) (some ⟨g5,0,none⟩) va cap vc:=by
 obtain⟨t1,t2⟩:=aH.BM z h.blk.lt hr hg ha;have aL:=z.BD t1;have Y:(Value.slice pa xs.length pc).ownBlock≠some T:=bq h.blk aH.row φ;have E:g5≠T:=by
  rcases ha with e | e
  ·intro e2;rw[e2] at e;exact Y e
  ·have:=h.blk.lt;omega
 have Z:V.heap[T]? =w.heap[T]? :=hg.block T h.blk.lt (fun e=>Y e.symm);have k2:o.set g5 (some T) T=o T:=by
  rcases ha with e | e
  ·exact Y2 _ _ (fun e2=>E e2.symm)
  ·exact Y2 _ _ (fun e2=>E e2.symm)
 have ai:A V T 101 _:=Z.trans h.blk;have aj:o.set g5 (some T) T=some T:=k2.trans h.own;have t3:=Z3 (D:=(·=T)) aL aj rfl 2 (.slice (Γ g5) (xs.length+1) cap);have t4:=t1.same z t3;have aa:=t4.et (K:=(·≠T)) fun _ h=>h;have az:∀y∈xs ++ [x],c6 o w c y∧T∉y.ls:=by
  intro y hy;rcases Zv.1 hy with hy | hy
  ·exact⟨h.ok y hy,h.nt y hy⟩
  ·rw[List.mem_singleton.1 hy];exact⟨hx,U⟩
 refine⟨_,t4,?_,aj,by simp[h.pts],?_,fun y hy=>(az y hy).1.kept aa t4.size fun k hk e=>(az y hy).2 (e ▸ hk),?_,fun y hy=>(az y hy).2,by simp;omega,h.val.kept aa t4.size⟩
 ·have:=ai.set 2 (.slice (Γ g5) (xs.length+1) cap)
  rw[List.length_append];exact this
 ·refine⟨rs ++ [a' x],?_,aX.push rfl rfl⟩
  rw[List.length_append];exact t2.BH (by simp[Value.ownBlock];exact E) _ _
 ·rw[List.pairwise_append]
  refine⟨h.dis,ZU _ _,fun y hy O hz=>?_⟩;rw[List.mem_singleton.1 hz];exact hd y hy
def ay.CL {E} (h:ay o w T c t (ys ++ [x]) (some ⟨E,0,none⟩) va pc vc) (z:Wf o w) :
  J (·=T) o w o (σ w T 2 (.slice (Γ E) ys.length ys.length):World)∧ay o (σ w T 2 (.slice (Γ E) ys.length ys.length)) T c {t with parts:=ys.map PX.m} ys (some ⟨E,0,none⟩) va ys.length vc:=by
 have U:=Z3 (D:=(·=T)) z h.own rfl 2 (.slice (Γ E) ys.length ys.length);have I:=U.et (K:=(·≠T)) fun _ h=>h;refine⟨U,h.blk.set 2 _,h.own,rfl,?_,fun y hy=>(h.ok y (Zm _ hy)).kept I U.size fun k hk e=>h.nt y (Zm _ hy) (e ▸ hk),(ZK.1 h.dis).1,fun y hy=>h.nt y (Zm _ hy),(by have:=h.few;simp at this;omega),h.val.kept I U.size⟩;obtain⟨rs,H,h2⟩:=h.row;obtain⟨a,cap,e,e1,-,-⟩:=h.row.form;injection e with _ _ e3;subst e3;have aI:(ys ++ [x]).length=ys.length+1:=by simp
 have hc:=H.row.cut (m:=ys.length) (c:=ys.length) ω (Zc _) ω;have aK:=h2.take ys.length;rw[List.take_left] at aK;refine⟨rs.take (ys.length*1),⟨?_,fun q hq=>?_⟩,aK⟩
 ·exact hc.et fun b hb _=>Z0 _ _ _ _ (fun e=>bq h.blk hc φ (by rw[hb,e]))
 ·exact H.own q hq
def ay.addr (h:ay o w T c t (ys ++ [x]) pa va pc vc):∃E,pa=some ⟨E,0,none⟩:=by obtain⟨a,cap,e,-,-,aE⟩:=h.row.form;injection e with e3 _ e4;subst e3;obtain⟨E,cs,e,-⟩:=aE ys.length x ξ;exact⟨E,e⟩
def sQ (T c:Nat) (t':aS) (ys:List PX) (va:Option Addr) (vc:Nat) (o:ab) (w:World) (e:Ending) (w':World):Prop:=e= .returned (.tuple #[])∧J (·=T) o w o w'∧∃pa pc,ay o w' T c t' ys pa va pc vc
def k' (z:Wf o w) (h:ay o w T c t (ys ++ [x]) pa va pc vc):Calls prog 147 #[π T] w (sQ T c {t with parts:=ys.map PX.m} ys va vc o w):=by
 obtain⟨E,rfl⟩:=h.addr;obtain⟨-,-,-,-,c2,f2,-⟩:=kb2 h.blk;obtain⟨a,cap,e,e1,e2,-⟩:=h.row.form;injection e with e3 _ e4;subst e3 e4;have hP:=χ (h.CL z);have aI:(ys ++ [x]).length=ys.length+1:=by simp
 have hl:ys.length < 64:=by have:=h.few;omega
 rw[aI] at c2 e1;clear h aI;generalize ys.length=n at *;go_enter func147,ntmps147;go_wp2_with fail;refine xQ ?_;exact⟨rfl,hP.out.1,_,_,hP.out.2⟩
def wj (T c:Nat) (t':aS) (ys:List PX) (va:Option Addr) (vc:Nat) (o:ab) (w:World) (e:Ending) (w':World):Prop:=e= .returned (.tuple #[])∧∃o' pa pc,J (·=T) o w o' w'∧ay o' w' T c t' ys pa va pc vc
def um (z:Wf o w) (h:ay o w T c t xs pa va pc vc) (hx:c6 o w c x) (hd:∀O∈xs,io O x) (U:T∉x.ls) (hl:xs.length < 64):Calls prog 150 #[π T,a' x] w (wj T c {t with parts:=t.parts ++ [x.m]} (xs ++ [x]) va vc o w):=by
 obtain⟨w1,aP,-,af,Y⟩:=al1 w 103 [a' x];have ak:J (·=T) o w o w1:=Zb z af;have I:=(tB z af).kp;have H:=h.kept I af.size fun _ _=>Zk;have aC:=hx.kept I af.size fun _ _=>Zk;have ae:=z.below af;have c2:=h.blk.c 2 rfl;obtain⟨rs,r1,r2⟩:=H.row;have aE:=r1.row;have ai:∀u∈[a' x],u.oneCell'=true:=by
  intro u hu;rw[List.mem_singleton.1 hu];unfold a'
  split <;> rfl
 have aW:w1.heap[w.heap.size]? =some (.cells ([a' x]:List Value).toArray 103 (0,0)):=Y;have HP:=χ (fun (g5 cap:Nat) V (q1:aQ V 103 1 (.slice (Γ g5) (xs.length+1) cap) (xs.length+1) (rs ++ [a' x])) (q2:w1.grownBy V (Value.slice pa xs.length pc).ownBlock) (q3:(Value.slice pa xs.length pc).ownBlock=some g5∨g5=w1.heap.size)=>H.BM ae aC hd U hl r2 r1 q1 q2 q3);have HW:=χ z;have aF:=χ ak;have L:=χ (show ∀q,(Value.slice pa xs.length pc).ownBlock=some q→q≠T from fun q hq e=>bq H.blk r1.row φ (by rw[hq,e]));have ac:=χ H.blk;have hq:decide ((xs.length:Int) < 64)=true:=Zy ω;have aA:xs.length≤10000000000:=ω;clear h H hx aC I r1 r2 Y ak z ae hd U af;obtain⟨E,G⟩:∃E,a' x= .iface E (π x.b):=by
  unfold a'
  split
  ·exact⟨_,rfl⟩
  ·exact⟨_,rfl⟩
 rw[G] at aP HP ai aW ⊢;clear G;generalize x.b=b at *;generalize xs.length=n at *;go_enter func150,ntmps150;go_wp2_with first
  | (go_at_call 129;refine γ (c8 w) ?_)
  | (at_builtin
     refine dU _ rfl _ _ 99 103 _ 1 16 underlying99 r4 rfl φ φ rfl _ n rs rfl aE (ν w) [.iface E (π b)] rfl aW rfl ai aA ?_;intro g5 a0 V q1 q2 q3 q4;have Z:A V T 101 _:=(q2.block T ac.out.lt (fun e=>L.out T e.symm rfl)).trans ac.out;obtain⟨-,-,-,-,d5,f5,-⟩:=kb2 Z;have HQ:=χ (HP.out _ _ _ q1 q2 q3)
     clear q1 q2 q3 Z)
 refine xQ ?_;obtain⟨o5,t5,a5⟩:=HQ.out;exact⟨rfl,o5,_,_,aF.out.same HW.out t5,a5⟩
def jg (h:ay o w T c t xs pa va pc vc) (k):Calls prog 108 #[π T,ι k] w (ϑ (.agg (dI (cO t k) none 0).toArray) w):=by obtain⟨w1,aP,-,af,Y⟩:=al1 w 88 [ι 0,ι 0,ι 0,ι 0,ι 0,ι 0,ι 0,ι 0,ι 0,ζ];have c1:=(af.cell (p:=κ T 1) h.blk.lt).trans (h.blk.c 1 rfl);obtain⟨z0,y0,z1,y1,z2,y2,z3,y3,z4,y4,z5,y5,z6,y6,z7,y7,z8,y8,z9,y9,-⟩:=kb9 Y;have HK:=χ Y;have HB:=χ af;clear h Y af;go_enter func108,ntmps108;go_wp2_with fail;have hp:A (σ10 w1 (ν w) (ι k) (ι 0) (ι t.num) (ι 0) (ι 0) (ι 0) (ι 0) (ι 0) (ι 0) (.slice none 0 0)) (ν w) 88 [ι k,ι 0,ι t.num,ι 0,ι 0,ι 0,ι 0,ι 0,ι 0,ζ]:=aW [(0,ι k),(1,ι 0),(2,ι t.num),(3,ι 0),(4,ι 0),(5,ι 0),(6,ι 0),(7,ι 0),(8,ι 0),(9,ζ)] w1 _ HK.out;have hb:Below (ν w) w (σ10 w1 (ν w) (ι k) (ι 0) (ι t.num) (ι 0) (ι 0) (ι 0) (ι 0) (ι 0) (ι 0) (.slice none 0 0)):=qD HB.out [(0,ι k),(1,ι 0),(2,ι t.num),(3,ι 0),(4,ι 0),(5,ι 0),(6,ι 0),(7,ι 0),(8,ι 0),(9,ζ)];exact Zl (v:= .agg #[ι k,ι 0,ι t.num,ι 0,ι 0,ι 0,ι 0,ι 0,ι 0,ζ]) (by simp[results,results108,go_sem,hp.c 0 rfl,hp.c 1 rfl,hp.c 2 rfl,hp.c 3 rfl,hp.c 4 rfl,hp.c 5 rfl,hp.c 6 rfl,hp.c 7 rfl,hp.c 8 rfl,hp.c 9 rfl]) rfl ⟨rfl,hb⟩
end
end
section
def bG (o:ab) (w:World) (b:Nat) (l:List a0):Prop:=∃(a:Option Addr) (c:Nat),A w b 29 [.slice a l.length c]∧o b=some b∧ax (bA (Fz o w) w) o w b 88 10 (.slice a l.length c) l
def cB (o:ab) (w:World) (es:List a0) (a:Option Addr):Prop:=aU (bA (Fz o w) w) (· < w.heap.size) w 10 es a
def hJ:(prog.info? 88).map (fun i=>(i.zero,i.size,i.bytes))=some (some (.agg #[ι 0,ι 0,ι 0,ι 0,ι 0,ι 0,ι 0,ι 0,ι 0,ζ]),10,96):=by kernel_rfl
section
variable {o o':ab} {w w':World} {b:Nat} {l es:List a0} {K:Nat→Prop}
def bA.kept {e cs} (h:bA (Fz o w) w e cs) (I:aM K o w o' w') (hs:w.heap.size≤w'.heap.size):bA (Fz o' w') w' e cs:=by obtain⟨a,c,H,h2⟩:=h;exact⟨a,c,H,h2.kept I hs⟩
def bG.kept (h:bG o w b l) (I:aM K o w o' w') (hs:w.heap.size≤w'.heap.size) (hb:K b):bG o' w' b l:=by obtain⟨a,c,H,h2,h3⟩:=h;obtain⟨Z,k2⟩:=I.blk H h2 hb;exact⟨a,c,Z,k2,h3.kept I hb fun _ _ h=>h.kept I hs⟩
def bG.lt (h:bG o w b l):b < w.heap.size:=by obtain⟨a,c,H,-⟩:=h;exact H.lt
def cB.nil (o w a):cB o w [] a:=Ym _ _ _ _ _
def bA.one {ok e cs} (h:bA ok w e cs):∀u∈cs,u.oneCell'=true:=by obtain⟨a,c,rfl,-⟩:=h;intro u hu;simp only[dI,List.mem_cons,List.not_mem_nil,or_false] at hu;rcases hu with rfl | rfl | rfl | rfl | rfl | rfl | rfl | rfl | rfl | rfl <;> rfl
def cB.cells {a} (h:cB o w es a):∃ys,aD (bA (Fz o w) w) 10 es ys∧(0 < es.length→∃p,a=some p)∧∀p,a=some p→∀(j:Nat) u,ys[j]? =some u→w.cell? (p.add j)=some u:=by
 cases es with
 | nil=>exact⟨[],Ya _ _,(fun h=>by simp at h),fun p _ j u hu=>by simp at hu⟩
 | cons e r=>obtain⟨g,U,cs,rfl,-⟩:=h 0 e rfl;obtain⟨xs,H,h2⟩:=aU.cells h;refine⟨xs,H,fun _=>⟨_,rfl⟩,fun p hp j u hu=>?_⟩;injection hp with hp;subst hp;rw[Addr.add_plain];exact h2 j u hu
def hP (b:Nat) (l:List a0) (o:ab) (w:World) (e:Ending) (w':World):Prop:=e= .returned (.tuple #[])∧∃o',J (·=b) o w o' w'∧bG o' w' b l
def iN (z:Wf o w) (h:bG o w b l) {a c} (Y:cB o w es a) (hl:l.length≤1000000) (he:es.length≤1000000):Calls prog 106 #[.slice a es.length c,π b] w (hP b (l ++ es) o w):=by
 obtain⟨la,lc,H,h2,rs,r1,r2⟩:=h;obtain⟨ys,y1,y2,y3⟩:=Y.cells;have c0:=H.c 0 rfl;have aE:=r1.row;have ai:∀u∈ys,u.oneCell'=true:=y1.all (fun x cs hc=>hc.one) φ;have aj:=y1.1
 have ak:=χ (fun (v':Value) w' (q1:aQ w' 88 10 v' (l.length+es.length) (rs ++ ys)) (q2:w.grownBy w' (Value.slice la l.length lc).ownBlock) (q3:∀g,v'.ownBlock=some g→(Value.slice la l.length lc).ownBlock=some g∨g=w.heap.size)=>
   (show hP b (l ++ es) o w (.returned (.tuple #[])) (σ w' b 0 v':World)∧w'.frozen? (κ b 0)=false∧w'.cell? (κ b 0)=some (.slice la l.length lc) by
     obtain⟨o1,t1,g1,Z⟩:=r1.Cl z H.lt q1 q2 q3;have ay:(Value.slice la l.length lc).ownBlock≠some b:=bq H r1.row φ;obtain⟨e1,e2⟩:=Z b H.lt ay;have af:A w' b 29 [.slice la l.length lc]:=e1.trans H;have O:o1 b=some b:=e2.trans h2;have ae:=z.BD t1;have t2:=Z3 (D:=(·=b)) ae O rfl 0 v';have t3:=t1.same z t2;have aU:=t3.et (K:=(·≠b)) fun _ h=>h;have bg:=t2.et (K:=(·≠b)) fun _ h=>h;have E:v'.ownBlock≠some b:=bq af g1.row φ;obtain⟨a',aA,rfl,-⟩:=g1.row.form;have aI:(l ++ es).length=l.length+es.length:=List.length_append;refine⟨⟨rfl,o1,t3,a',aA,by rw[aI];exact af.set 0 _,O,rs ++ ys,by rw[aI];exact g1.BH E 0 _,?_⟩,af.fz 0,af.c 0 rfl⟩
     exact (r2.mono fun x cs hc=>hc.kept aU t3.size).app (y1.mono fun x cs hc=>hc.kept aU t3.size)))
 clear H h2 r1 r2 Y y1 z;generalize l.length=n at *;generalize es.length=m at *;go_enter func106,ntmps106
 go_wp2_with (at_builtin
              refine jP _ rfl _ _ 29 88 _ 10 96 underlying29 hJ rfl φ φ rfl _ n rs rfl aE m _ ω _ ys rfl y2 y3 aj ai ω ?_;intro v' w' q1 q2 q3;obtain⟨va,vc,rfl,-,-,-⟩:=q1.form;obtain⟨a1,a8,a7⟩:=ak.out _ w' q1 q2 q3;have HF:=χ a1
              clear a1 q1 q2 q3)
 refine xQ ?_;exact HF.out
end
end
def bB (t:aS) (m:i9):aS:={t with parts:=t.parts.dropLast ++ [m]}
def b7 (t:aS):Option ba:=match t.parts.getLast? with
 | some (.act F)=>some F
 | _=>none
def dy (t:aS):Option bW:=match t.parts.getLast? with
 | some (.meet m)=>some m
 | _=>none
def f9 (p:List Fn) (F:ba) (v:VT):Option ba:=if F.st=2∧right v=true∧pB p F.fs v=true then some (eQ p F.fs v) else none
def eM (p:List Fn) (F:ba):Option (Option ih):=if F.st=2 then (if jB p F=true then some (fP p F) else none) else some none
def f2 (p:List Fn) (t:aS):Option Int:=match t.parts.getLast? with
 | none=>none
 | some (.act F)=>(eM p F).bind fun w=>match w with
   | none=>some 1
   | some x=>if x.kind=1 then some 2 else if x.kind=2 then some 3 else none
 | some (.meet m)=>match m.sy with
   | some _=>some 7
   | none=>match m.fo with
     | .new _=>some 4
     | .over _=>some 6
def jA (p:List Fn) (t:aS):Option aS:=(b7 t).bind fun F=>if jy p F=true then (ja p F).map fun F'=>bB t (.act F') else none
def i4 (p:List Fn) (t:aS) (wm:aH):Option (aS×aH×List a0):=(b7 t).bind fun F=>match cw wm with
 | (.ok n,wm')=>if 0≤n∧n < 1000000 then (f9 p F (.mk 4 n [])).map fun F'=>(bB t (.act F'),wm',[{cO t 2 with n:=n}]) else none
 | _=>none
def i5 (p:List Fn) (t:aS) (next:Int):Option (aS×List a0):=(b7 t).bind fun F=>if 0≤next∧next < 1000000 then (f9 p F (iZ next)).map fun F'=>(bB t (.act F'),[{cO t 1 with n:=next}]) else none
def jF (m:hV):Option hV:=match m with
 | .new v=>if v.kd=6 then (v.l[0]?).map fun x=>.over ⟨6,x.n,vZ,[],[]⟩
   else if v.kd=5 then (v.l[0]?).bind fun x=>(v.l[1]?).map fun y=>.over ⟨5,x.n,y,[],[]⟩ else none
 | .over _=>none
def jn (t:aS):Option aS:=(dy t).bind fun m=>if m.sy.isNone=true then (jF m.fo).map fun f=>bB t (.meet {m with fo:=f}) else none
def g2 (th:Int) (b:bI) (wm:aH):Option (Option (bd×aH)):=if 0≤th∧th < 1000000∧dt wm [] b=true∧b.wr=[]∧b.nk=[]∧small b.v=true then
  match b3 th [b] [] wm with
  | (.ok own,wm1)=>match h9 ⟨none,3,own,0,1,none,0⟩ wm1 with
    | (.ok s,wm')=>if s.at_≠0 then some (some (s,wm')) else none
    | _=>none
  | (.error k,_)=>if k=6 then some none else none
 else none
def hr (t:aS) (wm:aH):Option (Option (aS×aH×List a0)):=(dy t).bind fun m=>if m.sy.isNone=true then match m.fo with
  | .over b=>(g2 t.num b wm).map fun r=>r.map fun x=>(bB t (.meet {m with sy:=some x.1}),x.2,[{cO t 4 with sy:=x.1.own}])
  | .new _=>none
 else none
def fE (wm:aH) (s:Int):Option a0:=match eI wm with
 | (.ok _,_)=>match az s wm with
   | (.ok x,_)=>if 0≤x.br then match x.bases[x.br.toNat]? with
       | some b=>if b.kd=5 then some ⟨5,0,x.th,s,x.br,x.pa,b.n,b.v⟩ else if b.kd=6 then some ⟨5,0,x.th,s,x.br,x.pa,b.n,x.v⟩ else none
       | none=>none
     else none
   | _=>none
 | _=>none
def jj (mv:db) (wm:aH):Option (List a0):=if mv.kind=3 then (fE wm mv.sync).bind fun a=>if 0≤mv.partner then (fE wm mv.partner).map fun b=>[a,b] else none
 else if mv.kind=4 then none else some []
def jN (t:aS) (wm:aH):Option (aS×aH×List a0):=(dy t).bind fun m=>m.sy.bind fun s=>match oF s wm with
 | (.ok (s',mv),wm')=>(jj mv wm').map fun l=>(bB t (.meet {m with sy:=some s'}),wm',l)
 | _=>none
def iO (p:List Fn) (t:aS) (F:ba):Option (aS×List a0×Bool):=
 if F.st=4 then none
 else if F.st=3 then (if small F.val=true then match t.parts.dropLast.getLast? with
   | some (.meet _)=>none
   | _=>some ({t with parts:=t.parts.dropLast,over:=true,val:=F.val},[{cO t 8 with v:=F.val}],true)
  else none)
 else (eM p F).bind fun w=>match w with
  | none=>some (t,[],false)
  | some x=>if x.kind=3 then match x.args[0]? with
      | some v=>if eX v=true∧small v=true∧t.parts.length < 64 then some ({t with parts:=t.parts ++ [.meet ⟨.new v,none,vZ,false⟩]},[],true) else none
      | none=>none
    else some (t,[],false)
def ix (s:bd) (wm:aH):Option cd:=if s.at_=6 then match eI wm with
  | (.ok _,_)=>match az s.own wm with
    | (.ok x,_)=>if x.done=true then some x else none
    | _=>none
  | _=>none
 else none
def iY (p:List Fn) (wx:Option aH) (t:aS) (m:bW):Option (aS×List a0×Bool):=match m.sy with
 | none=>some (t,[],false)
 | some s=>if m.after=false then (if s.at_=6 then (wx.bind (ix s)).bind fun x=>match m.fo with
       | .over b=>if x.br=0∧small b.v=true then some (bB t (.meet {m with v:=x.v,after:=true}),[],true) else none
       | .new _=>none
     else if s.at_=0 then none else some (t,[],false))
   else if small m.v=true∧s.at_≠0 then match t.parts.dropLast.getLast? with
    | some (.act F)=>(f9 p F m.v).map fun F'=>({t with parts:=t.parts.dropLast.dropLast ++ [.act F']},[{cO t 7 with sy:=s.own,v:=m.v}],true)
    | _=>none
   else none
def kr (p:List Fn) (wx:Option aH) (t:aS):Option (aS×List a0×Bool):=match t.parts.getLast? with
 | none=>some (t,[],false)
 | some (.act F)=>iO p t F
 | some (.meet m)=>iY p wx t m
def e5 (p:List Fn) (wx:Option aH):Nat→aS→Option (aS×List a0)
 | 0,_=>none
 | f+1,t=>(kr p wx t).bind fun r=>if r.2.2=true then (e5 p wx f r.1).map fun q=>(q.1,r.2.1 ++ q.2) else some (r.1,r.2.1)
inductive t1 where
 | ok (t:aS) (wm:aH) (es:List a0)
 | full
def gy (p:List Fn) (t:aS) (wm:aH) (next:Int):Option (Option (aS×aH×List a0)):=(f2 p t).bind fun d=>
 if d=1 then (jA p t).map fun t'=>some (t',wm,[])
 else if d=2 then (i4 p t wm).map some
 else if d=3 then (i5 p t next).map fun r=>some (r.1,wm,r.2)
 else if d=4 then (jn t).map fun t'=>some (t',wm,[])
 else if d=6 then hr t wm
 else if d=7 then (jN t wm).map some else none
def eL (p:List Fn) (t:aS) (wm:aH) (next:Int):Option t1:=if t.over=true then none else (gy p t wm next).bind fun r=>match r with
 | none=>some .full
 | some x=>(e5 p (some x.2.1) 8 x.1).map fun q=>.ok q.1 x.2.1 (x.2.2 ++ q.2)
def k4 (p:List Fn) (f:Nat) (args:List VT):Bool:=match p[f]? with
 | some fn=>decide (fn.ps=args.length) && decide (args.length≤1000) && decide (p.length≤1000000) && args.all right && df p dJ [⟨f,0,args,[]⟩]
 | none=>false
def gz (p:List Fn) (num:Int) (f:Nat) (args:List VT):Option aS:=if k4 p f args=true∧0≤num∧num < 1000000 then (e5 p none 8 ⟨num,[.act (cJ p dJ [⟨f,0,args,[]⟩])],false,vZ⟩).bind fun q=>if q.2.length=0 then some q.1 else none else none
def gH (t:aS) (wm:aH):Option Bool:=if t.over=true then some false else match t.parts.getLast? with
 | some (.meet m)=>match m.sy with
   | some s=>if s.at_=3 then match eI wm with
       | (.ok _,_)=>match az s.own wm with
         | (.ok x,_)=>some (!x.parked)
         | _=>none
       | _=>none
     else some true
   | none=>some true
 | _=>some true
structure bg where
 cells:Int
 threads:Int
 fuel:Int
 p:List Fn
 w:aH
 ths:List aS
 runs:List Nat
 full:Bool
 trace:List a0
 turns:List (List Nat×Nat)
def dj (wm:aH):Nat→List aS→Option (List Nat)
 | _,[]=>some []
 | i,t :: r=>(gH t wm).bind fun b=>(dj wm (i+1) r).map fun l=>if b=true then i :: l else l
def fU (p:List Fn) (cells threads fuel:Int):Option bg:=
 if bS p=true∧1≤cells∧cells≤65536∧1≤threads∧threads≤64∧0≤fuel∧fuel≤1048576 then (gz p 0 0 []).bind fun t=>
  let w:aH:=⟨cells.toNat,[],0,[],[],[]⟩
  (dj w 0 [t]).map fun l=>⟨cells,threads,fuel,p,w,[t],l,false,[],[]⟩
 else none
def cI (m:bg):Int:=if m.full=true then 3 else if m.fuel≤(m.turns.length:Int) then 4 else if m.runs.length=0 then 2 else 1
def gq (m:bg) (t:aS) (next:Int):Option (List aS):=match t.parts.getLast? with
 | some (.act F)=>(eM m.p F).bind fun w=>match w with
   | some x=>if x.kind=2∧0≤next then (if 0≤x.fn then (gz m.p next x.fn.toNat x.args).map fun y=>[y] else none) else some []
   | none=>some []
 | _=>some []
def qv {w f st v1 v2 v3} (h:A w f 280 [ι st,v1,v2,v3]) (h0:st≠0) (h2:st≠2):Calls prog 151 #[π f] w (ϑ (.tuple #[.agg #[ι 0,ζ],Δ]) w):=by
 obtain⟨w1,aP,-,af,Y⟩:=al1 w 242 [ι 0,ζ];have hf:=(af.block f h.lt).trans h;have hn:=g3 (w:=w1) hf h0;have c0:=Zz (w:=w1) hf 0 rfl;obtain⟨z0,y0,z1,y1,-⟩:=kb1 Y;have hq:(st != 2)=true:=by simp[h2]
 have HK:=χ Y;have HB:=χ af;clear h Y af h0 h2 hf;go_enter func151,ntmps151;go_wp2_with (go_at_call 145;refine γ hn ?_);have hp:A (σ2 w1 (ν w) (ι 0) (.slice none 0 0)) (ν w) 242 [ι 0,ζ]:=(HK.out.set 0 _).set 1 _;have hb:Below (ν w) w (σ2 w1 (ν w) (ι 0) (.slice none 0 0)):=(HB.out.setCell (p:=κ (ν w) 0) (Zc _) _).setCell (p:=κ (ν w) 1) (Zc _) _;exact Zl (v:= .tuple #[.agg #[ι 0,ζ],Δ]) (by simp[results,results151,go_sem,hp.c 0 rfl,hp.c 1 rfl]) rfl ⟨rfl,hb⟩
def mh {w f st v1 v2} (h:A w f 280 [ι st,v1,v2,ζ]) (h0:st≠0):Calls prog 137 #[π f] w fun e w'=>∃a c,e= .returned (.slice a 0 c)∧c≤maxLen∧Below (ν w) w w':=by
 have hn:=g3 h h0;have c3:=h.c 3 rfl;have aG:=fI [] none 0 w (Ym _ _ _ _ _) ξ;clear h h0;go_enter func137,ntmps137;go_wp2_with first
  | (go_at_call 145;refine γ hn ?_)
  | (go_at_call 86;refine aG.mono ?_;rintro e M ⟨al,cl,rfl,ah,-,-,aS⟩)
 go_ret;exact⟨_,_,rfl,aS,ah⟩
def kv {o w f b} (h:cX o w f b) (hS:c7 b):Calls prog 141 #[π f] w (dX bh 7 [b] w):=by
 obtain⟨r,c,hb,-,-,-,aK⟩:=h;have hn:=g3 hb φ;have c2:=hb.c 2 rfl;have z:aU (bh (ο w) w) (ο w) w 7 [b] (some ⟨r,0,none⟩):=aK.et (fun _ _ _=>rfl) (fun _ h=>h.2) fun x cs hc=>eE _ _ _ _ _ _ hc (fun _ _ _=>rfl) fun _ h=>h.2;have hC:=wa 188 [b] (some ⟨r,0,none⟩) c w z ξ Ψ fun x cs wx hx _ hc=>lf x cs wx hc (by rw[List.mem_singleton.1 hx];exact hS);clear hb aK z hS;go_enter func141,ntmps141;go_wp2_with first
  | (go_at_call 145;refine γ hn ?_)
  | (go_at_call 187;refine hC.mono ?_;rintro e M ⟨al,cl,rfl,ah,q1,q2,q3⟩)
 go_ret;exact⟨_,_,rfl,ah,q1,q2,q3⟩
def o7 (b:bI) (w:World) (e:Ending) (w':World):Prop:=∃g a c,e= .returned (.func (.func 197) #[] #[.pointer (some ⟨g,0,none⟩)])∧Below w.heap.size w w'∧A w' g 124 [.slice a 1 c]∧aU (bh (· < w'.heap.size) w') (· < w'.heap.size) w' 7 [b] a∧w.heap.size≤g∧1≤c∧c≤maxLen
def xg {o w f b} (h:cX o w f b) (hS:c7 b):Calls prog 154 #[π f] w (o7 b w):=by have hC:=kv h hS;clear h hS;go_enter func154,ntmps154;go_wp2_with (go_at_call 141;refine hC.mono ?_;rintro e w1 ⟨al,cl,rfl,hb,q1,q2,q3⟩;dsimp only[List.length_cons,List.length_nil,Nat.reduceAdd] at q2 ⊢);go_ret;have aa:=am w1 (.cells #[.slice al 1 cl] 124);refine⟨_,al,cl,rfl,hb.trans (aa.mono hb.size),Zh w1 _ _,?_,hb.size,q2,q3⟩;exact q1.et (fun g hg q=>aa.cell (p:=κ g q) hg.2) (fun g hg=>Za hg.2 aa.size) fun x cs hc=>eE _ _ _ _ _ _ hc (fun g hg q=>aa.cell (p:=κ g q) hg.2) fun g hg=>Za hg.2 aa.size
section
section
variable {o o' o2:ab} {w w' w1 G:World} {W T c:Nat} {t t':aS} {wm wm':aH} {L L' Ls Ls':List Nat} {F:ba} {p:List Fn} {m:bW} {es:List a0}
def ao (W T c:Nat) (t':aS) (wm':aH) (L Ls:List Nat) (o:ab) (w:World) (o':ab) (w':World) (L' Ls':List Nat):Prop:=J (fun k=>k∈L∨k∈Ls) o w o' w'∧aI o' w' W wm' L'∧a7 o' w' T c t' Ls'∧(∀k∈L',k∈L∨w.heap.size≤k)∧(∀k∈Ls',k∈Ls∨w.heap.size≤k)∧(∀k∈Ls',k∉L')
def b8 (W T c:Nat) (t':aS) (wm':aH) (es:List a0) (L Ls:List Nat) (o:ab) (w:World) (e:Ending) (w':World):Prop:=∃o' L' Ls' a cp,ao W T c t' wm' L Ls o w o' w' L' Ls'∧e= .returned (.slice a es.length cp)∧cB o' w' es a
def a7.below (h:a7 o w T c t Ls) (z:Wf o w) (hb:Below (ν w) w w1):a7 o w1 T c t Ls:=h.kept (kB z hb) hb.size fun _ _=>Zk
def a1.below {g} (h:a1 o w g c F) (z:Wf o w) (hb:Below (ν w) w w1):a1 o w1 g c F:=h.kept (kB z hb) hb.size trivial
def bz.below (h:bz o w c p) (z:Wf o w) (hb:Below (ν w) w w1):bz o w1 c p:=h.kept (kB z hb) hb.size
def ao.Ct (hI:aI o w W wm L) (hd:∀k∈Ls,k∉L) (U:J (·∈Ls) o w o' w') (ht:a7 o' w' T c t' Ls') (hn:∀k∈Ls',k∈Ls∨w.heap.size≤k) (z:Wf o w):ao W T c t' wm L Ls o w o' w' L Ls':=by
 have b9:=hI.lt;have ak:J (fun k=>k∈L∨k∈Ls) o w o' w':=U.more z fun _ _ h=>.inr h;have I:aM (fun k=>k∉Ls) o w o' w':=U.et fun _ h=>h;have aJ:aI o' w' W wm L:=hI.kept I U.size fun k hk e=>hd k e hk;refine⟨ak,aJ,ht,fun k hk=>.inl hk,hn,fun k hk E=>?_⟩;rcases hn k hk with h | h
 ·exact hd k h E
 ·have:=b9 k E;omega
def m6 {xs r m} (h:xs.map PX.m=r ++ [m]):∃ys x,xs=ys ++ [x]∧ys.map PX.m=r∧x.m=m:=by rw[List.map_eq_append_iff] at h;obtain⟨ys,zs,rfl,H,h2⟩:=h;obtain⟨x,z,rfl,e1,e2⟩:=List.map_eq_cons_iff.1 h2;obtain rfl:=List.map_eq_nil_iff.1 e2;exact⟨ys,x,rfl,H,e1⟩
def tt (h:b7 t=some F):∃r,t.parts=r ++ [.act F]:=by
 unfold b7 at h
 split at h
 ·next F' e=>cases h;exact gd e
 ·cases h
def tw (h:dy t=some m):∃r,t.parts=r ++ [.meet m]:=by
 unfold dy at h
 split at h
 ·next F' e=>cases h;exact gd e
 ·cases h
def a7.act (h:a7 o w T c t Ls) (z:Wf o w) (hF:b7 t=some F):∃ys x pa va pc vc g,ay o w T c t (ys ++ [x]) pa va pc vc∧Ls=aB T (ys ++ [x])∧x.m= .act F∧x.ls=[g]∧A w x.b 207 [π g]∧o x.b=none∧a1 o w g c F∧t.parts.dropLast=ys.map PX.m ∧
  ∀o' w' F',J (·=g) o w o' w'→a1 o' w' g c F'→J (·∈Ls) o w o' w'∧a7 o' w' T c (bB t (.act F')) Ls:=by
 obtain⟨xs,pa,va,pc,vc,h,rfl⟩:=h;obtain⟨r,hr⟩:=tt hF;obtain⟨ys,x,rfl,ac,hx⟩:=m6 (h.pts.symm.trans hr);have hp:el o w x.b c F x.ls:=by have:=h.ok x ξ;unfold c6 at this;rw[hx] at this;exact this
 obtain⟨g,q1,q2,q3,q4⟩:=hp;have a4:t.parts.dropLast=ys.map PX.m:=by rw[hr,List.dropLast_concat,ac]
 refine⟨ys,x,pa,va,pc,vc,g,h,rfl,hx,q4,q1,q2,q3,a4,fun o' w' F' U hf=>⟨U.more z fun k _ e=>by subst e;exact bC.2 (.inr ⟨x,by simp,by rw[q4];simp⟩),ys ++ [⟨.act F',x.b,x.ls⟩],pa,va,pc,vc,?_,?_⟩⟩
 ·have I:=U.et (K:=(·≠g)) fun _ h=>h
  obtain⟨Z,k2⟩:=I.fz U.size ⟨q2,q1.lt⟩;have:=h.top (x':=⟨.act F',x.b,x.ls⟩) (U.more z fun k _ e=>by subst e;rw[q4];simp) (show el o' w' x.b c F' x.ls from⟨g,k2.trans q1,Z.1,hf,q4⟩) (by unfold a';rw[hx]) fun k hk=>.inl hk;unfold bB;rw[a4];exact this
 ·simp[aB]
def yF {p q:Prop} (k:q) (h:Zq q→p:=by
 intro mq;have aZ:∀k∈x.ls,k∈aB T (ys ++ [x]):=fun k hk=>bC.2 (.inr ⟨x,by simp,hk⟩);revert aZ
 exact mq.u):p:=h ⟨k⟩
def a7.meet (h:a7 o w T c t Ls) (z:Wf o w) (hF:dy t=some m):∃ys x pa va pc vc f ps wa bi wc bf l,ay o w T c t (ys ++ [x]) pa va pc vc∧Ls=aB T (ys ++ [x])∧x.m= .meet m∧x.ls=x.b :: f :: l∧bU o w x.b m f ps wa bi wc bf l∧t.parts.dropLast=ys.map PX.m∧(∀k∈x.ls,k∈Ls)∧T∉x.ls ∧
  ∀o' w' m' l',J (·∈x.ls) o w o' w'→c3 o' w' x.b m' l'→(∀k∈l',k∈x.ls∨w.heap.size≤k)→J (·∈Ls) o w o' w'∧∃Ls',a7 o' w' T c (bB t (.meet m')) Ls'∧∀k∈Ls',k∈Ls∨k∈l':=by
 obtain⟨xs,pa,va,pc,vc,h,rfl⟩:=h;obtain⟨r,hr⟩:=tw hF;obtain⟨ys,x,rfl,ac,hx⟩:=m6 (h.pts.symm.trans hr);have hp:c3 o w x.b m x.ls:=by have:=h.ok x ξ;unfold c6 at this;rw[hx] at this;exact this
 obtain⟨f,ps,wa,bi,wc,bf,l,q1,q4⟩:=hp;have a4:t.parts.dropLast=ys.map PX.m:=by rw[hr,List.dropLast_concat,ac]
 refine yF ?_;intro aZ;refine⟨ys,x,pa,va,pc,vc,f,ps,wa,bi,wc,bf,l,h,rfl,hx,q4,q1,a4,aZ,h.nt x ξ,fun o' w' m' l' U hf hn=>⟨U.more z fun k _ e=>aZ k e,aB T (ys ++ [⟨.meet m',x.b,l'⟩]),⟨ys ++ [⟨.meet m',x.b,l'⟩],pa,va,pc,vc,?_,rfl⟩,fun k hk=>?_⟩⟩
 ·have:=h.top (x':=⟨.meet m',x.b,l'⟩) U (show c3 o' w' x.b m' l' from hf) (by unfold a';rw[hx]) hn
  unfold bB;rw[a4];exact this
 ·rcases bC.1 hk with e | ⟨y,hy,e⟩
  ·exact .inl (bC.2 (.inl e))
  ·rcases Zv.1 hy with hy | hy
   ·exact .inl (bC.2 (.inr ⟨y,by simp[hy],e⟩))
   ·rw[List.mem_singleton.1 hy] at e
    exact .inr e
def pK (z:Wf o w) (hI:aI o w W wm L) (U:a7 o w T c t Ls) (hc:bz o w c p) (hd:∀k∈Ls,k∉L) (wv next) (h:jA p t=some t') :
  Calls prog 97 #[π T,wv,ι next] w (b8 W T c t' wm [] L Ls o w):=by
 unfold jA at h;obtain⟨F,hF,h⟩:=Zt.1 h
 split at h
 case isFalse=>cases h
 case isTrue hs=>
 obtain⟨F',hR,rfl⟩:=Zs.1 h;obtain⟨ys,x,pa,va,pc,vc,g,hA,-,hm,-,hb,-,hf,-,ac⟩:=U.act z hF;have ax:=i1 hA hm hb;have HS:=χ (fun w1 (hb:Below (ν w) w w1)=>xu (z.below hb) (hf.below z hb) (hc.below z hb) hs hR)
 have bd:=χ (show ∀(w1 G:World) (o2:ab),Below (ν w) w w1→J (·=g) o w1 o2 G→a1 o2 G g c F'→b8 W T c (bB t (.act F')) wm [] L Ls o w (.returned (.slice none 0 0)) G from fun w1 G o2 af A bo=>by
   obtain⟨u1,u2⟩:=ac o2 G F' ((Zb (D:=(·=g)) z af).same z A) bo
   exact⟨o2,L,Ls,none,0,ao.Ct hI hd u1 u2 (fun k hk=>.inl hk) z,rfl,cB.nil _ _ _⟩)
 clear U hc hI hA hm hb hf ac z hs hR hF h;go_enter func97,ntmps97;go_wp2_with first
  | (go_at_call 94;refine δ ax ?_;intro w1 af;have aF:=HS.out w1 af)
  | (go_at_call 130;refine aF.mono ?_;rintro e G ⟨rfl,o2,A,bo⟩)
  | (go_at_call 129;refine γ (c8 G) ?_)
 go_ret;exact bd.out w1 G o2 af A bo
def uQ {f m m'} (z:Wf o w) (hE:bN o w) (hN:dv o w f m) (h:jF m=some m') :
  Calls prog 135 #[π f] w fun e w'=>e= .returned (ι 0)∧∃o',J (·=f) o w o' w'∧dv o' w' f m':=by
 cases m with
 | over b=>cases h
 | new v=>
   unfold jF at h;dsimp only at h
   split at h
   next hk=>
    obtain⟨x,hx,rfl⟩:=Zs.1 h;refine (xw z hE hN hk hx).mono ?_;rintro e w' ⟨rfl,o',ht,M⟩;exact⟨rfl,o',ht,rfl,rfl,M⟩
   next hk=>
    split at h
    next Z=>
     obtain⟨x,hx,h⟩:=Zt.1 h;obtain⟨y,hy,rfl⟩:=Zs.1 h;refine (ug z hE hN Z hx hy).mono ?_;rintro e w' ⟨rfl,o',ht,M⟩;exact⟨rfl,o',ht,rfl,rfl,M⟩
    next=>cases h
def bU.forced {b f ps wa va wc vc l E} (h:bU o w b m f ps wa va wc vc l) (U:J (·=f) o w o' w') (hf:dv o' w' f E):bU o' w' b {m with fo:=E} f ps wa va wc vc l:=by have I:=U.et (K:=(·≠f)) fun _ h=>h;obtain⟨H,h2⟩:=I.blk h.blk h.own h.nf;exact⟨H,h2,hf,h.val.kept I U.size,h.sy.kept I U.size fun k hk e=>h.nl (e ▸ hk),h.nf,h.nb,h.nl,h.wcm⟩
def zi {p q:Prop} (k:q) (h:Zq q→p:=by
 intro mq;have an:=gU hA hm;have a':∀w1,Below (ν w) w w1→aM (fun _=>True) o w o w1:=fun w1 hb=>(tB z hb).kp;have aw:∀w1,Below (ν w) w w1→bU o w1 x.b m f ps wa bi wc bf l:=fun w1 hb=>O.kept (a' w1 hb) hb.size trivial trivial fun _ _=>Zk;revert an a' aw
 exact mq.u):p:=h ⟨k⟩
def xd (z:Wf o w) (hI:aI o w W wm L) (hE:bN o w) (U:a7 o w T c t Ls) (hd:∀k∈Ls,k∉L) (wv next) (h:jn t=some t') :
  Calls prog 100 #[π T,wv,ι next] w (b8 W T c t' wm [] L Ls o w):=by
 unfold jn at h;obtain⟨m,hF,h⟩:=Zt.1 h
 split at h
 case isFalse=>cases h
 case isTrue hs=>
 obtain⟨E,hR,rfl⟩:=Zs.1 h;obtain⟨ys,x,pa,va,pc,vc,f,ps,wa,bi,wc,bf,l,hA,-,hm,aT,O,-,aZ,-,ac⟩:=U.meet z hF;refine zi ?_;intro an a' aw;have c0:=O.blk.c 0 rfl;have aO:=O.blk.lt;have HS:=χ (fun w1 (hb:Below (ν w) w w1)=>uQ (z.below hb) (hE.kept (a' w1 hb)) (aw w1 hb).fo hR)
 have bd:=χ (show ∀(w1 G:World) (o2:ab),Below (ν w) w w1→J (·=f) o w1 o2 G→dv o2 G f E→b8 W T c (bB t (.meet {m with fo:=E})) wm [] L Ls o w (.returned (.slice none 0 0)) G from fun w1 G o2 af A bo=>by
   have Z:=(aw w1 af).forced A bo;obtain⟨u1,Ls',u2,u3⟩:=ac o2 G {m with fo:=E} x.ls (((Zb (D:=(·=f)) z af).same z A).more z fun k _ e=>by subst e;rw[aT];simp) ⟨f,ps,wa,bi,wc,bf,l,Z,aT⟩ fun k hk=>.inl hk
   exact⟨o2,L,Ls',none,0,ao.Ct hI hd u1 u2 (fun k hk=>.inl ((u3 k hk).elim id (aZ k))) z,rfl,cB.nil _ _ _⟩)
 clear U hI hA O aw hm ac z hs hR hF h hE a' aT aZ;generalize x.b=b at *;go_enter func100,ntmps100;go_wp2_with first
  | (go_at_call 111;refine δ an ?_;intro w1 af;have c0:=(af.cell (p:=κ b 0) aO).trans c0;have aF:=HS.out w1 af)
  | (go_at_call 135;refine aF.mono ?_;rintro e G ⟨rfl,o2,A,bo⟩)
  | (go_at_call 129;refine γ (c8 G) ?_)
 go_ret;exact bd.out w1 G o2 af A bo
end
end
section
def oG {ok w k n} (hk:ag k) (hn:ag n):aG ok w (.mk k n []) (.agg #[ι k,ι n,ζ]):=by rw[aG];exact⟨none,0,rfl,hk,hn,Zc _,Z2 _,by rw[ap];trivial⟩
def cB.one {o w e a c g} (hb:A w g 88 (dI e a c)) (hv:aG (Fz o w) w e.v (.agg (υ e.v a c))):cB o w [e] (some ⟨g,0,none⟩):=
 aU.BP hb hb.lt (Y9 ⟨a,c,rfl,hv⟩ rfl)
def jQ (w) (X Y:List Value) (T):Below (ν w) w ((w.alloc (.cells X.toArray T)).alloc (.cells Y.toArray T))∧A ((w.alloc (.cells X.toArray T)).alloc (.cells Y.toArray T)) (η w) T Y:=by have H:=am w (.cells X.toArray T);have h2:=Zh (w.alloc (.cells X.toArray T)) T Y;rw[World.size_alloc] at h2;exact⟨H.alloc H.size _,h2⟩
section
variable {o o1 o2:ab} {w w1 G:World} {W T c:Nat} {t t' t1:aS} {wm wm' wm1:aH} {L L' L1 Ls Ls1:List Nat} {F F':ba} {p:List Fn} {es:List a0}
def a7.resume (U:a7 o w T c t Ls) (z:Wf o w) (hc:bz o w c p) (hF:b7 t=some F) {v} (hR:f9 p F v=some F'):∃g,(Calls prog 94 #[π T] w (ϑ (π g) w)) ∧
  (∀G,Below (ν w) w G→∀a cc,aG (ο G) G v (.agg (υ v a cc))→Calls prog 133 #[π g,.agg (υ v a cc)] G (gK o G g c F')) ∧
  (∀G o3 E,Below (ν w) w G→J (·=g) o G o3 E→a1 o3 E g c F'→J (·∈Ls) o w o3 E∧a7 o3 E T c (bB t (.act F')) Ls)∧g∈Ls:=by
 obtain⟨ys,x,pa,va,pc,vc,g,hA,ad,hm,a8,hb,-,hf,-,ac⟩:=U.act z hF;unfold f9 at hR
 split at hR
 case isFalse=>cases hR
 case isTrue hs=>
 injection hR with hR;refine⟨g,i1 hA hm hb,fun G aa a cc hv=>?_,fun G o3 E aa ht aN=>ac o3 E F' ((Zb (D:=(·=g)) z aa).same z ht) aN,by rw[ad];exact bC.2 (.inr ⟨x,by simp,by rw[a8];simp⟩)⟩;rw[←hR];exact wh (z.below aa) (hf.below z aa) (hc.below z aa) hv hs.2.1 hs.1 hs.2.2
def i3 (h:a7 o w T c t Ls) (k):Calls prog 108 #[π T,ι k] w (ϑ (.agg (dI (cO t k) none 0).toArray) w):=by obtain⟨xs,pa,va,pc,vc,h,-⟩:=h;exact jg h k
def xD (n w):Calls prog 131 #[ι n,ι 0] w (μ (ι n) w):=by go_enter func131,ntmps131;go_wp2_with fail;go_ret;exact⟨rfl,rfl⟩
def o0 (z:Wf o w) (hI:aI o w W wm L) (hE:a6 o w) {n} (h:cw wm=(.ok n,wm')):Calls prog 132 #[π W] w (fb W wm' (.ok n) L o w):=by obtain⟨Y,aB,aF,aC,cs,ds,hW,rfl⟩:=hI;have:=ta z hW hE;rw[h] at this;exact this
def ao.then {t2 wm2 L2 Ls2} (z:Wf o w) (H:ao W T c t1 wm1 L Ls o w o1 w1 L1 Ls1) (h2:ao W T c t2 wm2 L1 Ls1 o1 w1 o2 G L2 Ls2):ao W T c t2 wm2 L Ls o w o2 G L2 Ls2:=by
 obtain⟨a1,a2,a3,a4,a5,a6⟩:=H;obtain⟨b1,b2,b3,b4,I,b6⟩:=h2;have hs:=a1.size;refine⟨a1.trans z b1 fun k hk hD=>?_,b2,b3,fun k hk=>?_,fun k hk=>?_,b6⟩
 ·rcases hD with e | e
  ·exact .inl ((a4 k e).elim id fun e=>by omega)
  ·exact .inr ((a5 k e).elim id fun e=>by omega)
 ·rcases b4 k hk with e | e
  ·exact a4 k e
  ·exact .inr ω
 ·rcases I k hk with e | e
  ·exact a5 k e
  ·exact .inr ω
def ao.C9 (z:Wf o w) (ak:J (·∈L) o w o1 w1) (O:aT (ν w) W wm1 L o1 w1) (U:a7 o w T c t Ls) (hd:∀k∈Ls,k∉L):∃L1,ao W T c t wm1 L Ls o w o1 w1 L1 Ls:=by
 obtain⟨L1,aJ,a'⟩:=O;refine⟨L1,ak.more z fun _ _ h=>.inl h,aJ,U.kept (ak.et (K:=(·∉L)) fun _ h=>h) ak.size fun k hk=>hd k hk,a',fun k hk=>.inl hk,fun k hk E=>?_⟩;rcases a' k E with e | e
 ·exact hd k hk e
 ·have:=U.lt k hk;omega
def ao.below (z:Wf o w) (h:ao W T c t1 wm1 L Ls o w o1 w1 L1 Ls1) (hb:Below (ν w1) w1 G):ao W T c t1 wm1 L Ls o w o1 G L1 Ls1:=by obtain⟨q1,q2,q3,q4,q5,q6⟩:=h;have ae:=z.BD q1;exact⟨q1.same z (Zb ae hb),q2.below ae hb,q3.below ae hb,q4,q5,q6⟩
def b8.told {e w9 E Ls9 L9} (z:Wf o w) (U:ao W T c t' wm' L Ls o w o1 E L9 Ls9) (hb:Below (ν E) E w9) {g a cc} (hk:A w9 g 88 (dI e a cc)) (hv:aG (Fz o1 w9) w9 e.v (.agg (υ e.v a cc))) (bl) :
  b8 W T c t' wm' [e] L Ls o w (.returned (.slice (Γ g) 1 bl)) w9:=by obtain⟨q1,q2,q3,q4,q5,q6⟩:=U;have ax:=z.BD q1;exact⟨o1,L9,Ls9,_,bl,⟨q1.same z (Zb ax hb),q2.below ax hb,q3.below ax hb,q4,q5,q6⟩,rfl,cB.one hk hv⟩
def t2 (z:Wf o w) (hI:aI o w W wm L) (hE:a6 o w) (U:a7 o w T c t Ls) (hc:bz o w c p) (hd:∀k∈Ls,k∉L) (next) (h:i4 p t wm=some (t',wm',es)) :
  Calls prog 98 #[π T,π W,ι next] w (b8 W T c t' wm' es L Ls o w):=by
 unfold i4 at h;obtain⟨F,hF,h⟩:=Zt.1 h
 split at h
 case h_2=>cases h
 case h_1 n wm1 hCW=>
 split at h
 case isFalse=>cases h
 case isTrue hn=>
 obtain⟨F',hR,h⟩:=Zs.1 h;injection h with H h;injection h with h2 h3;subst H h2 h3;have Y:=o0 z hI hE hCW;have aj:ag n:=by unfold ag;omega
 have HS:=χ (show ∀(o1:ab) (w1:World),J (·∈L) o w o1 w1→aT (ν w) W wm1 L o1 w1→∃g,(Calls prog 94 #[π T] w1 (ϑ (π g) w1)) ∧
     (∀G,Below (ν w1) w1 G→Calls prog 133 #[π g,.agg #[ι 4,ι n,ζ]] G (gK o1 G g c F')) ∧
     ∀G o3 E,Below (ν w1) w1 G→J (·=g) o1 G o3 E→a1 o3 E g c F'→∃L',ao W T c (bB t (.act F')) wm1 L Ls o w o3 E L' Ls from fun o1 w1 ak O=>by
   obtain⟨L1,s1⟩:=ao.C9 z ak O U hd;have ae:=z.BD ak;obtain⟨g,r1,r2,r3,-⟩:=s1.2.2.1.resume ae (hc.kept (ak.et (K:=(·∉L)) fun _ h=>h) ak.size) hF (v:= .mk 4 n []) hR;refine⟨g,r1,fun G aa=>r2 G aa none 0 (oG (by unfold ag;omega) aj),fun G o3 E aa ht hf=>?_⟩;obtain⟨u1,u2⟩:=r3 G o3 E aa ht hf
   exact⟨L1,s1.then z (ao.Ct s1.2.1 s1.2.2.2.2.2 u1 u2 (fun k hk=>.inl hk) ae)⟩)
 have bd:=χ (show ∀(E w9:World) (o3:ab) (L':List Nat) (g bl:Nat),ao W T c (bB t (.act F')) wm1 L Ls o w o3 E L' Ls→Below (ν E) E w9→A w9 g 88 [ι (2),ι 0,ι t.num,ι 0,ι 0,ι 0,ι n,ι 0,ι 0,ζ]→b8 W T c (bB t (.act F')) wm1 [{cO t 2 with n:=n}] L Ls o w (.returned (.slice (Γ g) 1 bl)) w9 from fun E w9 o3 L' g bl s hb hk=>
   b8.told z s hb hk (e6 _ _) bl)
 clear U hc hI hR hF h hE hd hCW z hn aj;go_enter func98,ntmps98;go_upto_region 3 with first
  | (go_at_call 132;refine Y.mono ?_;rintro e w1 ⟨o1,ak,O,rfl⟩;unfold eS code;dsimp only;obtain⟨g,ax,hRS,hFN⟩:=HS.out o1 w1 ak O;have M:=χ hRS;have I:=χ hFN;clear hRS hFN)
  | (go_at_call 131;refine γ (xD n w1) ?_)
  | (go_at_call 94;refine δ ax ?_;intro G aa;have aF:=M.out G aa)
  | (go_at_call 133;refine aF.mono ?_;rintro e E ⟨rfl,o3,aO,aN⟩)
  | (go_at_call 129;refine γ (c8 E) ?_)
 obtain⟨L',aV⟩:=I.out G o3 E aa aO aN;have ad:Calls prog 108 #[π T,ι 2] E (ϑ (.agg #[ι (2),ι 0,ι t.num,ι 0,ι 0,ι 0,ι 0,ι 0,ι 0,ζ]) E):=i3 aV.2.2.1 2;have H3:=χ aV;clear aV aN;go_wp2_with (go_at_call 108;refine δ ad ?_;intro V ai);go_ret;obtain⟨u1,u2⟩:=jQ V [ι (2),ι 0,ι t.num,ι 0,ι 0,ι 0,ι n,ι 0,ι 0,ζ] [ι (2),ι 0,ι t.num,ι 0,ι 0,ι 0,ι n,ι 0,ι 0,ζ] 88;exact bd.out E _ o3 L' _ _ H3.out (ai.trans (u1.mono ai.size)) u2
def ra (z:Wf o w) (hI:aI o w W wm L) (U:a7 o w T c t Ls) (hc:bz o w c p) (hd:∀k∈Ls,k∉L) (wv next) (h:i5 p t next=some (t',es)) :
  Calls prog 99 #[π T,wv,ι next] w (b8 W T c t' wm es L Ls o w):=by
 unfold i5 at h;obtain⟨F,hF,h⟩:=Zt.1 h
 split at h
 case isFalse=>cases h
 case isTrue hn=>
 obtain⟨F',hR,h⟩:=Zs.1 h;injection h with H h3;subst H h3;have aj:ag next:=by unfold ag;omega
 obtain⟨g,ax,r2,r3,-⟩:=U.resume z hc hF hR;have M:=χ (fun G (aa:Below (ν w) w G)=>(show Calls prog 133 #[π g,.agg #[ι 2,ι next,ζ]] G (gK o G g c F') from r2 G aa none 0 (oG (by unfold ag;omega) aj)))
 have I:=χ (show ∀G o3 E,Below (ν w) w G→J (·=g) o G o3 E→a1 o3 E g c F'→ao W T c (bB t (.act F')) wm L Ls o w o3 E L Ls from fun G o3 E aa ht hf=>by
   obtain⟨u1,u2⟩:=r3 G o3 E aa ht hf
   exact ao.Ct hI hd u1 u2 (fun k hk=>.inl hk) z)
 have bd:=χ (show ∀(E w9:World) (o3:ab) (L':List Nat) (g bl:Nat),ao W T c (bB t (.act F')) wm L Ls o w o3 E L' Ls→Below (ν E) E w9→A w9 g 88 [ι (1),ι 0,ι t.num,ι 0,ι 0,ι 0,ι next,ι 0,ι 0,ζ]→b8 W T c (bB t (.act F')) wm [{cO t 1 with n:=next}] L Ls o w (.returned (.slice (Γ g) 1 bl)) w9 from fun E w9 o3 L' g bl s hb hk=>
   b8.told z s hb hk (e6 _ _) bl)
 have hq:decide (next < 0)=false:=Zn ω;clear U hc hI hR hF h hd z hn aj r2 r3;go_enter func99,ntmps99;go_upto_region 4 with first
  | (go_at_call 94;refine δ ax ?_;intro w1 af)
  | (go_at_call 134;refine δ (xA next w1) ?_;intro G bA;have aa:=af.trans (bA.mono af.size);have aF:=M.out G aa)
  | (go_at_call 133;refine aF.mono ?_;rintro e E ⟨rfl,o3,aO,aN⟩)
  | (go_at_call 129;refine γ (c8 E) ?_)
 have aV:=I.out G o3 E aa aO aN;have ad:Calls prog 108 #[π T,ι 1] E (ϑ (.agg #[ι (1),ι 0,ι t.num,ι 0,ι 0,ι 0,ι 0,ι 0,ι 0,ζ]) E):=i3 aV.2.2.1 1;have H3:=χ aV;clear aV aN;go_wp2_with (go_at_call 108;refine δ ad ?_;intro V ai);go_ret;obtain⟨u1,u2⟩:=jQ V [ι (1),ι 0,ι t.num,ι 0,ι 0,ι 0,ι next,ι 0,ι 0,ζ] [ι (1),ι 0,ι t.num,ι 0,ι 0,ι 0,ι next,ι 0,ι 0,ζ] 88;exact bd.out E _ o3 L _ _ H3.out (ai.trans (u1.mono ai.size)) u2
end
end
end Go.Proofs.YtmchabopafimeaaGreatDoor
