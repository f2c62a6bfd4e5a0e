import Derived.Test.YtmchabopafimeaaGreatDoorQan
namespace Go.Proofs.YtmchabopafimeaaGreatDoor
set_option maxRecDepth 100000
set_option maxHeartbeats 16000000
set_option linter.all false
open Go.RowKit Go.Sort Tryz
section
section
variable {P:Program} {E:Array Oper} {Q:Exit→Act→World→Prop} {S J:World→Prop} {a:Act} {w:World}
def L (P:Program) (E:Array Oper) (Q:Exit→Act→World→Prop) (st:List Nat):Nat→List Nat→(World→Prop)→List (Nat×Bool)→Act→World→Prop
 | _,fl,_,[],a,w=>fl=[]∧Q .normal a w
 | 0,_,_,_ :: _,_,_=>False
 | n+1,fl,S,(i,true) :: r,a,w=>∃o v,E[i]? =some o∧YieldsIf P E S o v a∧L P E Q st n fl S r (a.put o.dst v) w
 | n+1,fl,S,(i,false) :: r,a,w=>(∀f∈fl,wpOp P E Q f (fun a' w'=>∃J,(∀w,J w→S w)∧J w'∧L P E Q st n (fl.erase f) J ((i,false) :: r) a' w') a w) ∧
    ((∀f∈fl,depB E i f=false)→wpOp P E Q i (fun a' w'=>∃J,(∀w,J w→S w)∧(dS E st i r=false→J w')∧L P E Q st n fl J r a' w') a w)
def iU (E:Array Oper) (fl:List Nat) (A:List (Nat×Bool)):Bool:=
 Region.noSelect E && ((List.range E.size).all fun i=>match E[i]? with | some o=>o.after.all (fun e=>!Region.binds .any e || decide (e.on < i)) | none=>true)
 && (A.all fun x=>decide (x.1 < E.size)) && ((List.range E.size).all fun i=>(A.any fun x=>x.1 == i) || fl.contains i) && decide (A.map (·.1) ++ fl).Nodup && hi E A && gJ E A
 && (fl.all fun f=>decide (f < E.size) && A.all fun x=>!x.2 || dl E x.1 f)
def f1 (P:Program) (E:Array Oper) (Q:Exit→Act→World→Prop) (st:List Nat) (fl0:List Nat) (A:List (Nat×Bool)) (D:Nat→Bool) (a:Act) (w:World):Prop:=∃n fl S r z,
 (S w∨(z=[]∧r=[]))∧(∀p∈z,p.1∈st)∧(∀x∈r,x.2=true→x.1∈st)∧G P E S a z∧L P E Q st n fl S r (dd a z) w∧(∀i b V,r=(i,b) :: V→b=false) ∧
 (z.map (·.1) ++ r.map (·.1)).Sublist (A.map (·.1))∧fl.Sublist fl0∧r <:+ A∧∀i,i < E.size→(D i=false↔i∈z.map (·.1) ++ r.map (·.1)∨i∈fl)
def f1.of {st fl0 fl A D} (hf:fl.Sublist fl0):∀(r:List (Nat×Bool)) (n:Nat) (z:List (Nat×Oper×Value)),(S w∨(z=[]∧r=[]))→(∀p∈z,p.1∈st)→(∀x∈r,x.2=true→x.1∈st)→G P E S a z→L P E Q st n fl S r (dd a z) w →
  (z.map (·.1) ++ r.map (·.1)).Sublist (A.map (·.1))→r <:+ A→(∀i,i < E.size→(D i=false↔i∈z.map (·.1) ++ r.map (·.1)∨i∈fl))→f1 P E Q st fl0 A D a w
 | [],n,z,hs,hp,hr,ht,hg,H,h2,h3=>⟨n,fl,S,[],z,hs,hp,hr,ht,hg,(fun _ _ _ h=>by cases h),H,hf,h2,h3⟩
 | (i,false) :: r,n,z,hs,hp,hr,ht,hg,H,h2,h3=>⟨n,fl,S,(i,false) :: r,z,hs,hp,hr,ht,hg,(fun _ _ _ h=>by injection h with h _;injection h with _ h;exact h.symm),H,hf,h2,h3⟩
 | (i,true) :: r,0,z,hs,hp,hr,ht,hg,H,h2,h3=>by
   unfold L at hg
   exact hg.elim
 | (i,true) :: r,n+1,z,hs,hp,hr,ht,hg,H,h2,h3=>by
   unfold L at hg
   obtain⟨o,v,M,hy,hg⟩:=hg
   have e:(z ++ [(i,o,v)]).map (·.1) ++ r.map (·.1)=z.map (·.1) ++ ((i,true) :: r).map (·.1):=by simp
   refine f1.of hf r n (z ++ [(i,o,v)]) (.inl (hs.resolve_right fun h=>by cases h.2)) (fun p I=>(Zv.1 I).elim (hp p) fun h=>by rw[List.mem_singleton.1 h];exact hr (i,true) Zr rfl) (fun x hx=>hr x (Zo _ hx)) (G.snoc M _ _ ht hy) (by rw[ki];exact hg) (by rw[e];exact H) ((Y4 _ _).trans h2) (by rw[e];exact h3)
def rV {id} (n fl A S) (hm:P.follows .mixedOrders=true) (hB:iU E fl A=true) (hQ:∀c a d v w,Q (.panic c) (Act.put a d v) w→Q (.panic c) a w) (hS:S w.drew) (h:L P E Q (eP A) n fl S A a w.drew):(Code.region id E true).wp P Q a w:=by
 simp only[iU,Bool.and_eq_true,decide_eq_true_eq,List.all_eq_true,List.any_eq_true,beq_iff_eq,List.mem_range,Bool.or_eq_true,List.contains_iff_mem,Bool.not_eq_true'] at hB;obtain⟨⟨⟨⟨⟨⟨⟨b1,b2⟩,b3⟩,b4⟩,I⟩,b6⟩,b7⟩,b8⟩:=hB;have aQ:=jb E A b6;have aG:=i2 E A b7;refine kH hm ?_ (f1 P E Q (eP A) fl A) ?_ ?_ ?_
 ·intro i o M e he hb
  have h2:=b2 i (Z7.1 M).1;rw[M] at h2;have h3:=Array.all_eq_true_iff_forall_mem.1 h2 e he;simpa [hb] using h3
 ·refine f1.of (Yb _) A n [] (.inl hS) (fun _ h=>by cases h) (fun x hx h=>ZC.2 ⟨x,List.mem_filter.2 ⟨hx,h⟩,rfl⟩) trivial h ξ (List.suffix_refl _) fun i hi=>⟨fun _=>?_,fun _=>rfl⟩
  rcases b4 i hi with ⟨x,hx,rfl⟩ | h
  ·exact .inl (ZC.2 ⟨x,hx,rfl⟩)
  ·exact .inr h
 ·rintro D a w i o ⟨O,ac,S,r,z,hs,ae,ai,ht,hg,ak,af,aw,Y,ad⟩ M hD ay
  have hi:=(Z7.1 M).1;have aE:(z.map (·.1) ++ r.map (·.1) ++ ac).Nodup:=(ZX af aw).nodup I;have Z:(z.map (·.1) ++ r.map (·.1)).Nodup:=(Ys.1 aE).1;have am:∀x∈z.map (·.1) ++ r.map (·.1),x∉ac:=fun x hx hf=>(Ys.1 aE).2.2 x hx x hf rfl;have an:=aQ.sublist af;have aY:∀p∈z,D p.1=false:=fun p hp=>(ad p.1 (Z7.1 (Yg z a ht p hp)).1).2 (.inl (Zm _ (ZC.2 ⟨p,hp,rfl⟩)));have aq:∀x∈r,D x.1=false:=fun x hx=>(ad x.1 (b3 x (Y.subset hx))).2 (.inl (Zx _ (ZC.2 ⟨x,hx,rfl⟩)));have a6:∀f∈ac,f < E.size:=fun f hf=>(b8 f (aw.subset hf)).1;have ag:∀f∈ac,D f=false:=fun f hf=>(ad f (a6 f hf)).2 (.inr hf);have aJ:∀k,depB E i k=true→D k=false→False:=fun k H h2=>by rw[nS M ay H] at h2;cases h2
  rcases (ad i hi).1 hD with ab | aA
  ·rcases Zv.1 ab with aB | ab
   ·obtain⟨p,hp,rfl⟩:=ZC.1 aB
    obtain⟨l1,l2,rfl⟩:=List.append_of_mem hp;obtain rfl:p.2.1=o:=by have:=Yg _ a ht p hp;rw[M] at this;injection this with this;exact this.symm
    have U:∀q∈l1,q.2.1.apart E p.2.1=true:=zu;obtain⟨y1,y2,y3⟩:=G.take b1 p l2 l1 a ht U;have ax:S w:=hs.resolve_right fun h=>by have:=h.1;simp at this
    refine y1.wpOp M ax ⟨O,ac,S,r,l1 ++ l2,.inl ax,(fun q hq=>ae q ((Zv.1 hq).elim (fun h=>Zm _ h) fun h=>Zx _ (Zo _ h))),ai,y2,by rw[y3];exact hg,ak,?_,aw,Y,fun k hk=>?_⟩
    ·refine Y3 ?_ af
     exact ZX (by rw[List.map_append,List.map_append];exact ZX (Yb _) ξ) (Yb _)
    ·have ah:=ad k hk
     by_cases e:k=p.1
     ·subst e
      rw[hz];refine⟨fun h=>(Bool.noConfusion h),fun h=>?_⟩
      exfalso
      rcases h with h | h
      ·simp only[List.map_append,List.map_cons,List.append_assoc,List.nodup_append,List.nodup_cons,List.mem_append,List.mem_cons,List.cons_append] at Z h
       obtain⟨n1,⟨n2,n3⟩,n4⟩:=Z;rcases h with h | h | h
       ·exact n4 p.1 h p.1 (.inl rfl) rfl
       ·exact n2 (.inl h)
       ·exact n2 (.inr h)
      ·exact am p.1 (Zm _ aB) h
     ·rw[hu D e,ah]
      simp[e]
   ·rcases r with _ | ⟨⟨j,b⟩,V⟩
    ·cases ab
    obtain rfl:b=false:=ak j b V rfl;obtain rfl:i=j:=zq;have U:∀p∈z,p.2.1.apart E o=true:=zr;rcases O with _ | O
    ·unfold L at hg
     exact hg.elim
    unfold L at hg;have ap:=hg.2 fun f hf=>by
     cases hb:depB E i f with
     | false=>rfl
     | true=>exact (aJ f hb (ag f hf)).elim
    refine wpOp_mono ?_ (G.act b1 hQ M z a _ ht U ap);rintro a' w' ⟨az,J,ao,hl,aa⟩;refine f1.of aw V O z ?_ ae (fun x hx=>ai x (Zo _ hx)) (G.BO ao _ _ az) aa (Y3 ?_ af) ((Y4 _ _).trans Y) fun k hk=>?_
    ·cases hb:dS E (eP A) i V with
     | false=>exact .inl (hl hb)
     | true=>
       right
       exact zw
    ·exact ZX (Yb _) ξ
    ·have ah:=ad k hk
     by_cases e:k=i
     ·subst e
      rw[hz];refine⟨fun h=>(Bool.noConfusion h),fun h=>?_⟩
      exfalso
      rcases h with h | h
      ·rw[List.map_cons,List.nodup_append,List.nodup_cons] at Z
       obtain⟨n1,⟨n2,n3⟩,n4⟩:=Z;rcases Zv.1 h with h | h
       ·exact n4 k h k Zr rfl
       ·exact n2 h
      ·exact am k ξ h
     ·rw[hu D e,ah]
      simp[e]
  ·rcases r with _ | ⟨⟨j,b⟩,V⟩
   ·unfold L at hg
    rw[hg.1] at aA;cases aA
   obtain rfl:b=false:=ak j b V rfl;have U:∀p∈z,p.2.1.apart E o=true:=by intro p hp;obtain⟨x,hx,e⟩:=ZC.1 (ae p hp);obtain⟨aC,aF⟩:=List.mem_filter.1 hx;have H:=((b8 i (aw.subset aA)).2 x aC).resolve_left (by rw[aF];exact fun h=>by cases h);rw[e] at H;unfold dl at H;rw[G.hereAt z a ht p hp,M] at H;exact H
   rcases O with _ | O
   ·unfold L at hg
    exact hg.elim
   unfold L at hg;have aj:ac.Nodup:=(Ys.1 aE).2.1;refine wpOp_mono ?_ (G.act b1 hQ M z a _ ht U (hg.1 i aA));rintro a' w' ⟨az,J,ao,hl,aa⟩;refine⟨O,ac.erase i,J,(j,false) :: V,z,.inl hl,ae,ai,G.BO ao _ _ az,aa,ak,af,(List.erase_sublist).trans aw,Y,fun k hk=>?_⟩;have ah:=ad k hk
   by_cases e:k=i
   ·subst e
    rw[hz];refine⟨fun h=>(Bool.noConfusion h),fun h=>?_⟩
    exfalso
    rcases h with h | h
    ·exact am k h aA
    ·exact (aj.mem_erase_iff.1 h).1 rfl
   ·rw[hu D e,ah,aj.mem_erase_iff]
    simp[e]
 ·rintro D a w ⟨O,ac,S,r,z,hs,-,-,ht,hg,-,-,-,Y,ad⟩ a3
  rcases z with _ | ⟨p,l⟩
  ·rcases r with _ | ⟨x,r⟩
   ·unfold L at hg
    exact hg.2
   ·exfalso
    have hx:=b3 x (Y.subset Zr);have:=(ad x.1 hx).2 ξ;rw[a3 _ hx] at this;cases this
  ·exfalso
   have hp:=(Z7.1 (Yg _ a ht p Zr)).1;have:=(ad p.1 hp).2 ξ;rw[a3 _ hp] at this;cases this
def ik {id} (n fl A S) (hm:P.follows .mixedOrders=true) (hB:iU E fl A=true) (hS:S w.drew) (h:L P E (e1 Q) (eP A) n fl S A a w.drew):(Code.region id E true).wp P Q a w:=
 Code.wp_mono e1.imp (rV n fl A S hm hB (fun c a d v w h a' ha=>h a' (ha.trans (by cases d <;> rfl))) hS h)
def qn {st fl n i r o v} (M:E[i]? =some o) (hy:YieldsIf P E S o v a) (h:L P E Q st n fl S r (a.put o.dst v) w):L P E Q st (n+1) fl S ((i,true) :: r) a w:=by unfold L;exact⟨o,v,M,hy,h⟩
def gi {i o K} (M:E[i]? =some o) (H:if Region.wanted o (yielded E a.tmps)=true then Oper.wp P o a w K Q else K (a.put o.dst undef) w):wpOp P E Q i K a w:=by
 unfold wpOp;rw[M];dsimp only
 split
 ·rename_i z
  rw[if_pos z] at H;exact .inl H
 ·rename_i z
  rw[if_neg z] at H;exact H
def bv {st n i r o} (M:E[i]? =some o) (h:∀K:Act→World→Prop,(∀a' w' J,(∀w,J w→S w)→(dS E st i r=false→J w')→L P E Q st n [] J r a' w'→K a' w')→if Region.wanted o (yielded E a.tmps)=true then Oper.wp P o a w K Q else K (a.put o.dst undef) w):L P E Q st (n+1) [] S ((i,false) :: r) a w:=by unfold L;exact⟨fun _ h=>(by cases h),fun _=>gi M (h _ fun a' w' J H h2 h3=>⟨J,H,h2,h3⟩)⟩
def cG {st n i f r o of} (M:E[i]? =some o) (ao:E[f]? =some of) (hf:∀K:Act→World→Prop,(∀a' w' J,(∀w,J w→S w)→J w'→L P E Q st n [] J ((i,false) :: r) a' w'→K a' w')→if Region.wanted of (yielded E a.tmps)=true then Oper.wp P of a w K Q else K (a.put of.dst undef) w) (h:depB E i f=false→∀K:Act→World→Prop,(∀a' w' J,(∀w,J w→S w)→(dS E st i r=false→J w')→L P E Q st n [f] J r a' w'→K a' w')→if Region.wanted o (yielded E a.tmps)=true then Oper.wp P o a w K Q else K (a.put o.dst undef) w):L P E Q st (n+1) [f] S ((i,false) :: r) a w:=by unfold L;refine⟨fun f' z=>?_,fun hd=>gi M (h (hd f ξ) _ fun a' w' J H h2 h3=>⟨J,H,h2,h3⟩)⟩;obtain rfl:=Yo.1 z;exact gi ao (hf _ fun a' w' J H h2 h3=>⟨J,H,h2,by rw[List.erase_cons_head];exact h3⟩)
def cy {st n} (h:Q .normal a w):L P E (e1 Q) st n [] S [] a w:=by unfold L;exact⟨rfl,h⟩
end
def wpG_t {P:Program} {E:Array Oper} {Q:Exit→Act→World→Prop} {S:World→Prop} {a:Act} {w:World} {st fl:List Nat} {n i:Nat} {r:List (Nat×Bool)} {o:Oper} {v:Value} (h:L P E Q st n fl S r (a.put o.dst v) w) (M:E[i]? =some o:=by rfl) (hy:YieldsIf P E S o v a:=by
 refine .inl ⟨by rfl,?_⟩;intro w' hS
 repeat (obtain⟨_,hS⟩:=hS)
 go_simp
 with_reducible rfl):L P E Q st (n+1) fl S ((i,true) :: r) a w:=qn M hy h
end
section
section
variable {o o':ab} {w w':World} {p W:Nat} {m:bP} {aD av:Option Addr} {cx cv:Nat} {K:Nat→Prop} {wm wm':aH} {L:List Nat}
def qg {m m' W L c send i} (h:e' c send i m=(.ok (),m')):∃r,∀{o:ab} {w:World},Wf o w→aI o w W m L→a6 o w→Calls prog 370 #[π W,ι c,ι (sd send),ι (i:Nat)] w (eH W m' r L o w):=by obtain⟨x,m1,H,h2⟩:=Zu h;obtain⟨k,rfl,hx,rfl⟩:=g9 H;unfold iE at h2;injection h2 with _ h5;rw[Int.toNat_natCast] at h5;refine⟨(aJ x send)[i]?,fun {o} {w} z hI hE=>?_⟩;obtain⟨Y,aB,aF,aC,cs,ds,hW,rfl⟩:=hI;have h3:=uT z hW hE k send i x hx;rw[h5] at h3;exact h3
def d7 (B W:Nat) (wm':aH) (L:List Nat) (l:List Value) (o:ab) (w:World):Prop:=aT B W wm' L o w∧dG l
def d7.stays {B O} (hL:∀k∈L,k < O) (hz:O < B):∀(l:List Value) (o1:ab) (w1 G:World),d7 B W wm' L l o1 w1→aM (·≠O) o1 w1 o1 G→w1.heap.size≤G.heap.size→d7 B W wm' L l o1 G:=by
 rintro l o1 w1 G ⟨⟨L',H,h2⟩,h3⟩ I hs;refine⟨⟨L',H.kept I hs fun k hk=>?_,h2⟩,h3⟩;rcases h2 k hk with h | h
 ·have:=hL k h
  omega
 ·omega
def d7.fin {O w1 E M o4 o2 o3 B l S} (z:Wf o O) (hc:J Θ o O o4 w1) (aq:J Θ o4 w1 o2 w') (H:J (·∈L) o2 w' o3 E) (h2:aT (ν w') W wm' L o3 E) (hL:∀k∈L,k < O.heap.size) (hB:B≤O.heap.size) (ha:dG l) (hS:∀k,S k→O.heap.size≤k∧k < w'.heap.size∧o2 k=some k) (h4:Fr S E M):∃o',J (·∈L) o O o' M∧d7 B W wm' L l o' M:=by
 have ae:=z.BD hc;have ap:=ae.BD aq;have ax:=ap.BD H;have aa:∀k,S k→k∉L:=fun k hk h=>by have:=hL k h;have:=(hS k hk).1;omega
 have h6:J S o3 E o3 M:=Z9 ax h4 fun x _ hx=>⟨x,H.owned (hS x hx).2.1 (hS x hx).2.2 (aa x hx),hx⟩;have I:aM (fun k=>¬S k) o3 E o3 M:=h6.et fun _ h=>h;obtain⟨L',g1,g2⟩:=h2;have s1:=hc.size;have s2:=aq.size;refine⟨o3,(((hc.more z fun _ _ h=>h.elim).same z (aq.more ae fun _ _ h=>h.elim)).same z H).trans z h6 fun k hk e=>?_,⟨L',g1.kept I h6.size fun k hk h=>?_,fun k hk=>(g2 k hk).imp id fun h=>by omega⟩,ha⟩
 ·have:=(hS k e).1
  omega
 ·rcases g2 _ hk with V | V
  ·exact aa _ h V
  ·have:=(hS k h).2.1
   omega
def AH {p q:Prop} (k:q) (h:Zq q→p:=by
 intro mq;have aj:=hP.kept ap an.size trivial;have m1:=ao.alloc θ;have m2:=a1.alloc θ;have q1:(o.set (ν w) (some w.heap.size)) bw=none:=by rw[ab.BG _ _ (by have:=ao.lt;omega)];exact n1
 have q2:(o.set (ν w) (some w.heap.size)) bp=none:=by rw[ab.BG _ _ (by have:=a1.lt;omega)];exact n2
 revert aj m1 m2 q1 q2
 exact mq.u):p:=h ⟨k⟩
def AI {p:Prop} (h:p:=by
 clear I K;try go_frame
 refine bv rfl (fun K I=>?_);go_simp;go_at_call 370;refine (HA.out _ _ aK.out).mono ?_;rintro e E ⟨x0,x1,x2,x3,x4,x5,xa,xn,xc,xb,rfl,aQ⟩;have HX:=aQ.out;have a5:=HX.2.1;have aG:∀b∈[bw,bp,p],b < E.heap.size:=fun b aw=>Za (a0.out b aw) (Zp (Yx lB) HX.2.2.2.1);have ak:A E (ν w1) 307 [ι 0,ι 0,ι 0,ι 0,ι 0,ι 0,ζ]:=(HX.2.2.2.2 _ oB aN.out lB).trans aM.out;have aX:∀b∈[bw,bp,p],((σ7 E (ν w1) (ι x0) (ι x1) (ι x2) (ι x3) (ι x4) (ι x5) (.slice xa xn xc):World)).heap[b]? =w1.heap[b]? :=fun b aw=>((aE (S:=(·=w1.heap.size)) rfl 0 [(0,ι x0),(1,ι x1),(2,ι x2),(3,ι x3),(4,ι x4),(5,ι x5),(6,.slice xa xn xc)] _).block b (aG b aw) (Yy (a0.out b aw))).trans (a5 b aw);refine I _ _ _ Φ (fun _=>aB.out _ a5) ?_;clear I K;try go_frame
 iterate 4 (refine wpG_t ?_;try go_frame)
 obtain⟨e0,f0,e1,f1,e2,f2,e3,f3,e4,f4,e5,f5,e6,f6,-⟩:=kb6 ak;refine bv rfl (fun K I=>?_);go_simp;refine I _ _ _ Φ (fun _=>aB.out _ aX) ?_;clear I K;try go_frame
 iterate 2 (refine wpG_t ?_;try go_frame)
 refine cy ?_;have ai:Fr (fun k=>k=n4∨k=w1.heap.size) E ((σ7 E (ν w1) (ι x0) (ι x1) (ι x2) (ι x3) (ι x4) (ι x5) (.slice xa xn xc):World)):=aE (S:=fun k=>k=n4∨k=w1.heap.size) (g:=w1.heap.size) (.inr rfl) 0 [(0,ι x0),(1,ι x1),(2,ι x2),(3,ι x3),(4,ι x4),(5,ι x5),(6,.slice xa xn xc)] _;have aa:A ((σ7 E (ν w1) (ι x0) (ι x1) (ι x2) (ι x3) (ι x4) (ι x5) (.slice xa xn xc):World)) n4 307 [ι 0,ι 0,ι 0,ι 0,ι 0,ι 0,ζ]:=((aE (S:=(·=w1.heap.size)) rfl 0 [(0,ι x0),(1,ι x1),(2,ι x2),(3,ι x3),(4,ι x4),(5,ι x5),(6,.slice xa xn xc)] E).block n4 HX.2.2.1.lt (Yy aR)).trans HX.2.2.1;have A1:A ((σ7 E (ν w1) (ι x0) (ι x1) (ι x2) (ι x3) (ι x4) (ι x5) (.slice xa xn xc):World)) (ν w1) 307 [ι x0,ι x1,ι x2,ι x3,ι x4,ι x5,.slice xa xn xc]:=aW (b:=0) [(0,ι x0),(1,ι x1),(2,ι x2),(3,ι x3),(4,ι x4),(5,ι x5),(6,.slice xa xn xc)] _ _ ak;have A2:A ((σ7 E (ν w1) (ι x0) (ι x1) (ι x2) (ι x3) (ι x4) (ι x5) (.slice xa xn xc):World)) n4 307 [ι 0,ι 0,ι 0,ι 0,ι 0,ι 0,ζ]:=aa;have AG:dG [ι x0,ι x1,ι x2,ι x3,ι x4,ι x5,.slice xa xn xc]:=⟨x0,x1,x2,x3,x4,x5,xa,xn,xc,rfl⟩;clear aX ak aa;generalize (σ7 E (ν w1) (ι x0) (ι x1) (ι x2) (ι x3) (ι x4) (ι x5) (.slice xa xn xc):World)=V at *;obtain⟨e0,f0,e1,f1,e2,f2,e3,f3,e4,f4,e5,f5,e6,f6,-⟩:=kb6 A1;obtain⟨g0,O,g1,Z,g2,k2,g3,k3,g4,k4,g5,k5,g6,k6,-⟩:=kb6 A2;clear A1;have ah:=χ A2;clear A2;go_wp2_with fail
 have Y:A ((σ7 V n4 (ι x0) (ι x1) (ι x2) (ι x3) (ι x4) (ι x5) (.slice xa xn xc):World)) n4 307 [ι x0,ι x1,ι x2,ι x3,ι x4,ι x5,.slice xa xn xc]:=aW (b:=0) [(0,ι x0),(1,ι x1),(2,ι x2),(3,ι x3),(4,ι x4),(5,ι x5),(6,.slice xa xn xc)] _ _ ah.out;obtain⟨o',r1,r2⟩:=HX.1;obtain⟨o2,r3,r4⟩:=aL.out _ _ _ _ r1 r2 AG (ai.same (aE (S:=fun k=>k=n4∨k=w1.heap.size) (g:=n4) (.inl rfl) 0 [(0,ι x0),(1,ι x1),(2,ι x2),(3,ι x3),(4,ι x4),(5,ι x5),(6,.slice xa xn xc)] _))
 exact Zl (v:= .tuple #[.agg #[ι x0,ι x1,ι x2,ι x3,ι x4,ι x5,.slice xa xn xc],ι 0]) (by simp[results,results401,go_sem,A.c Y 0 rfl,A.c Y 1 rfl,A.c Y 2 rfl,A.c Y 3 rfl,A.c Y 4 rfl,A.c Y 5 rfl,A.c Y 6 rfl]) rfl ⟨o2,r3,_,rfl,r4⟩):p:=h
def s9 (z:Wf o w) (hI:aI o w W wm L) (hE:a6 o w) (hP:a9 o w p m) (af:p∉L) (h:e' m.n (!(m.kd == 5)) 0 wm=(.ok (),wm')) (bw bp B) (hB:B≤w.heap.size) (ao:A w bw 27 [aA W]) (a1:A w bp 293 [aA p]) (n1:o bw=none) (n2:o bp=none) :
  Calls prog 401 #[π bw,π bp] w fun e w'=>∃o',J (·∈L) o w o' w'∧∃l,e= .returned (.tuple #[.agg l.toArray,ι 0])∧d7 B W wm' L l o' w':=by
 obtain⟨aD,cx,av,cv,hP⟩:=hP;refine yb ?_;intro an;have aU:(o.set (ν w) (some w.heap.size)) w.heap.size=some w.heap.size:=Zw _ _ _;refine xV ?_;intro O;have hL:=hI.lt;have ae:=z.BD an;have ap:=an.kp;have aJ:=hI.kept ap an.size fun _ _=>Zk;have aP:=hE.kept ap;refine AH ?_;intro aj m1 m2 q1 q2;have l1:bw≠w.heap.size:=by have:=ao.lt;omega
 have l2:bp≠w.heap.size:=by have:=a1.lt;omega
 have l3:p≠w.heap.size:=by have:=hP.blk.lt;omega
 have aS:=an;have a8:(w.alloc θ).heap.size=w.heap.size+1:=by simp
 clear ao a1 hI hE hP n1 n2;generalize o.set (ν w) (some w.heap.size)=o4 at *;obtain⟨n4,bc⟩:∃n,w.heap.size=n:=⟨_,rfl⟩;have c0:=m1.c 0 rfl;have c1:=m2.c 0 rfl;have c2:=aj.blk.c 11 rfl;unfold aA at c0 c1;have ad:∀b∈[bw,bp,p],b < (w.alloc θ).heap.size:=za;have az:∀b∈[bw,bp,p],b≠n4:=by
  intro b hb;simp only[List.mem_cons,List.not_mem_nil,or_false] at hb;rcases hb with rfl | rfl | rfl
  ·exact bc ▸ l1
  ·exact bc ▸ l2
  ·exact bc ▸ l3
 rw[bc] at O aU;clear an ap l1 l2 l3;go_enter func401,ntmps401;go_wp2_with fail;generalize w.alloc θ=w1 at *;obtain⟨r,aO⟩:∃r,∀(o2:ab) (G:World),J Θ o4 w1 o2 G→Calls prog 370 #[π W,ι m.n,ι (sd (!(m.kd == 5))),ι 0] G (eH W wm' r L o2 G):=by
  obtain⟨r,hr⟩:=qg h
  exact⟨r,fun o2 G U=>by
   have I:=U.kp
   exact hr (ae.BD U) (aJ.kept I U.size fun _ _=>Zk) (aP.kept I)⟩
 have hC:∀(o2:ab) (G:World),J Θ o4 w1 o2 G→Calls prog 341 #[π p] G (μ (ι (sd (!(m.kd == 5)))) G):=fun o2 G U=>by have I:=U.kp;exact lF (aP.kept I) p m.kd ((aj.kept I U.size trivial).blk.c 10 rfl)
 have hA:∀(o2:ab) (G:World),J Θ o4 w1 o2 G→Calls prog 370 #[π W,ι m.n,ι (sd (!(m.kd == 5))),ι 0] G fun e E=>∃(x0 x1 x2 x3 x4 x5:Int) (xa:Option Addr) (xn xc:Nat) (xb:Bool),e= .returned (.tuple #[.agg #[ι x0,ι x1,ι x2,ι x3,ι x4,ι x5,.slice xa xn xc],.bool xb,ι 0]) ∧
   Hid ((∃o',J (·∈L) o2 G o' E∧aT (ν G) W wm' L o' E)∧(∀b∈[bw,bp,p],E.heap[b]? =w1.heap[b]?)∧A E n4 307 [ι 0,ι 0,ι 0,ι 0,ι 0,ι 0,ζ]∧G.heap.size≤E.heap.size∧∀b,o2 b=some b→b∉L→b < G.heap.size→E.heap[b]? =G.heap[b]?):=by
  intro o2 G aq;refine (aO o2 G aq).mono ?_;rintro e E ⟨o',ag,aV,cs,b,rfl,hF⟩;obtain⟨x0,x1,x2,x3,x4,x5,xa,xn,xc,rfl⟩:=hF.agg;have U:J (·∈L) o4 w1 o' E:=(aq.more ae fun _ _ h=>h.elim).same ae ag;refine⟨x0,x1,x2,x3,x4,x5,xa,xn,xc,b,rfl,χ ⟨⟨o',ag,aV⟩,fun b hb=>?_,?_,ag.size,fun b H h2 h3=>(ZO (K:=(·=b)) ag (fun q e=>by rw[e];exact h2) b h3 (fun q hq=>by rw[H] at hq;cases hq;rfl)).1⟩⟩
  ·simp only[List.mem_cons,List.not_mem_nil,or_false] at hb
   rcases hb with rfl | rfl | rfl
   ·exact (U.frozen b m1.lt (fun q hq=>by rw[q1] at hq;cases hq)).1
   ·exact (U.frozen b m2.lt (fun q hq=>by rw[q2] at hq;cases hq)).1
   ·exact (ZO (K:=(·=b)) U (fun q e=>by rw[e];exact af) b aj.blk.lt (fun q hq=>by rw[aj.own] at hq;cases hq;rfl)).1
  ·exact (ZO (K:=(·=n4)) U (fun q e=>by rw[e];intro h;have:=hL _ h;omega) n4 ω (fun q hq=>by rw[aU] at hq;cases hq;rfl)).1.trans O
 have aF:J Θ o4 w1 o4 w1.drew:=Zb ae (Zj _ _).drew;have be:=ZJ ae (.cells #[ι 0,ι 0,ι 0,ι 0,ι 0,ι 0,ζ] 307);have ay:J Θ o4 w1 (o4.set (ν w1) (some w1.heap.size)) (w1.alloc θ).drew:=be.same ae (Zb (ae.BD be) (Zj _ _).drew);have kB:A (w1.alloc θ).drew (ν w1) 307 [ι 0,ι 0,ι 0,ι 0,ι 0,ι 0,ζ]:=Zh w1 _ _;have oB:(o4.set (ν w1) (some w1.heap.size)) w1.heap.size=some w1.heap.size:=Zw _ _ _;have lB:w1.heap.size < (w1.alloc θ).drew.heap.size:=kB.lt;have bh:∀b∈[bw,bp,p],w1.drew.heap[b]? =w1.heap[b]? :=fun _ _=>rfl;have ax:∀b∈[bw,bp,p],(w1.alloc θ).drew.heap[b]? =w1.heap[b]? :=fun b hb=>(am w1 _).block b (ad b hb);refine Ay ?_;intro aB;have HA:=χ hA;have HC:=χ hC;have aY:=χ aF;have aK:=χ ay;have aM:=χ kB;have a0:=χ ad;have ac:=χ az;have aN:=χ (fun h=>by have:=hL _ h;omega:w1.heap.size∉L);have aC:=χ (fun E M o' (l:List Value) (r1:J (·∈L) o4 w1.drew o' E) (r2:aT w1.drew.heap.size W wm' L o' E) (ha:dG l) (hF:Fr (fun k=>k=n4) E M)=>d7.fin (B:=B) (S:=fun k=>k=n4) z aS aF r1 r2 hL hB ha (fun k hk=>⟨ω,by show k < w1.heap.size;omega,by rw[hk];exact aU⟩) hF)
 have aL:=χ (fun E M o' (l:List Value) (r1:J (·∈L) (o4.set (ν w1) (some w1.heap.size)) (w1.alloc θ).drew o' E) (r2:aT (w1.alloc θ).drew.heap.size W wm' L o' E) (ha:dG l) (hF:Fr (fun k=>k=n4∨k=w1.heap.size) E M)=>d7.fin (B:=B) (S:=fun k=>k=n4∨k=w1.heap.size) z aS ay r1 r2 hL hB ha (fun k hk=>by
   rcases hk with rfl | rfl
   ·exact⟨ω,ω,by rw[ab.BG _ _ ω];exact aU⟩
   ·exact⟨ω,lB,oB⟩) hF)
 have aR:n4 < w1.heap.size:=ω;generalize sd (!(m.kd == 5))=sv at *;clear hA hC aO ad az aj aP aJ h m1 m2 q1 q2 aF ay be kB a8;refine ik 20 [13] [(0,true),(1,true),(2,true),(3,true),(4,true),(5,true),(6,true),(7,false),(8,false),(9,true),(10,true),(11,true),(12,true),(14,false),(15,true),(16,true)] (fun w'=>w'.cell? (κ bw 0)=π W∧w'.cell? (κ bp 0)=π p∧w'.cell? (κ p 11)=ι m.n) ψ ψ (aB.out _ bh) ?_;iterate 7 (refine wpG_t ?_;try go_frame)
 refine cG rfl rfl (fun K I=>?fa1) (fun _ K I=>?oa1)
 case fa1=>
  go_simp;refine I _ _ _ Φ (aB.out _ ax) ?_;clear I K;try go_frame
  refine bv rfl (fun K I=>?_);go_simp;go_at_call 341;refine γ (HC.out _ _ aK.out) ?_;refine I _ _ _ Φ (fun _=>aB.out _ ax) ?_;exact AI
 case oa1=>
  go_simp;go_at_call 341;refine γ (HC.out _ _ aY.out) ?_;refine I _ _ _ Φ (fun _=>aB.out _ bh) ?_;clear I K;try go_frame
  refine cG rfl rfl (fun K I=>?fa2) (fun _ K I=>?oa2)
  case fa2=>go_simp;refine I _ _ _ Φ (aB.out _ ax) ?_;exact AI
  case oa2=>
   go_simp;go_at_call 370;refine (HA.out _ _ aY.out).mono ?_;rintro e E ⟨x0,x1,x2,x3,x4,x5,xa,xn,xc,xb,rfl,aQ⟩;have HX:=aQ.out;have a5:=HX.2.1;have aG:∀b∈[bw,bp,p],b < E.heap.size:=fun b aw=>Za (a0.out b aw) HX.2.2.2.1;refine I _ _ _ Φ (fun _=>aB.out _ a5) ?_;clear I K;try go_frame
   iterate 4 (refine wpG_t ?_;try go_frame)
   refine cG rfl rfl (fun K I=>?_) (fun hd=>(ZR (hd.symm.trans ψ)).elim);have aZ:∀b∈[bw,bp,p],(E.alloc θ).heap[b]? =w1.heap[b]? :=fun b aw=>((am E _).block b (aG b aw)).trans (a5 b aw);have aX:∀b∈[bw,bp,p],(E.alloc (.cells #[ι x0,ι x1,ι x2,ι x3,ι x4,ι x5,.slice xa xn xc] 307)).heap[b]? =w1.heap[b]? :=fun b aw=>((am E _).block b (aG b aw)).trans (a5 b aw);go_simp;refine I _ _ _ Φ (aB.out _ aZ) ?_;clear I K;try go_frame
   have ak:=Zh E 307 [ι 0,ι 0,ι 0,ι 0,ι 0,ι 0,ζ];obtain⟨e0,f0,e1,f1,e2,f2,e3,f3,e4,f4,e5,f5,e6,f6,-⟩:=kb6 ak;refine bv rfl (fun K I=>?_);go_simp;refine I _ _ _ Φ (fun _=>aB.out _ aX) ?_;clear I K;try go_frame
   iterate 2 (refine wpG_t ?_;try go_frame)
   refine cy ?_;have ai:Fr (fun k=>k=n4) E (E.alloc (.cells #[ι x0,ι x1,ι x2,ι x3,ι x4,ι x5,.slice xa xn xc] 307)):=Yp _;have aa:A (E.alloc (.cells #[ι x0,ι x1,ι x2,ι x3,ι x4,ι x5,.slice xa xn xc] 307)) n4 307 [ι 0,ι 0,ι 0,ι 0,ι 0,ι 0,ζ]:=HX.2.2.1.alloc _;have A1:A (E.alloc (.cells #[ι x0,ι x1,ι x2,ι x3,ι x4,ι x5,.slice xa xn xc] 307)) (ν E) 307 [ι x0,ι x1,ι x2,ι x3,ι x4,ι x5,.slice xa xn xc]:=Zh E _ _;have A2:A (E.alloc (.cells #[ι x0,ι x1,ι x2,ι x3,ι x4,ι x5,.slice xa xn xc] 307)) n4 307 [ι 0,ι 0,ι 0,ι 0,ι 0,ι 0,ζ]:=aa;have AG:dG [ι x0,ι x1,ι x2,ι x3,ι x4,ι x5,.slice xa xn xc]:=⟨x0,x1,x2,x3,x4,x5,xa,xn,xc,rfl⟩;clear aX ak aa;generalize E.alloc (.cells #[ι x0,ι x1,ι x2,ι x3,ι x4,ι x5,.slice xa xn xc] 307)=V at *;obtain⟨e0,f0,e1,f1,e2,f2,e3,f3,e4,f4,e5,f5,e6,f6,-⟩:=kb6 A1;obtain⟨g0,O,g1,Z,g2,k2,g3,k3,g4,k4,g5,k5,g6,k6,-⟩:=kb6 A2;clear A1;have ah:=χ A2;clear A2;go_wp2_with fail;have Y:A ((σ7 V n4 (ι x0) (ι x1) (ι x2) (ι x3) (ι x4) (ι x5) (.slice xa xn xc):World)) n4 307 [ι x0,ι x1,ι x2,ι x3,ι x4,ι x5,.slice xa xn xc]:=aW (b:=0) [(0,ι x0),(1,ι x1),(2,ι x2),(3,ι x3),(4,ι x4),(5,ι x5),(6,.slice xa xn xc)] _ _ ah.out;obtain⟨o',r1,r2⟩:=HX.1;obtain⟨o2,r3,r4⟩:=aC.out _ _ _ _ r1 r2 AG (ai.same (aE (S:=fun k=>k=n4) (g:=n4) rfl 0 [(0,ι x0),(1,ι x1),(2,ι x2),(3,ι x3),(4,ι x4),(5,ι x5),(6,.slice xa xn xc)] _))
   exact Zl (v:= .tuple #[.agg #[ι x0,ι x1,ι x2,ι x3,ι x4,ι x5,.slice xa xn xc],ι 0]) (by simp[results,results401,go_sem,A.c Y 0 rfl,A.c Y 1 rfl,A.c Y 2 rfl,A.c Y 3 rfl,A.c Y 4 rfl,A.c Y 5 rfl,A.c Y 6 rfl]) rfl ⟨o2,r3,_,rfl,r4⟩
def yx {p q:Prop} (k:q) (h:Zq q→p:=by
 intro mq;have n0:o w.heap.size=none:=z.ge (Zc _);have n1:o (w.heap.size+1)=none:=z.ge ω;revert n0 n1
 exact mq.u):p:=h ⟨k⟩
def ou (z:Wf o w) (hI:aI o w W wm L) (hE:a6 o w) (hP:a9 o w p m) (af:p∉L) (h:e' m.n (!(m.kd == 5)) 0 wm=(.ok (),wm')):Calls prog 347 #[π p,π W] w fun e w'=>∃o',J (·∈L) o w o' w'∧aT (ν w) W wm' L o' w'∧e= .returned (.tuple #[]):=by
 obtain⟨w1,ae,z1,b1,O⟩:=al1 w 293 [aA p];obtain⟨G,ap,z2,b2,Z,au⟩:=al2 b1 z1 27 [aA W];replace O:=au _ _ _ O;clear au;refine yx ?_;intro n0 n1;have aM:=z.below b2;have aq:J Θ o w o G:=Zb z b2;have bg:=aq.kp;have ac:=hI.below z b2;have aB:=hE.kept bg;have aF:=hP.kept bg b2.size trivial;have hL:=hI.lt;have aG:=j' 401 #[π (η w),ϖ w] (·∈L) (d7 (η G) W wm' L) o G aM
  (fun k hk=>by have:=hL k hk;omega)
  (d7.stays (fun k hk=>by have:=hL k hk;omega) ω) (fun _ _ _ h=>h.2) Ψ
  (fun o2 M aK ao aZ=>by
    have aa:=ao.kp
    exact s9 aK (ac.kept aa ao.size fun _ _=>Zk) (aB.kept aa) (aF.kept aa ao.size trivial) af h _ _ _ ω (aa.BF Z n1).1 (aa.BF O n0).1 (aa.BF Z n1).2 (aa.BF O n0).2)
 have A:=χ aq;clear hE aB hI ac hP aF h Z O n1 n0 aq bg;unfold aA at *;go_enter func347,ntmps347;go_wp2_with fail;refine aG.mono ?_;rintro e1 M ⟨o4,ao,l,rfl,⟨L',H,h2⟩,hl⟩;have hF:∃o',J (·∈L) o w o' M∧aT (ν w) W wm' L o' M:=⟨o4,(A.out.more z fun _ _ h=>h.elim).same z ao,L',H,fun k hk=>(h2 k hk).imp id fun h=>by omega⟩;clear ao H h2 aG;go_wp2_with fail;refine xQ ?_;obtain⟨o',H,h2⟩:=hF;exact⟨o',H,h2,rfl⟩
def AJ {p:Prop} (h:p:=by
 have c7:=aj.blk.c 7 rfl;have f7:=aj.blk.fz 7;have HF:=χ (be.BY (b:=false) z (ak.more (D':=fun k=>k∈L∨k=p) z fun _ _ h=>.inl h) (Zc _) af aQ O t1 ⟨_,_,_,_,t2⟩);clear t1 t2 O ak aj hC;go_wp2_with fail;go_ret
 exact HF.out):p:=h
def rb (z:Wf o w) (hI:aI o w W wm L) (hE:a6 o w) (hP:a9 o w p m) (af:p∉L) (h:e' m.n (!(m.kd == 5)) 0 wm=(.ok (),wm')):Calls prog 307 #[π p,π W] w (be W p {m with at_:=2} wm' L false o w):=by have hC:=ou z hI hE hP af h;have aQ:=hP.lt;have HP:=χ hP;clear h hI hE hP;go_enter func307,ntmps307;go_wp2_with fail;refine hC.mono ?_;rintro e1 w1 ⟨o1,ak,O,rfl⟩;have ae:=z.BD ak;obtain⟨aD,cx,av,cv,aj⟩:=HP.out.kept (ak.et (K:=(·=p)) fun q e=>by rw[e];exact af) ak.size rfl;obtain⟨t1,t2⟩:=aj.state ae 2;exact AJ
def p6 (z:Wf o w) (hI:aI o w W wm L) (hE:a6 o w) (hP:a9 o w p m) (af:p∉L) (h:e' m.n (!(m.kd == 5)) 0 wm=(.ok (),wm')):Calls prog 308 #[π p,π W] w (be W p {m with at_:=7} wm' L false o w):=by have hC:=ou z hI hE hP af h;have aQ:=hP.lt;have HP:=χ hP;clear h hI hE hP;go_enter func308,ntmps308;go_wp2_with fail;refine hC.mono ?_;rintro e1 w1 ⟨o1,ak,O,rfl⟩;have ae:=z.BD ak;obtain⟨aD,cx,av,cv,aj⟩:=HP.out.kept (ak.et (K:=(·=p)) fun q e=>by rw[e];exact af) ak.size rfl;obtain⟨t1,t2⟩:=aj.state ae 7;exact AJ
end
end
section
section
variable {o o':ab} {w w':World} {p W:Nat} {m:bP} {aD av:Option Addr} {cx cv:Nat} {K:Nat→Prop} {wm wm':aH} {L:List Nat}
def mQ (ok w):aG ok w dm (.agg (υ dm none 0)):=by unfold dm;rw[aG];exact⟨none,0,rfl,by unfold ag;omega,by unfold ag;omega,Zc _,Z2 _,cE.2 (Ym _ _ _ _ _)⟩
def aT.kept {B K} (h:aT B W wm L o w) (I:aM K o w o' w') (hs:w.heap.size≤w'.heap.size) (hk:∀k,k∈L∨B≤k→K k):aT B W wm L o' w':=by obtain⟨L',H,h2⟩:=h;exact⟨L',H.kept I hs fun k E=>hk k (h2 k E),h2⟩
def aT.below {B} (h:aT B W wm L o w) (z:Wf o w) (hb:Below (ν w) w w'):aT B W wm L o w':=
 h.kept (kB z hb) hb.size fun _ _=>Zk
def yy {p q:Prop} (k:q) (h:Zq q→p:=by
 intro mq;have ae:=z.BD ak;have aj:=HP.out.kept (ak.et (K:=(·=p)) fun q e=>by rw[e];exact af) ak.size rfl;obtain⟨G,ap⟩:∃u,w1.alloc θ2=u:=⟨_,rfl⟩;have aa:Below (ν w1) w1 G:=by rw[←ap];exact am w1 _
 have ai:=eC (ν w1) 1 G (by rw[←ap];exact (Zh w1 33 [ι 0]).c 0 rfl);revert ae aj G ap aa ai
 exact mq.u):p:=h ⟨k⟩
def AK {p:Prop} (h:p:=by
 have c7:=aF.blk.c 7 rfl;have f7:=aF.blk.fz 7;have HF:=χ (be.BY (b:=false) z (aq.more (D':=fun k=>k∈L∨k=p) z fun _ _ h=>.inl h) (Zc _) af aQ aG t1 ⟨_,_,_,_,t2⟩);clear t1 t2 O ak aj hC aF aG aq aV bg aa HP;go_wp2_with (go_at_call 345;refine γ ai ?_);go_ret
 exact HF.out):p:=h
def su (z:Wf o w) (hI:aI o w W wm L) (hP:a9 o w p m) (af:p∉L) (h:b1 m.n wm=(.ok (),wm')):Calls prog 309 #[π p,π W] w (be W p {m with at_:=10} wm' L false o w):=by have hC:=j0 z hI h;have aQ:=hP.lt;obtain⟨aD,cx,av,cv,ay⟩:=hP;have U:=ay.blk.c 11 rfl;have HP:=χ ay;clear h hI ay;go_enter func309,ntmps309;go_wp2_with fail;refine hC.mono ?_;rintro e1 w1 ⟨o1,ak,O,rfl⟩;refine yy ?_;intro ae aj G ap aa ai;have bg:=(tB ae aa).kp;have aF:=aj.kept bg aa.size trivial;have aG:=O.below ae aa;have aq:=ak.same z (Zb ae aa);have aV:=z.BD aq;obtain⟨t1,t2⟩:=aF.state aV 10;exact AK
def qk (z:Wf o w) (hI:aI o w W wm L) (hP:a9 o w p m) (af:p∉L) (h:b1 m.n wm=(.ok (),wm')):Calls prog 310 #[π p,π W] w (be W p {m with at_:=11} wm' L false o w):=by have hC:=j0 z hI h;have aQ:=hP.lt;obtain⟨aD,cx,av,cv,ay⟩:=hP;have U:=ay.blk.c 11 rfl;have HP:=χ ay;clear h hI ay;go_enter func310,ntmps310;go_wp2_with fail;refine hC.mono ?_;rintro e1 w1 ⟨o1,ak,O,rfl⟩;refine yy ?_;intro ae aj G ap aa ai;have bg:=(tB ae aa).kp;have aF:=aj.kept bg aa.size trivial;have aG:=O.below ae aa;have aq:=ak.same z (Zb ae aa);have aV:=z.BD aq;obtain⟨t1,t2⟩:=aF.state aV 11;exact AK
def AL {p q:Prop} (k:q) (h:Zq q→p:=by
 intro mq
 have I:=χ (fun o5 V (U:J (·∈L') o1 M.drew o5 V) (hS:aT M.drew.heap.size W wm' L' o5 V)=>(show J (·∈L) o w o5 V∧aT (ν w) W wm' L o5 V∧b' o5 V p m aD cx av cv from by
   have ak:=aF.out;have aY:=Z.size;have s1:=ak.size;refine⟨(ak.same z (Z.more ae fun _ _ h=>h.elim)).trans z U fun k hk h=>(a' k h).resolve_right ω,?_,aq.kept (U.et (K:=(·=p)) fun q e=>by rw[e];exact an) U.size rfl⟩;obtain⟨L2,g1,g2⟩:=iq hS
   exact⟨L2,g1,fun k hk=>(g2 k hk).elim (a' k) fun h=>.inr ω⟩))
 have bh:∀b∈[p,E.heap.size],M.drew.heap[b]? =M.heap[b]? :=fun _ _=>rfl;revert I bh
 exact mq.u):p:=h ⟨k⟩
def AM {p:Prop} (h:p:=by
 obtain⟨g1,g2,g3⟩:=I.out o5 V az aC;have aL:=z.BD g1;have aw:=am V (.cells #[ι 0] 33);have g2:=g2.below aL aw;have g3:=g3.kept (kB aL aw) aw.size trivial;have g1:=g1.same z (Zb aL aw);clear aX bg bF az aC aw aL;generalize V.alloc θ2=w6 at *;obtain⟨t1,t2⟩:=g3.state (z.BD g1) 11;have c7:=g3.blk.c 7 rfl;have f7:=g3.blk.fz 7;have HF:=χ (be.BY (b:=true) z (g1.more (D':=fun k=>k∈L∨k=p) z fun _ _ h=>.inl h) (Zc _) af aQ g2 t1 ⟨_,_,_,_,t2⟩);clear t1 t2 g1 g2 g3 I ax;go_wp2_with fail;go_ret
 exact HF.out):p:=h
def xe (z:Wf o w) (hI:aI o w W wm L) (hP:a9 o w p m) (af:p∉L) (hk:m.kd=7) {wm1} (H:ct m.own wm=(.ok (),wm1)) (h2:dQ m.own m.br m.v (-1) wm1=(.ok (),wm')):Calls prog 312 #[π p,π W] w (be W p {m with at_:=11} wm' L true o w):=by
 have hC:=mC z hI H;have aQ:=hP.lt;obtain⟨aD,cx,av,cv,ay⟩:=hP;have c8:=ay.blk.c 8 rfl;have HP:=χ ay;have aS:=χ hk;clear H hI ay hk;go_enter func312,ntmps312;go_wp2_with fail;refine hC.mono ?_;rintro e1 w1 ⟨o1,ak,O,rfl⟩;refine yy ?_;intro ae aj G ap aa ai;have aM:=fK G;have aF:=χ ak;have aO:=χ O;have aG:=χ aj;have bl:=χ aa;clear ak O aj aa HP hC;go_upto_region 2 with (go_at_call 345;refine γ ai ?_);go_wp2_with fail;refine aM.mono ?_;rintro e3 E ⟨rfl,ac⟩;have ag:Below (ν w1) w1 E:=bl.out.trans (ac.mono bl.out.size);have Y:=Zh E 86 [ι 1,ι 0,ζ];have ao:Fr Θ w1 (E.alloc (υ m.v av cv)):=(ZA ag).same (Yp _);have bo:J Θ o1 w1 o1 (E.alloc (υ m.v av cv)):=Z9 ae ao fun _ _ h=>h.elim;have k4:A (E.alloc (υ m.v av cv)) (ν E) 86 [ι m.v.kd,ι m.v.n,.slice av m.v.l.length cv]:=Zh E _ _;have n4:o1 E.heap.size=none:=ae.ge ag.size;have ad:=aG.out.kept (bo.kp) bo.size trivial;have aU:=(tB ae ag).kp;have ah:=(aG.out.kept aU ag.size trivial).blk.alloc (.cells #[ι 1,ι 0,ζ] 86);have a4:=ah.c 10 rfl;rw[aS.out] at a4;obtain⟨-,-,-,-,-,-,-,-,-,-,-,-,a7,aN,bD,-⟩:=kc14 ah;obtain⟨z0,y0,z1,y1,z2,y2,-⟩:=kb2 Y;have aA:=χ bo;have aW:=χ ad;have bq:=χ k4;clear bo ad k4 ao ah Y ai;go_upto_region 5 with fail;generalize E.alloc (υ m.v av cv)=M at *;obtain⟨L',aJ,a'⟩:=aO.out;have aK:=ae.BD aA.out;have aP:J Θ o1 M o1 M.drew:=Zb aK (Zj _ _).drew;have aE:=aK.BD aP;have Z:=aA.out.same ae aP;have aV:=Z.kp;have aq:=aW.out.kept (aP.kp) aP.size trivial
 have an:p∉L':=fun h=>(a' p h).elim af fun h=>by omega
 have aR:=h8 aE (aJ.kept aV Z.size fun _ _=>Zk) aq.v h2;have k4:=bq.out;obtain⟨-,-,-,-,-,-,-,-,c8,c9,-⟩:=kc9 aW.out.blk;obtain⟨b0,b1,b2,-⟩:=kc2 k4;have bd:=aW.out.blk.lt
 have a0:=χ (fun b (hb:b∈[p,E.heap.size])=>(show b < M.heap.size from by
   simp only[List.mem_cons,List.not_mem_nil,or_false] at hb;rcases hb with rfl | rfl
   ·exact bd
   ·exact k4.lt))
 have aB:=χ (fun (w':World) (h:∀b∈[p,E.heap.size],w'.heap[b]? =M.heap[b]?)=>(show w'.cell? (κ p 8)=ι m.own∧w'.cell? (κ p 9)=ι m.br∧w'.cell? (κ (ν E) 0)=ι m.v.kd∧w'.cell? (κ (ν E) 1)=ι m.v.n∧w'.cell? (κ (ν E) 2)=some (.slice av m.v.l.length cv) from⟨(Zd (w:=M) (h p ξ)).trans c8,(Zd (w:=M) (h p ξ)).trans c9,(Zd (w:=M) (h _ ξ)).trans b0,(Zd (w:=M) (h _ ξ)).trans b1,(Zd (w:=M) (h _ ξ)).trans b2⟩))
 have ax:=χ (fun o5 V (U:J (·∈L') o1 M.drew o5 V) b (hb:b∈[p,E.heap.size])=>(show V.heap[b]? =M.heap[b]? from by
   simp only[List.mem_cons,List.not_mem_nil,or_false] at hb;rcases hb with rfl | rfl
   ·exact (ZO (K:=(·=b)) U (fun q e=>by rw[e];exact an) b bd (fun q hq=>by rw[aW.out.own] at hq;cases hq;rfl)).1
   ·exact (U.frozen _ k4.lt (fun q hq=>by rw[n4] at hq;cases hq)).1))
 refine AL ?_;intro I bh;clear aq Z aV aP aE aK k4 h2 b0 b1 b2 c8 c9 aJ bd a4 a7 aN bD z0 z1 z2 y0 y1 y2;go_region_held3 (fun w'=>w'.cell? (κ p 8)=ι m.own∧w'.cell? (κ p 9)=ι m.br∧w'.cell? (κ (ν E) 0)=ι m.v.kd∧w'.cell? (κ (ν E) 1)=ι m.v.n∧w'.cell? (κ (ν E) 2)=some (.slice av m.v.l.length cv))
   (first | with_reducible exact aB.out _ bh | with_reducible exact aB.out _ aX | with_reducible exact aB.out _ bg)
   (first
     | (go_at_call 345;(refine γ bF ?_;dsimp only))
     | (go_at_call 346;(refine aR.mono ?_;rintro e V ⟨o5,az,aC,rfl⟩;have aX:=ax.out o5 V az;have bj:∀b∈[p,E.heap.size],b < V.heap.size:=fun b hb=>Za (a0.out b hb) (show M.heap.size≤V.heap.size from az.size);have bg:∀b∈[p,E.heap.size],(V.alloc θ2).heap[b]? =M.heap[b]? :=fun b hb=>((am V _).block b (bj b hb)).trans (aX b hb);have bF:=eC (ν V) 1 (V.alloc θ2) ((Zh V 33 [ι 0]).c 0 rfl);dsimp only)))
 exact AM
def t7 (z:Wf o w) (hI:aI o w W wm L) (hP:a9 o w p m) (af:p∉L) (hk:m.kd≠7) {wm1} (H:ct m.own wm=(.ok (),wm1)) (h2:dQ m.own m.br dm (-1) wm1=(.ok (),wm')):Calls prog 312 #[π p,π W] w (be W p {m with at_:=11} wm' L true o w):=by
 have hC:=mC z hI H;have aQ:=hP.lt;obtain⟨aD,cx,av,cv,ay⟩:=hP;have c8:=ay.blk.c 8 rfl;have HP:=χ ay;clear H hI ay;go_enter func312,ntmps312;go_wp2_with fail;refine hC.mono ?_;rintro e1 w1 ⟨o1,ak,O,rfl⟩;refine yy ?_;intro ae aj G ap aa ai;have aM:=fK G;have aF:=χ ak;have aO:=χ O;have aG:=χ aj;have bl:=χ aa;clear ak O aj aa HP hC;go_upto_region 2 with (go_at_call 345;refine γ ai ?_);go_wp2_with fail;refine aM.mono ?_;rintro e3 E ⟨rfl,ac⟩;have ag:Below (ν w1) w1 E:=bl.out.trans (ac.mono bl.out.size);have Y:=Zh E 86 [ι 1,ι 0,ζ];have ao:Fr Θ w1 (E.alloc (.cells #[ι 1,ι 0,ζ] 86)):=(ZA ag).same (Yp _);have bo:J Θ o1 w1 o1 (E.alloc (.cells #[ι 1,ι 0,ζ] 86)):=Z9 ae ao fun _ _ h=>h.elim;have k4:A (E.alloc (.cells #[ι 1,ι 0,ζ] 86)) (ν E) 86 [ι 1,ι 0,ζ]:=Zh E _ _;have n4:o1 E.heap.size=none:=ae.ge ag.size;have ad:=aG.out.kept (bo.kp) bo.size trivial;have aU:=(tB ae ag).kp;have ah:=(aG.out.kept aU ag.size trivial).blk.alloc (.cells #[ι 1,ι 0,ζ] 86);obtain⟨-,-,-,-,-,-,-,-,-,-,a4,-,a7,aN,bD,-⟩:=kc14 ah;obtain⟨-,-,z1,y1,z2,y2,-⟩:=kb2 Y;have aA:=χ bo;have aW:=χ ad;have bq:=χ k4;clear bo ad k4 ao ah Y ai;go_upto_region 5 with fail;generalize E.alloc (.cells #[ι 1,ι 0,ζ] 86)=M at *;obtain⟨L',aJ,a'⟩:=aO.out;have aK:=ae.BD aA.out;have aP:J Θ o1 M o1 M.drew:=Zb aK (Zj _ _).drew;have aE:=aK.BD aP;have Z:=aA.out.same ae aP;have aV:=Z.kp;have aq:=aW.out.kept (aP.kp) aP.size trivial;have an:p∉L':=fun h=>(a' p h).elim af fun h=>by omega
 have aR:=h8 aE (aJ.kept aV Z.size fun _ _=>Zk) (mQ _ _) h2;have k4:=bq.out;obtain⟨-,-,-,-,-,-,-,-,c8,c9,-⟩:=kc9 aW.out.blk;obtain⟨b0,b1,b2,-⟩:=kc2 k4;have bd:=aW.out.blk.lt
 have a0:=χ (fun b (hb:b∈[p,E.heap.size])=>(show b < M.heap.size from by
   simp only[List.mem_cons,List.not_mem_nil,or_false] at hb;rcases hb with rfl | rfl
   ·exact bd
   ·exact k4.lt))
 have aB:=χ (fun (w':World) (h:∀b∈[p,E.heap.size],w'.heap[b]? =M.heap[b]?)=>(show w'.cell? (κ p 8)=ι m.own∧w'.cell? (κ p 9)=ι m.br∧w'.cell? (κ (ν E) 0)=ι 1∧w'.cell? (κ (ν E) 1)=ι 0∧w'.cell? (κ (ν E) 2)=ζ from⟨(Zd (w:=M) (h p ξ)).trans c8,(Zd (w:=M) (h p ξ)).trans c9,(Zd (w:=M) (h _ ξ)).trans b0,(Zd (w:=M) (h _ ξ)).trans b1,(Zd (w:=M) (h _ ξ)).trans b2⟩))
 have ax:=χ (fun o5 V (U:J (·∈L') o1 M.drew o5 V) b (hb:b∈[p,E.heap.size])=>(show V.heap[b]? =M.heap[b]? from by
   simp only[List.mem_cons,List.not_mem_nil,or_false] at hb;rcases hb with rfl | rfl
   ·exact (ZO (K:=(·=b)) U (fun q e=>by rw[e];exact an) b bd (fun q hq=>by rw[aW.out.own] at hq;cases hq;rfl)).1
   ·exact (U.frozen _ k4.lt (fun q hq=>by rw[n4] at hq;cases hq)).1))
 refine AL ?_;intro I bh;clear aq Z aV aP aE aK k4 h2 b0 b1 b2 c8 c9 aJ bd a4 a7 aN bD z1 z2 y1 y2;go_region_held3 (fun w'=>w'.cell? (κ p 8)=ι m.own∧w'.cell? (κ p 9)=ι m.br∧w'.cell? (κ (ν E) 0)=ι 1∧w'.cell? (κ (ν E) 1)=ι 0∧w'.cell? (κ (ν E) 2)=ζ)
   (first | with_reducible exact aB.out _ bh | with_reducible exact aB.out _ aX | with_reducible exact aB.out _ bg)
   (first
     | (go_at_call 345;(refine γ bF ?_;dsimp only))
     | (go_at_call 346;(refine aR.mono ?_;rintro e V ⟨o5,az,aC,rfl⟩;have aX:=ax.out o5 V az;have bj:∀b∈[p,E.heap.size],b < V.heap.size:=fun b hb=>Za (a0.out b hb) (show M.heap.size≤V.heap.size from az.size);have bg:∀b∈[p,E.heap.size],(V.alloc θ2).heap[b]? =M.heap[b]? :=fun b hb=>((am V _).block b (bj b hb)).trans (aX b hb);have bF:=eC (ν V) 1 (V.alloc θ2) ((Zh V 33 [ι 0]).c 0 rfl);dsimp only)))
 exact AM
end
end
section
section
variable {P:Program} {E:Array Oper} {Q:Exit→Act→World→Prop} {S J:World→Prop} {a:Act} {w:World}
def mD {st n i f g r o of og} (M:E[i]? =some o) (ao:E[f]? =some of) (aU:E[g]? =some og) (aa:(f == g)=false) (hf:∀K:Act→World→Prop,(∀a' w' J,(∀w,J w→S w)→J w'→L P E Q st n [g] J ((i,false) :: r) a' w'→K a' w')→if Region.wanted of (yielded E a.tmps)=true then Oper.wp P of a w K Q else K (a.put of.dst undef) w) (hg:∀K:Act→World→Prop,(∀a' w' J,(∀w,J w→S w)→J w'→L P E Q st n [f] J ((i,false) :: r) a' w'→K a' w')→if Region.wanted og (yielded E a.tmps)=true then Oper.wp P og a w K Q else K (a.put og.dst undef) w) (h:depB E i f=false→depB E i g=false→∀K:Act→World→Prop,(∀a' w' J,(∀w,J w→S w)→(dS E st i r=false→J w')→L P E Q st n [f,g] J r a' w'→K a' w')→if Region.wanted o (yielded E a.tmps)=true then Oper.wp P o a w K Q else K (a.put o.dst undef) w):L P E Q st (n+1) [f,g] S ((i,false) :: r) a w:=by
 unfold L;refine⟨fun f' z=>?_,fun hd=>gi M (h (hd f ξ) (hd g ξ) _ fun a' w' J H h2 h3=>⟨J,H,h2,h3⟩)⟩;rcases ZG.1 z with rfl | z
 ·exact gi ao (hf _ fun a' w' J H h2 h3=>⟨J,H,h2,by rw[List.erase_cons_head];exact h3⟩)
 ·obtain rfl:=Yo.1 z
  refine gi aU (hg _ fun a' w' J H h2 h3=>⟨J,H,h2,?_⟩);rw[List.erase_cons_tail (by rw[aa];exact Bool.false_ne_true),List.erase_cons_head];exact h3
def vR {c:Code} (F:Act→Nat→Nat→Act) (R:Nat→Nat→World→Prop) (h:c.wp P (fun e a' w'=>∃x y,e= .normal∧a'=F a x y∧R x y w') a w) (I:∀x y w',R x y w'→Q .normal (F a x y) w'):c.wp P Q a w:=
  Code.wp_mono (fun e a' w' h=>by
    obtain⟨x,y,rfl,rfl,h⟩:=h
    exact I x y w' h) h
end
end
section
section
variable {o:ab} {w:World} {p W:Nat} {m:bP} {aD av:Option Addr} {cx cv:Nat} {K:Nat→Prop} {wm wm':aH} {L:List Nat}
def p9 (z:Wf o w) (hI:aI o w W wm L) (hP:a9 o w p m) (af:p∉L) (h:cR m.ent.sy wm=(.ok 1,wm')):Calls prog 306 #[π p,π W] w (be W p m wm' L false o w):=by refine yi ?_;intro w1 ae z1 b1 O G ap b2 Z au;replace O:=au _ _ _ O;clear au;refine yh ?_;intro n0 n1 aM I ac aF;have aG:=jG 343 #[π (η w),ϖ w] G _ Ψ (jq aM ac aF af h _ _ Z O n1 n0);have aQ:=hP.lt;have bi:=χ aF;clear hP hI ac aF h Z n1 I;unfold aA at *;go_enter func306,ntmps306;exact At
def rC (z:Wf o w) (hI:aI o w W wm L) (hP:a9 o w p m) (af:p∉L) (h:cR m.ent.sy wm=(.ok 2,wm')):Calls prog 306 #[π p,π W] w (be W p {m with at_:=4} wm' L false o w):=by refine yi ?_;intro w1 ae z1 b1 O G ap b2 Z au;replace O:=au _ _ _ O;clear au;refine yh ?_;intro n0 n1 aM I ac aF;have aG:=jG 343 #[π (η w),ϖ w] G _ Ψ (jq aM ac aF af h _ _ Z O n1 n0);have aQ:=hP.lt;have bi:=χ aF;have K0:=χ O;clear hP hI ac aF h Z n1 I;unfold aA at *;go_enter func306,ntmps306;go_wp2_with fail;refine aG.mono ?_;rintro e M ⟨v,E,rfl,⟨rfl,o3,ag,aV⟩,ah⟩;have ax:=aM.BD ag;have ad:=bi.out.kept (ag.et (K:=(·=p)) fun q e=>by rw[e];exact af) ag.size rfl;refine yZ ?_;intro aa aD cx av cv aq ao aR;have aK:=ax.below ah;have c0:M.cell? (κ (ν w) 0)=π p:=y';have c7:M.cell? (κ p 7)=ι m.at_:=aq.blk.c 7 rfl;have f7:M.frozen? (κ p 7)=false:=aq.blk.fz 7;obtain⟨t1,t2⟩:=aq.state aK 4;have HF:=χ (be.fin (b:=false) z b2 af aQ ao aR t1 ⟨aD,cx,av,cv,t2⟩);clear t1 t2 ao aR aq ag aV ad aG;go_wp2_with fail;go_ret;exact HF.out
end
end
end Go.Proofs.YtmchabopafimeaaGreatDoor
