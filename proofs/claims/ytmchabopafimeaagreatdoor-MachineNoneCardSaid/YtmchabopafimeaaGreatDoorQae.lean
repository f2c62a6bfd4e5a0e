import Derived.OrdersHeld
import Derived.Maps.RangeWalk
import Derived.Test.YtmchabopafimeaaGreatDoorQad
import Derived.Deep.LoopGhost
import Derived.Laws.Bits64
namespace Go.Proofs.YtmchabopafimeaaGreatDoor
set_option maxRecDepth 100000
set_option maxHeartbeats 16000000
set_option linter.all false
open Go.RowKit Go.Sort Tryz
section
section
open Go.RowKit
def e2 (D:Nat→Bool) (i:Nat):Nat→Bool:=fun j=>if j=i then true else D j
def hz (D i):e2 D i i=true:=by simp[e2]
def hu (D) {i j} (h:j≠i):e2 D i j=D j:=by simp[e2,h]
def ei (l:List Bool):Nat:=l.countP (· == false)
def mU:∀(l:List Bool) (i:Nat),l[i]? =some false→ei (l.set i true)+1=ei l
 | [],i,h=>by simp at h
 | b :: r,0,h=>by
   simp at h
   subst h
   simp[ei]
 | b :: r,i+1,h=>by
   have:=mU r i (by simpa using h)
   simp only[ei,List.set_cons_succ,List.countP_cons] at this ⊢
   omega
def od:∀(l:List Bool),ei l=0→∀i,i < l.length→l[i]? =some true
 | [],_,i,h=>by simp at h
 | b :: r,h,0,_=>by
   simp only[ei,List.countP_cons] at h
   cases b
   ·simp at h
   ·rfl
 | b :: r,h,i+1,hi=>by
   have h2:ei r=0:=by simp only[ei,List.countP_cons] at h ⊢;omega
   simpa using od r h2 i (by simpa using hi)
section
variable {P:Program} {E:Array Oper} {Q:Exit→Act→World→Prop}
def iW (E:Array Oper):Prop:=∀i o,E[i]? =some o→∀e∈o.after,Region.binds .any e=true→e.on < i
def vL (he:iW E) (A) (hs:A.size=E.size) (hr:Region.ready .any E A=[]):∀i,i < E.size→A.getD i false=true:=by
 intro i
 induction i using Nat.strongRecOn with
 | _ i z=>
   intro hi;have M:E[i]? =some E[i]:=Array.getElem?_eq_getElem hi;have hl:i < A.size:=by omega
   cases hb:A[i] with
   | true=>simp[Array.getD,hl,hb]
   | false=>
     exfalso
     have:i∈Region.ready .any E A:=by
      unfold Region.ready;rw[List.mem_filter];refine⟨by simpa using hi,?_⟩;rw[M];simp only[Array.getD,hl,dif_pos,Option.map_some,Option.getD_some];simp only[Array.getInternal_eq_getElem,hb,Bool.not_false,Bool.true_and,Array.all_eq_true_iff_forall_mem];intro e hm;cases aM:Region.binds .any e with
      | false=>rfl
      | true=>have H:=he i _ M e hm aM;have h2:=z e.on H (by omega);simpa [Array.getD] using h2
     rw[hr] at this;cases this
def uX (he:iW E) (I:(Nat→Bool)→Act→World→Prop)
  (aD:∀(D:Nat→Bool) (a:Act) (w:World) (i:Nat) (o:Oper),I D a w→E[i]? =some o→D i=false→(∀e∈o.after,Region.binds .any e=true→D e.on=true) →
   wpOp P E Q i (fun a' w'=>I (e2 D i) a' w') a w)
  (G:∀(D:Nat→Bool) (a:Act) (w:World),I D a w→(∀i,i < E.size→D i=true)→Q .normal a w) :
  ∀(fuel:Nat) (A:Array Bool) (a:Act) (w:World),A.size=E.size→ei A.toList≤fuel→I (fun j=>A.getD j false) a w→wpAny P .any E Q fuel A a w:=by
 intro fuel
 induction fuel with
 | zero=>
   intro A a w hs hf hI;have a3:∀i,i < E.size→A.getD i false=true:=by intro i hi;have:=od A.toList (by omega) i (by simpa [hs] using hi);simp only[Array.getElem?_toList] at this;simp[this]
   refine⟨?_,G _ a w hI a3⟩;unfold Region.ready;rw[List.filter_eq_nil_iff];intro i hi;have O:i < E.size:=by simpa using hi
   have H:=a3 i O;have hl:i < A.size:=by omega
   have h2:A.getD i true=true:=by simp only[Array.getD,hl,dif_pos] at H ⊢;exact H
   rw[h2];simp
 | succ fuel z=>
   intro A a w hs hf hI;refine⟨fun hr=>G _ a w hI (vL he A hs hr),fun i hi=>?_⟩;unfold Region.ready at hi;rw[List.mem_filter] at hi;have O:i < E.size:=by simpa using hi.1
   have M:E[i]? =some E[i]:=Array.getElem?_eq_getElem O;have hl:i < A.size:=by omega
   have hc:=hi.2;rw[M] at hc;simp only[Array.getD,hl,dif_pos,Option.map_some,Option.getD_some,Bool.and_eq_true,Bool.not_eq_true',Array.getInternal_eq_getElem,Array.all_eq_true_iff_forall_mem] at hc;have h:A[i]=false:=hc.1;refine wpOp_mono ?_ (aD _ a w i _ hI M (by simp[Array.getD,hl,h]) ?_)
   ·intro a' w' J
    refine z _ a' w' (by simpa using hs) ?_ ?_
    ·have:=mU A.toList i (by simp[hl,h])
     simp only[Array.toList_setIfInBounds];omega
    ·have e:(fun j=>(A.setIfInBounds i true).getD j false)=e2 (fun j=>A.getD j false) i:=by
       funext j
       unfold e2
       by_cases hj:j=i
       ·subst hj
        simp[hl]
       ·simp[hj,Ne.symm hj]
     rw[e];exact J
   ·intro e hm hb
    have:=hc.2 e hm;rw[hb] at this;simpa [Array.getD] using this
def kH {id a w} (hm:P.follows .mixedOrders=true) (he:iW E) (I:(Nat→Bool)→Act→World→Prop) (h0:I (fun _=>false) a w.drew) (aD:∀(D:Nat→Bool) (a:Act) (w:World) (i:Nat) (o:Oper),I D a w→E[i]? =some o→D i=false→(∀e∈o.after,Region.binds .any e=true→D e.on=true) →
      wpOp P E Q i (fun a' w'=>I (e2 D i) a' w') a w) (G:∀(D:Nat→Bool) (a:Act) (w:World),I D a w→(∀i,i < E.size→D i=true)→Q .normal a w):(Code.region id E true).wp P Q a w:=by
  refine wp_region_any hm (uX he I aD G E.size _ a _ (by simp) ?_ ?_)
  ·unfold ei
   have:=List.countP_le_length (p:=(· == false)) (l:=(Array.replicate E.size false).toList);simpa using this
  ·have e:(fun j=>(Array.replicate E.size false).getD j false)=fun _=>false:=by
     funext j
     by_cases hj:j < E.size <;> simp[hj]
   rw[e];exact h0
end
end
section
open Go.RowKit
section
end
section
end
end
end
section
section
variable {P:Program} {E:Array Oper} {Q:Exit→Act→World→Prop} {S J:World→Prop} {a:Act} {w:World}
def dd (a:Act):List (Nat×Oper×Value)→Act
 | []=>a
 | p :: r=>dd (a.put p.2.1.dst p.2.2) r
def G (P:Program) (E:Array Oper) (S:World→Prop):Act→List (Nat×Oper×Value)→Prop
 | _,[]=>True
 | a,p :: r=>E[p.1]? =some p.2.1∧YieldsIf P E S p.2.1 p.2.2 a∧G P E S (a.put p.2.1.dst p.2.2) r
def YieldsIf.BO {o v} (h:YieldsIf P E S o v a) (hS:∀w,J w→S w):YieldsIf P E J o v a:=h.imp (fun⟨H,h2⟩=>⟨H,fun w z=>h2 w (hS w z)⟩) id
def G.BO (hS:∀w,J w→S w):∀(l:List (Nat×Oper×Value)) (a:Act),G P E S a l→G P E J a l
 | [],_,_=>trivial
 | _ :: r,_,h=>⟨h.1,YieldsIf.BO h.2.1 hS,G.BO hS r _ h.2.2⟩
def ki (p):∀(l:List (Nat×Oper×Value)) (a:Act),dd a (l ++ [p])=(dd a l).put p.2.1.dst p.2.2
 | [],_=>rfl
 | _ :: r,_=>ki p r _
def G.snoc {i o v} (M:E[i]? =some o):∀(l:List (Nat×Oper×Value)) (a:Act),G P E S a l→YieldsIf P E S o v (dd a l)→G P E S a (l ++ [(i,o,v)])
 | [],_,_,hy=>⟨M,hy,trivial⟩
 | _ :: r,_,h,hy=>⟨h.1,h.2.1,G.snoc M r _ h.2.2 hy⟩
def G.hereAt:∀(l:List (Nat×Oper×Value)) (a:Act),G P E S a l→∀p∈l,E[p.1]? =some p.2.1
 | [],_,_,_,h=>by cases h
 | q :: r,_,h,p,hp=>by
   rcases ZG.1 hp with rfl | hp
   ·exact h.1
   ·exact G.hereAt r _ h.2.2 p hp
def G.act (hs:Region.noSelect E=true) (hQ:∀c a d v w,Q (.panic c) (Act.put a d v) w→Q (.panic c) a w) {j oj} (hj:E[j]? =some oj):∀(l:List (Nat×Oper×Value)) (a:Act) (K:Act→World→Prop),G P E S a l→(∀p∈l,p.2.1.apart E oj=true) →
  wpOp P E Q j K (dd a l) w→wpOp P E Q j (fun a' w'=>G P E S a' l∧K (dd a' l) w') a w
 | [],_,_,_,_,h=>wpOp_mono (fun _ _ h=>⟨trivial,h⟩) h
 | p :: r,a,K,ht,U,h=>by
   have H:=G.act hs hQ hj r (a.put p.2.1.dst p.2.2) K ht.2.2 (fun q hq=>U q (Zo _ hq)) h
   have h2:=wpOp_putIf (S:=S) hj (U p Zr) (fun cs b=>Region.noSelect_spec hs _ _ cs b ht.1) (fun cs b=>Region.noSelect_spec hs _ _ cs b hj) (fun c a w=>hQ c a _ _ w) ht.2.1 H
   exact wpOp_mono (fun _ _ h=>⟨⟨ht.1,h.1,h.2.1⟩,h.2.2⟩) h2
def G.take (hs:Region.noSelect E=true) (p l2):∀(l1:List (Nat×Oper×Value)) (a:Act),G P E S a (l1 ++ p :: l2)→(∀q∈l1,q.2.1.apart E p.2.1=true) →
  YieldsIf P E S p.2.1 p.2.2 a∧G P E S (a.put p.2.1.dst p.2.2) (l1 ++ l2)∧dd (a.put p.2.1.dst p.2.2) (l1 ++ l2)=dd a (l1 ++ p :: l2)
 | [],_,h,_=>⟨h.2.1,h.2.2,rfl⟩
 | q :: r,a,h,U=>by
   obtain⟨H,h2,h3⟩:=G.take hs p l2 r (a.put q.2.1.dst q.2.2) h.2.2 (fun x hx=>U x (Zo _ hx))
   obtain⟨a1,a2,a3⟩:=Oper.apart_spec (U q Zr)
   have hp:=G.hereAt (q :: r ++ p :: l2) a h p (Zx _ Zr)
   have sq:=fun cs b=>Region.noSelect_spec hs _ q.2.1 cs b h.1
   have z:=fun cs b=>Region.noSelect_spec hs _ p.2.1 cs b hp
   have hc:=Act.put_comm a q.2.2 p.2.2 a2
   refine⟨H.of_same (execOp_put p.2.1 z a q.2.1.dst q.2.2 a1).symm (wanted_put p.2.1 a q.2.1.dst q.2.2 a1).symm,⟨h.1,h.2.1.of_same (execOp_put q.2.1 sq a p.2.1.dst p.2.2 a3) (wanted_put q.2.1 a p.2.1.dst p.2.2 a3),?_⟩,?_⟩
   ·rw[←hc];exact h2
   ·show dd ((a.put p.2.1.dst p.2.2).put q.2.1.dst q.2.2) (r ++ l2)=_
    rw[←hc];exact h3
def depB (E:Array Oper) (j i:Nat):Bool:=match E[j]? with
 | some o=>o.after.any fun e=>Region.binds .any e && e.on == i
 | none=>false
def dl (E:Array Oper) (i j:Nat):Bool:=match E[i]?,E[j]? with
 | some x,some y=>x.apart E y
 | _,_=>false
def dS (E:Array Oper) (st:List Nat) (i:Nat) (r:List (Nat×Bool)):Bool:=r.isEmpty && st.all fun j=>j == i || depB E i j
def cH (P:Program) (E:Array Oper) (Q:Exit→Act→World→Prop) (st:List Nat):(World→Prop)→List (Nat×Bool)→Act→World→Prop
 | _,[],a,w=>Q .normal a w
 | S,(i,true) :: r,a,w=>∃o v,E[i]? =some o∧YieldsIf P E S o v a∧cH P E Q st S r (a.put o.dst v) w
 | S,(i,false) :: r,a,w=>wpOp P E Q i (fun a' w'=>∃J,(∀w,J w→S w)∧(dS E st i r=false→J w')∧cH P E Q st J r a' w') a w
def hi (E:Array Oper):List (Nat×Bool)→Bool
 | []=>true
 | x :: r=>(r.all fun y=>!depB E x.1 y.1 && (depB E y.1 x.1 || dl E x.1 y.1)) && hi E r
def gJ (E:Array Oper):List (Nat×Bool)→Bool
 | []=>true
 | (i,b) :: r=>(b || r.all fun y=>((i,b) :: r).any fun k=>depB E y.1 k.1) && gJ E r
def iQ (E:Array Oper) (A:List (Nat×Bool)):Bool:=
 Region.noSelect E && ((List.range E.size).all fun i=>match E[i]? with | some o=>o.after.all (fun e=>!Region.binds .any e || decide (e.on < i)) | none=>true)
 && (A.all fun x=>decide (x.1 < E.size)) && ((List.range E.size).all fun i=>A.any fun x=>x.1 == i) && decide (A.map (·.1)).Nodup && hi E A && gJ E A
def nS {D:Nat→Bool} {i k o} (M:E[i]? =some o) (hd:∀e∈o.after,Region.binds .any e=true→D e.on=true) (h:depB E i k=true):D k=true:=by unfold depB at h;rw[M] at h;dsimp only at h;rw[←Array.any_toList,List.any_eq_true] at h;simp only[Bool.and_eq_true,beq_iff_eq] at h;obtain⟨e,he,hb,rfl⟩:=h;exact hd e (Array.mem_toList_iff.1 he) hb
def jb (E):∀A:List (Nat×Bool),hi E A=true→(A.map (·.1)).Pairwise fun i j=>depB E j i=true∨dl E i j=true
 | [],_=>Yr
 | x :: r,h=>by
   simp only[hi,Bool.and_eq_true,List.all_eq_true,Bool.or_eq_true] at h
   refine List.Pairwise.cons (fun j hj=>?_) (jb E r h.2)
   obtain⟨y,hy,rfl⟩:=ZC.1 hj
   exact (h.1 y hy).2
def i2 (E):∀A:List (Nat×Bool),gJ E A=true→∀i r,((i,false) :: r) <:+ A→∀y∈r,∃k∈(i,false) :: r,depB E y.1 k.1=true
 | [],_,i,r,hs=>by
   have:=hs.length_le
   simp at this
 | (j,b) :: l,h,i,r,hs=>by
   rw[gJ,Bool.and_eq_true,Bool.or_eq_true] at h
   rcases List.suffix_cons_iff.1 hs with e | hs
   ·injection e with e1 e2
    injection e1 with e1 e3
    subst e1 e2 e3
    intro y hy
    have H:=h.1.resolve_left ξ
    rw[List.all_eq_true] at H
    have h2:=H y hy
    rw[List.any_eq_true] at h2
    exact h2
   ·exact i2 E l h.2 i r hs
def eP (A:List (Nat×Bool)):List Nat:=(A.filter (·.2)).map (·.1)
def f5 (P:Program) (E:Array Oper) (Q:Exit→Act→World→Prop) (st:List Nat) (A:List (Nat×Bool)) (D:Nat→Bool) (a:Act) (w:World):Prop:=∃S r z,
 (S w∨(z=[]∧r=[]))∧(∀p∈z,p.1∈st)∧(∀x∈r,x.2=true→x.1∈st)∧G P E S a z∧cH P E Q st S r (dd a z) w∧(∀i b V,r=(i,b) :: V→b=false) ∧
 (z.map (·.1) ++ r.map (·.1)).Sublist (A.map (·.1))∧r <:+ A∧∀i,i < E.size→(D i=false↔i∈z.map (·.1) ++ r.map (·.1))
def f5.of {st A D}:∀(r:List (Nat×Bool)) (z:List (Nat×Oper×Value)),(S w∨(z=[]∧r=[]))→(∀p∈z,p.1∈st)→(∀x∈r,x.2=true→x.1∈st)→G P E S a z→cH P E Q st S r (dd a z) w →
  (z.map (·.1) ++ r.map (·.1)).Sublist (A.map (·.1))→r <:+ A→(∀i,i < E.size→(D i=false↔i∈z.map (·.1) ++ r.map (·.1)))→f5 P E Q st A D a w
 | [],z,hs,hp,hr,ht,hg,H,h2,h3=>⟨S,[],z,hs,hp,hr,ht,hg,(fun _ _ _ h=>by cases h),H,h2,h3⟩
 | (i,false) :: r,z,hs,hp,hr,ht,hg,H,h2,h3=>⟨S,(i,false) :: r,z,hs,hp,hr,ht,hg,(fun _ _ _ h=>by injection h with h _;injection h with _ h;exact h.symm),H,h2,h3⟩
 | (i,true) :: r,z,hs,hp,hr,ht,hg,H,h2,h3=>by
   obtain⟨o,v,M,hy,hg⟩:=hg
   have e:(z ++ [(i,o,v)]).map (·.1) ++ r.map (·.1)=z.map (·.1) ++ ((i,true) :: r).map (·.1):=by simp
   refine f5.of r (z ++ [(i,o,v)]) (.inl (hs.resolve_right fun h=>by cases h.2)) (fun p I=>(Zv.1 I).elim (hp p) fun h=>by rw[List.mem_singleton.1 h];exact hr (i,true) Zr rfl) (fun x hx=>hr x (Zo _ hx)) (G.snoc M _ _ ht hy) (by rw[ki];exact hg) (by rw[e];exact H) ((Y4 _ _).trans h2) (by rw[e];exact h3)
def zq {p:Prop} (h:p:=by
 rcases ZG.1 ab with e | ab
 ·exact e
 ·obtain⟨y,hy,rfl⟩:=ZC.1 ab
  obtain⟨k,hk,hk2⟩:=aG j V Y y hy
  exact (aJ _ hk2 (aq k hk)).elim):p:=h
def zr {p:Prop} (h:p:=by
 intro p hp;have H:depB E i p.1=true∨dl E p.1 i=true:=(ZK.1 an).2.2 p.1 (ZC.2 ⟨p,hp,rfl⟩) i ξ;rcases iq H with H | H
 ·exact (aJ _ H (aY p hp)).elim
 ·unfold dl at H
  rw[G.hereAt z a ht p hp,M] at H
  exact H):p:=h
def zu {p:Prop} (h:p:=by
 intro q hq;have aD:=G.hereAt _ a ht q (Zm _ hq);have H:depB E p.1 q.1=true∨dl E q.1 p.1=true:=by rw[List.map_append,List.append_assoc,List.pairwise_append] at an;exact an.2.2 q.1 (ZC.2 ⟨q,hq,rfl⟩) p.1 ξ
 rcases iq H with H | H
 ·exact (aJ _ H (aY q (Zm _ hq))).elim
 ·unfold dl at H
  rw[aD,M] at H
  exact H):p:=h
def zw {p:Prop} (h:p:=by
 simp only[dS,Bool.and_eq_true,List.all_eq_true,Bool.or_eq_true,beq_iff_eq,List.isEmpty_iff] at hb;refine⟨?_,hb.1⟩;rcases z with _ | ⟨p,l⟩
 ·rfl
 ·exfalso
  have hp:=G.hereAt _ a ht p Zr;rcases hb.2 p.1 (ae p Zr) with e | e
  ·simp only[List.map_cons,List.cons_append,List.nodup_cons,List.mem_append,List.mem_cons] at Z
   exact Z.1 (.inr (.inl e))
  ·exact aJ _ e (aY p Zr)):p:=h
def s0 {id} (A S) (hm:P.follows .mixedOrders=true) (hB:iQ E A=true) (hQ:∀c a d v w,Q (.panic c) (Act.put a d v) w→Q (.panic c) a w) (hS:S w.drew) (h:cH P E Q (eP A) S A a w.drew):(Code.region id E true).wp P Q a w:=by
 simp only[iQ,Bool.and_eq_true,decide_eq_true_eq,List.all_eq_true,List.any_eq_true,beq_iff_eq,List.mem_range] at hB;obtain⟨⟨⟨⟨⟨⟨b1,b2⟩,b3⟩,b4⟩,I⟩,b6⟩,b7⟩:=hB;have aQ:=jb E A b6;have aG:=i2 E A b7;refine kH hm ?_ (f5 P E Q (eP A) A) ?_ ?_ ?_
 ·intro i o M e he hb
  have h2:=b2 i (Z7.1 M).1;rw[M] at h2;have h3:=Array.all_eq_true_iff_forall_mem.1 h2 e he;simpa [hb] using h3
 ·refine f5.of A [] (.inl hS) (fun _ h=>by cases h) (fun x hx h=>ZC.2 ⟨x,List.mem_filter.2 ⟨hx,h⟩,rfl⟩) trivial h ξ (List.suffix_refl _) fun i hi=>⟨fun _=>?_,fun _=>rfl⟩
  obtain⟨x,hx,rfl⟩:=b4 i hi;exact ZC.2 ⟨x,hx,rfl⟩
 ·rintro D a w i o ⟨S,r,z,hs,ae,ai,ht,hg,ak,af,Y,ad⟩ M hD ay
  have hi:=(Z7.1 M).1;have Z:(z.map (·.1) ++ r.map (·.1)).Nodup:=af.nodup I;have an:=aQ.sublist af;have aY:∀p∈z,D p.1=false:=fun p hp=>(ad p.1 (Z7.1 (G.hereAt z a ht p hp)).1).2 (Zm _ (ZC.2 ⟨p,hp,rfl⟩));have aq:∀x∈r,D x.1=false:=fun x hx=>(ad x.1 (b3 x (Y.subset hx))).2 (Zx _ (ZC.2 ⟨x,hx,rfl⟩));have aJ:∀k,depB E i k=true→D k=false→False:=fun k H h2=>by rw[nS M ay H] at h2;cases h2
  rcases Zv.1 ((ad i hi).1 hD) with aB | ab
  ·obtain⟨p,hp,rfl⟩:=ZC.1 aB
   obtain⟨l1,l2,rfl⟩:=List.append_of_mem hp;obtain rfl:p.2.1=o:=by have:=G.hereAt _ a ht p hp;rw[M] at this;injection this with this;exact this.symm
   have U:∀q∈l1,q.2.1.apart E p.2.1=true:=zu;obtain⟨y1,y2,y3⟩:=G.take b1 p l2 l1 a ht U;have ax:S w:=hs.resolve_right fun h=>by have:=h.1;simp at this
   refine y1.wpOp M ax ⟨S,r,l1 ++ l2,.inl ax,(fun q hq=>ae q ((Zv.1 hq).elim (fun h=>Zm _ h) fun h=>Zx _ (Zo _ h))),ai,y2,by rw[y3];exact hg,ak,?_,Y,fun k hk=>?_⟩
   ·refine Y3 ?_ af
    exact ZX (by rw[List.map_append,List.map_append];exact ZX (Yb _) ξ) (Yb _)
   ·have ah:=ad k hk
    by_cases e:k=p.1
    ·subst e
     rw[hz];refine⟨fun h=>(Bool.noConfusion h),fun h=>?_⟩
     exfalso
     simp only[List.map_append,List.map_cons,List.append_assoc,List.nodup_append,List.nodup_cons,List.mem_append,List.mem_cons,List.cons_append] at Z h;obtain⟨n1,⟨n2,n3⟩,n4⟩:=Z;rcases h with h | h | h
     ·exact n4 p.1 h p.1 (.inl rfl) rfl
     ·exact n2 (.inl h)
     ·exact n2 (.inr h)
    ·rw[hu D e,ah]
     simp[e]
  ·rcases r with _ | ⟨⟨j,b⟩,V⟩
   ·cases ab
   obtain rfl:b=false:=ak j b V rfl;obtain rfl:i=j:=zq;have U:∀p∈z,p.2.1.apart E o=true:=zr;refine wpOp_mono ?_ (G.act b1 hQ M z a _ ht U hg);rintro a' w' ⟨az,J,ao,hl,aa⟩;refine f5.of V z ?_ ae (fun x hx=>ai x (Zo _ hx)) (G.BO ao _ _ az) aa (Y3 ?_ af) ((Y4 _ _).trans Y) fun k hk=>?_
   ·cases hb:dS E (eP A) i V with
    | false=>exact .inl (hl hb)
    | true=>
      right
      exact zw
   ·exact ZX (Yb _) ξ
   ·have ah:=ad k hk
    by_cases e:k=i
    ·subst e
     rw[hz];refine⟨fun h=>(Bool.noConfusion h),fun h=>?_⟩
     exfalso
     rw[List.map_cons,List.nodup_append,List.nodup_cons] at Z;obtain⟨n1,⟨n2,n3⟩,n4⟩:=Z;rcases Zv.1 h with h | h
     ·exact n4 k h k Zr rfl
     ·exact n2 h
    ·rw[hu D e,ah]
     simp[e]
 ·rintro D a w ⟨S,r,z,hs,-,-,ht,hg,-,-,Y,ad⟩ a3
  rcases z with _ | ⟨p,l⟩
  ·rcases r with _ | ⟨x,r⟩
   ·exact hg
   ·exfalso
    have hx:=b3 x (Y.subset Zr);have:=(ad x.1 hx).2 ξ;rw[a3 _ hx] at this;cases this
  ·exfalso
   have hp:=(Z7.1 (G.hereAt _ a ht p Zr)).1;have:=(ad p.1 hp).2 ξ;rw[a3 _ hp] at this;cases this
def e1 (Q:Exit→Act→World→Prop):Exit→Act→World→Prop
 | .panic c,a,w=>∀a',a'.defers=a.defers→Q (.panic c) a' w
 | e,a,w=>Q e a w
def e1.imp:∀(e:Exit) (a:Act) (w:World),e1 Q e a w→Q e a w:=fun e a w h=>by
 cases e <;> first | exact h | exact h a rfl
def bj {id} (A S) (hm:P.follows .mixedOrders=true) (hB:iQ E A=true) (hS:S w.drew) (h:cH P E (e1 Q) (eP A) S A a w.drew):(Code.region id E true).wp P Q a w:=
 Code.wp_mono e1.imp (s0 A S hm hB (fun c a d v w h a' ha=>h a' (ha.trans (by cases d <;> rfl))) hS h)
def ae {st i r o v} (M:E[i]? =some o) (hy:YieldsIf P E S o v a) (h:cH P E Q st S r (a.put o.dst v) w):cH P E Q st S ((i,true) :: r) a w:=⟨o,v,M,hy,h⟩
def aN {st i r o} (M:E[i]? =some o) (h:∀K:Act→World→Prop,(∀a' w' J,(∀w,J w→S w)→(dS E st i r=false→J w')→cH P E Q st J r a' w'→K a' w')→if Region.wanted o (yielded E a.tmps)=true then Oper.wp P o a w K Q else K (a.put o.dst undef) w):cH P E Q st S ((i,false) :: r) a w:=by
 show wpOp P E Q i _ a w
 unfold wpOp;rw[M];have H:=h (fun a' w'=>∃J,(∀w,J w→S w)∧(dS E st i r=false→J w')∧cH P E Q st J r a' w') (fun a' w' J H h2 h3=>⟨J,H,h2,h3⟩);dsimp only
 split
 ·rename_i z
  rw[if_pos z] at H;exact .inl H
 ·rename_i z
  rw[if_neg z] at H;exact H
def bn {st} (h:Q .normal a w):cH P E (e1 Q) st S [] a w:=h
end
def xP {p q:Prop} (k:q) (h:Zq q→p:=by
 intro mq;refine aN rfl (fun K I=>?_);go_simp;revert K I
 exact mq.u):p:=h ⟨k⟩
def xR {p q:Prop} (k:q) (h:Zq q→p:=by
 intro mq;try go_frame
 refine xP ?_;intro K I;revert K I
 exact mq.u):p:=h ⟨k⟩
def wpC_t {P:Program} {E:Array Oper} {Q:Exit→Act→World→Prop} {S:World→Prop} {a:Act} {w:World} {st:List Nat} {i:Nat} {r:List (Nat×Bool)} {o:Oper} {v:Value} (h:cH P E Q st S r (a.put o.dst v) w) (M:E[i]? =some o:=by rfl) (hy:YieldsIf P E S o v a:=by
 refine .inl ⟨by rfl,?_⟩;intro w' hS
 repeat (obtain⟨_,hS⟩:=hS)
 go_simp
 with_reducible rfl):cH P E Q st S ((i,true) :: r) a w:=ae M hy h
def wpC_u {P:Program} {E:Array Oper} {Q:Exit→Act→World→Prop} {S T:World→Prop} {a:Act} {w:World} {st:List Nat} {i:Nat} {r:List (Nat×Bool)} {o:Oper} {v:Value} (f:∀w,S w→T w) (h:cH P E Q st S r (a.put o.dst v) w) (M:E[i]? =some o:=by rfl) (hy:(∀w,S w→T w)→YieldsIf P E S o v a:=by
 intro f;refine .inl ⟨by rfl,?_⟩;intro w' hS;replace hS:=f w' hS
 repeat (obtain⟨_,hS⟩:=hS)
 go_simp
 with_reducible rfl):cH P E Q st S ((i,true) :: r) a w:=ae M (hy f) h
def pe {p q:Prop} (k:q) (h:q→p:=by
 intro mq;try simp only[List.getElem_toArray,List.getElem_cons_succ,List.getElem_cons_zero]
 try go_frame
 exact mq):p:=h k
def Yg:=@G.hereAt
end
def oy (kd n la lc w):Calls prog 124 #[.agg #[ι kd,ι n,.slice la 0 lc]] w (ϑ (ι 1) w):=by
 obtain⟨w1,aP,z1,b1,Z⟩:=al1 w 86 [ι kd,ι n,.slice la 0 lc];obtain⟨G,aB,z2,b2,k2,-⟩:=al2 b1 z1 86 [ι kd,ι n,.slice la 0 lc];obtain⟨E,aY,-,b3,k3,-⟩:=al2 b2 z2 86 [ι kd,ι n,.slice la 0 lc];obtain⟨a4,U,a7,-⟩:=kc2 Z;obtain⟨L,H,J,-⟩:=kc2 k2;have h:E.drew.cell? (κ (w.heap.size+1+1) 2)=some (.slice la 0 lc):=k3.c 2 rfl;cases la with
 | none=>
   go_enter func124,ntmps124;go_upto_region 3 with fail;refine ZV 2 ?_;rw[rounds_succ];go_upto_region 5 with fail;refine bj [(1,true),(2,true),(4,true),(5,true),(0,false),(3,true),(6,true),(7,true)] (fun w'=>w'.cell? (κ (w.heap.size+1+1) 2)=some (.slice none 0 lc)) ψ ψ h ?_;refine ae (v:=?v1) rfl (.inl ⟨by rfl,?hy1⟩) ?rest1
   case hy1=>intro w' hS;go_simp;with_reducible rfl
   try go_frame
   refine ae (v:=?v2) rfl (.inl ⟨by rfl,?hy2⟩) ?rest2
   case hy2=>intro w' hS;go_simp;with_reducible rfl
   try go_frame
   refine ae (v:=?v3) rfl (.inl ⟨by rfl,?hy3⟩) ?rest3
   case hy3=>intro w' hS;go_simp;with_reducible rfl
   try go_frame
   refine ae (v:=?v4) rfl (.inl ⟨by rfl,?hy4⟩) ?rest4
   case hy4=>intro w' hS;go_simp;with_reducible rfl
   refine xR ?_;intro K I;refine I _ _ _ Φ (fun _=>?_) ?_
   ·exact (k3.alloc _).c 2 rfl
   clear I K;try go_frame
   refine ae (v:=?v5) rfl (.inl ⟨by rfl,?hy5⟩) ?rest5
   case hy5=>intro w' hS;go_simp;with_reducible rfl
   try go_frame
   refine ae (v:=?v6) rfl (.inl ⟨by rfl,?hy6⟩) ?rest6
   case hy6=>intro w' hS;go_simp;with_reducible rfl
   try go_frame
   refine ae (v:=?v7) rfl (.inl ⟨by rfl,?hy7⟩) ?rest7
   case hy7=>intro w' hS;go_simp;with_reducible rfl
   try go_frame
   refine bn ?_;go_wp2_with fail;rw[rounds_succ];go_wp2_with fail;go_ret;exact⟨rfl,b3.drew.alloc b3.drew.size _⟩
 | some p=>
   go_enter func124,ntmps124;go_upto_region 3 with fail;refine ZV 2 ?_;rw[rounds_succ];go_upto_region 5 with fail;refine bj [(1,true),(2,true),(4,true),(5,true),(0,false),(3,true),(6,true),(7,true)] (fun w'=>w'.cell? (κ (w.heap.size+1+1) 2)=some (.slice (some p) 0 lc)) ψ ψ h ?_;refine ae (v:=?v8) rfl (.inl ⟨by rfl,?hy8⟩) ?rest8
   case hy8=>intro w' hS;go_simp;with_reducible rfl
   try go_frame
   refine ae (v:=?v9) rfl (.inl ⟨by rfl,?hy9⟩) ?rest9
   case hy9=>intro w' hS;go_simp;with_reducible rfl
   try go_frame
   refine ae (v:=?v10) rfl (.inl ⟨by rfl,?hy10⟩) ?rest10
   case hy10=>intro w' hS;go_simp;with_reducible rfl
   try go_frame
   refine ae (v:=?v11) rfl (.inl ⟨by rfl,?hy11⟩) ?rest11
   case hy11=>intro w' hS;go_simp;with_reducible rfl
   refine xR ?_;intro K I;refine I _ _ _ Φ (fun _=>?_) ?_
   ·exact (k3.alloc _).c 2 rfl
   clear I K;try go_frame
   refine ae (v:=?v12) rfl (.inl ⟨by rfl,?hy12⟩) ?rest12
   case hy12=>intro w' hS;go_simp;with_reducible rfl
   try go_frame
   refine ae (v:=?v13) rfl (.inl ⟨by rfl,?hy13⟩) ?rest13
   case hy13=>intro w' hS;go_simp;with_reducible rfl
   try go_frame
   refine ae (v:=?v14) rfl (.inl ⟨by rfl,?hy14⟩) ?rest14
   case hy14=>intro w' hS;go_simp;with_reducible rfl
   try go_frame
   refine bn ?_;go_wp2_with fail;rw[rounds_succ];go_wp2_with fail;go_ret;exact⟨rfl,b3.drew.alloc b3.drew.size _⟩
def rH (kd n la lb lc z w):Calls prog 125 #[.agg #[ι kd,ι n,.slice la 0 lc],.agg #[ι kd,ι n,.slice lb 0 z]] w (ϑ (.bool true) w):=by obtain⟨w1,bl,bf,a1,O⟩:=al1 w 86 [ι kd,ι n,.slice la 0 lc];obtain⟨G,bo,-,ak,Z,au⟩:=al2 a1 bf 86 [ι kd,ι n,.slice lb 0 z];replace O:=au _ _ _ O;clear au;obtain⟨a4,U,a7,-⟩:=kc2 O;obtain⟨L,H,J,-⟩:=kc2 Z;clear a1 O Z;go_enter func125,ntmps125;go_wp2_with fail;refine ZV 1 ?_;rw[rounds_succ];go_wp2_with fail;go_ret;exact⟨rfl,ak⟩
def qh (kd n la lb lc z w):Calls prog 92 #[.agg #[ι kd,ι n,.slice la 0 lc],.agg #[ι kd,ι n,.slice lb 0 z]] w (ϑ (.bool true) w):=by
 obtain⟨w1,bl,bf,a1,O⟩:=al1 w 86 [ι kd,ι n,.slice la 0 lc];obtain⟨G,bo,-,ak,Z,au⟩:=al2 a1 bf 86 [ι kd,ι n,.slice lb 0 z];replace O:=au _ _ _ O;clear au;have HK:=χ (fun w' (hb:Below (ν G) G w')=>(show A w' (ν w) 86 [ι kd,ι n,.slice la 0 lc]∧A w' (η w) 86 [ι kd,ι n,.slice lb 0 z] from⟨(hb.block _ O.lt).trans O,(hb.block _ Z.lt).trans Z⟩));obtain⟨a4,U,a7,-⟩:=kc2 O;have hS:=oy kd n la lc G;clear a1 O Z;go_enter func92,ntmps92;go_wp2_with first
  | (go_at_call 124
     refine δ hS ?_;intro E ac;have L:=Zz (w:=E) (HK.out E ac).2 0 rfl;have H:=Zz (w:=E) (HK.out E ac).2 1 rfl;have J:=Zz (w:=E) (HK.out E ac).2 2 rfl;have ao:=oy kd n lb z E
     clear hS)
  | (go_at_call 124
     refine δ ao ?_;intro M ah;have I:=ac.trans (ah.mono ac.size);have ae:=Zz (w:=M) (HK.out M I).1 0 rfl;have h:=Zz (w:=M) (HK.out M I).1 1 rfl;have ad:=Zz (w:=M) (HK.out M I).1 2 rfl;have ab:=Zz (w:=M) (HK.out M I).2 0 rfl;have aa:=Zz (w:=M) (HK.out M I).2 1 rfl;have Y:=Zz (w:=M) (HK.out M I).2 2 rfl
     have hM:=rH kd n la lb lc z M)
  | (go_at_call 125
     refine hM.mono ?_
     rintro e V ⟨rfl,ai⟩)
 go_ret;exact⟨rfl,ak.trans ((I.trans (ai.mono I.size)).mono ak.size)⟩
def r7 (e0 e1 e2 e3 e4 e5 e6 kd n la lb lc z w):Calls prog 65 #[.agg #[ι e0,ι e1,ι e2,ι e3,ι e4,ι e5,ι e6,ι kd,ι n,.slice la 0 lc],.agg #[ι e0,ι e1,ι e2,ι e3,ι e4,ι e5,ι e6,ι kd,ι n,.slice lb 0 z]] w (ϑ (.bool true) w):=by obtain⟨w1,bl,bf,a1,O⟩:=al1 w 88 [ι e0,ι e1,ι e2,ι e3,ι e4,ι e5,ι e6,ι kd,ι n,.slice la 0 lc];obtain⟨G,bo,-,ak,Z,au⟩:=al2 a1 bf 88 [ι e0,ι e1,ι e2,ι e3,ι e4,ι e5,ι e6,ι kd,ι n,.slice lb 0 z];replace O:=au _ _ _ O;clear au;obtain⟨c0,c1,c2,c3,c4,c5,c6,c7,c8,c9,-⟩:=kc9 O;obtain⟨d0,d1,d2,d3,d4,d5,d6,d7,d8,d9,-⟩:=kc9 Z;have hM:=qh kd n la lb lc z G;clear a1 O Z;go_enter func65,ntmps65;go_wp2_with (go_at_call 92;refine δ hM ?_;intro E ac);go_ret;exact⟨rfl,ak.trans (ac.mono ak.size)⟩
def gC (w:World) (ga gb j:Nat):Prop:=∃(e0 e1 e2 e3 e4 e5 e6 kd n:Int) (la lb:Option Addr) (lc z:Nat),w.cell? ⟨ga,j*10,none⟩=some (.int .i64 e0)∧w.cell? ⟨ga,j*10+1,none⟩=some (.int .i64 e1)∧w.cell? ⟨ga,j*10+2,none⟩=some (.int .i64 e2)∧w.cell? ⟨ga,j*10+3,none⟩=some (.int .i64 e3)∧w.cell? ⟨ga,j*10+4,none⟩=some (.int .i64 e4)∧w.cell? ⟨ga,j*10+5,none⟩=some (.int .i64 e5)∧w.cell? ⟨ga,j*10+6,none⟩=some (.int .i64 e6)∧w.cell? ⟨ga,j*10+7,none⟩=some (.int .i64 kd)∧w.cell? ⟨ga,j*10+8,none⟩=some (.int .i64 n)∧w.cell? ⟨ga,j*10+9,none⟩=some (.slice la 0 lc)∧w.cell? ⟨gb,j*10,none⟩=some (.int .i64 e0)∧w.cell? ⟨gb,j*10+1,none⟩=some (.int .i64 e1)∧w.cell? ⟨gb,j*10+2,none⟩=some (.int .i64 e2)∧w.cell? ⟨gb,j*10+3,none⟩=some (.int .i64 e3)∧w.cell? ⟨gb,j*10+4,none⟩=some (.int .i64 e4)∧w.cell? ⟨gb,j*10+5,none⟩=some (.int .i64 e5)∧w.cell? ⟨gb,j*10+6,none⟩=some (.int .i64 e6)∧w.cell? ⟨gb,j*10+7,none⟩=some (.int .i64 kd)∧w.cell? ⟨gb,j*10+8,none⟩=some (.int .i64 n)∧w.cell? ⟨gb,j*10+9,none⟩=some (.slice lb 0 z)
def gC.below {w w' ga gb j} (h:gC w ga gb j) (hb:Below (ν w) w w') (H:ga < w.heap.size) (h2:gb < w.heap.size):gC w' ga gb j:=by obtain⟨e0,e1,e2,e3,e4,e5,e6,kd,n,la,lb,lc,z,c0,c1,c2,c3,c4,c5,c6,c7,c8,c9,d0,d1,d2,d3,d4,d5,d6,d7,d8,d9⟩:=h;have Y:=fun i=>hb.cell (p:=κ ga i) H;have B:=fun i=>hb.cell (p:=κ gb i) h2;exact⟨e0,e1,e2,e3,e4,e5,e6,kd,n,la,lb,lc,z,(Y _).trans c0,(Y _).trans c1,(Y _).trans c2,(Y _).trans c3,(Y _).trans c4,(Y _).trans c5,(Y _).trans c6,(Y _).trans c7,(Y _).trans c8,(Y _).trans c9,(B _).trans d0,(B _).trans d1,(B _).trans d2,(B _).trans d3,(B _).trans d4,(B _).trans d5,(B _).trans d6,(B _).trans d7,(B _).trans d8,(B _).trans d9⟩
def vi {N ga gb h cb w} (hN:N≤1000000) (hp:∀j,j < N→gC w ga gb j) (H:ga < w.heap.size) (h2:gb < w.heap.size):Calls prog 38 #[.slice (Γ ga) N h,.slice (Γ gb) N cb] w (ϑ (.bool true) w):=by
 have HP:=χ hp;clear hp;go_enter func38,ntmps38;go_upto_region 4 with fail;go_loopg [5] N (fun k s5 wr=>∃j:Nat,j+k=N∧s5= .int .i64 (j:Nat)∧Below (ν w) w wr)
 case atStart=>exact⟨0,ω,rfl,Zj _ _⟩
 case round=>
  obtain⟨j,bR,rfl,hb⟩:=hrel
  by_cases hj:j < N
  ·have ad:decide (j < N)=true:=Zy hj
   have af:=hb.drew;obtain⟨e0,e1,e2,e3,e4,e5,e6,kd,n,la,lb,lc,z,hC⟩:=(HP.out j hj).below af H h2
   have HC:=χ (fun (w':World) (q1:w'.heap[ga]? =wr.drew.heap[ga]?) (q2:w'.heap[gb]? =wr.drew.heap[gb]?)=>(show w'.cell? (κ ga (j*10))=ι e0∧w'.cell? (κ ga (j*10+1))=ι e1∧w'.cell? (κ ga (j*10+2))=ι e2∧w'.cell? (κ ga (j*10+3))=ι e3∧w'.cell? (κ ga (j*10+4))=ι e4∧w'.cell? (κ ga (j*10+5))=ι e5∧w'.cell? (κ ga (j*10+6))=ι e6∧w'.cell? (κ ga (j*10+7))=ι kd∧w'.cell? (κ ga (j*10+8))=ι n∧w'.cell? (κ ga (j*10+9))=some (.slice la 0 lc)∧w'.cell? (κ gb (j*10))=ι e0∧w'.cell? (κ gb (j*10+1))=ι e1∧w'.cell? (κ gb (j*10+2))=ι e2∧w'.cell? (κ gb (j*10+3))=ι e3∧w'.cell? (κ gb (j*10+4))=ι e4∧w'.cell? (κ gb (j*10+5))=ι e5∧w'.cell? (κ gb (j*10+6))=ι e6∧w'.cell? (κ gb (j*10+7))=ι kd∧w'.cell? (κ gb (j*10+8))=ι n∧w'.cell? (κ gb (j*10+9))=some (.slice lb 0 z) from by
     have Y:∀i,w'.cell? (κ ga i)=wr.drew.cell? (κ ga i):=fun i=>Zd q1;have B:∀i,w'.cell? (κ gb i)=wr.drew.cell? (κ gb i):=fun i=>Zd q2;simp only[Y,B]
     exact hC))
   have hM:=r7 e0 e1 e2 e3 e4 e5 e6 kd n la lb lc z wr.drew;clear hC;go_upto_region 6 with fail;refine bj [(0,true),(1,true),(2,true),(3,true),(4,true),(5,true),(6,true),(7,true),(8,false),(9,true)] (fun w'=>w'.heap[ga]? =wr.drew.heap[ga]? ∧w'.heap[gb]? =wr.drew.heap[gb]?) ψ ψ ⟨rfl,rfl⟩ ?_;iterate 3 (refine wpC_t ?_;refine pe ?_)
   refine ae (v:=?v4) rfl (.inl ⟨by rfl,?hy4⟩) ?rest4
   case hy4=>intro w' hS;obtain⟨c0,c1,c2,c3,c4,c5,c6,c7,c8,c9,d0,d1,d2,d3,d4,d5,d6,d7,d8,d9⟩:=HC.out w' hS.1 hS.2;clear hS d0 d1 d2 d3 d4 d5 d6 d7 d8 d9;go_simp;with_reducible rfl
   refine pe ?_;iterate 3 (refine wpC_t ?_;refine pe ?_)
   refine ae (v:=?v8) rfl (.inl ⟨by rfl,?hy8⟩) ?rest8
   case hy8=>intro w' hS;obtain⟨c0,c1,c2,c3,c4,c5,c6,c7,c8,c9,d0,d1,d2,d3,d4,d5,d6,d7,d8,d9⟩:=HC.out w' hS.1 hS.2;clear hS c0 c1 c2 c3 c4 c5 c6 c7 c8 c9;go_simp;with_reducible rfl
   refine pe ?_;refine xP ?_;intro K I;go_at_call 65;refine δ hM ?_;intro E ac;have ag:Below (ν w) w E:=af.trans (ac.mono af.size);refine I _ _ _ Φ (fun _=>?_) ?_
   ·exact⟨ac.block ga (Za H af.size),ac.block gb (Za h2 af.size)⟩
   clear I K;refine pe ?_;refine wpC_t ?_;refine pe ?_;refine bn ?_;go_wp2_with fail;go_roundg (N - (j+1))
   case measure=>omega
   case rel=>exact⟨j+1,ω,by go_num,ag⟩
  ·have ad:decide (j < N)=false:=Zn hj
   go_wp2_with fail;go_ret;exact⟨rfl,hb⟩
def gP (n w):Calls prog 8 #[ι n] w (μ (ι n) w):=by go_enter func8,ntmps8;go_wp2_with fail;go_ret;exact⟨rfl,rfl⟩
def wB {N ga gb h cb:Nat} {w:World} (hN:N≤1000000) (hp:∀j,j < N→∃x:Int,w.cell? (κ ga j)=ι x∧w.cell? (κ gb j)=ι x) (H:ga < w.heap.size) (h2:gb < w.heap.size):Calls prog 37 #[.slice (Γ ga) N h,.slice (Γ gb) N cb] w (ϑ (.bool true) w):=by
 have HP:=χ hp;clear hp;go_enter func37,ntmps37;go_upto_region 4 with fail;go_loopg [5] N (fun k s5 wr=>∃j:Nat,j+k=N∧s5= .int .i64 (j:Nat)∧Below (ν w) w wr)
 case atStart=>exact⟨0,ω,rfl,Zj _ _⟩
 case round=>
  obtain⟨j,bR,rfl,hb⟩:=hrel
  by_cases hj:j < N
  ·have ad:decide (j < N)=true:=Zy hj
   obtain⟨x,c0,d0⟩:=HP.out j hj;replace c0:=(hb.cell (p:=κ ga j) H).trans c0;replace d0:=(hb.cell (p:=κ gb j) h2).trans d0;go_upto_region 6 with fail;refine bj [(0,true),(1,true),(2,true),(3,true),(4,true),(5,true),(6,true),(7,true),(8,true)] (fun w'=>w'.cell? (κ ga j)=ι x∧w'.cell? (κ gb j)=ι x) ψ ψ ⟨c0,d0⟩ ?_;iterate 9 (refine wpC_t ?_;refine pe ?_)
   refine bn ?_;clear c0 d0;go_wp2_with fail;go_roundg (N - (j+1))
   case measure=>omega
   case rel=>exact⟨j+1,ω,by go_num,hb.drew⟩
  ·have ad:decide (j < N)=false:=Zn hj
   go_wp2_with fail;go_ret;exact⟨rfl,hb⟩
def dT:List Fn:=[⟨0,[⟨4,0,[1,2]⟩,⟨15,0,[]⟩,⟨4,0,[3,4]⟩,⟨14,1,[5]⟩,⟨24,0,[6]⟩,⟨3,0,[]⟩,⟨17,0,[7]⟩,⟨3,0,[]⟩]⟩,⟨1,[⟨24,0,[1]⟩,⟨16,0,[2,3]⟩,⟨3,0,[]⟩,⟨1,5,[]⟩]⟩]
def g' (ok w a):O ok w [] a:=fun j x hx=>by simp at hx
def fi {ok w g} (l) (hk:A w g 3 (l.map fun x=>Value.int .i64 x)) (az:ok g) (hr:∀x∈l,ag x):O ok w l (some ⟨g,0,none⟩):=fun j x hx=>
 ⟨g,0,rfl,az,by have:=hk.c j (v:= .int .i64 x) (by rw[List.getElem?_map,hx];rfl);simpa using this,hr x (Zi hx)⟩
def vD (w):Calls prog 36 #[] w fun e w'=>∃pa,e= .returned (.agg #[.slice pa dT.length 2])∧Below (ν w) w w'∧b0 (ο w') w' dT pa 2:=by
 obtain⟨w1,bl,bf,a1,O⟩:=al1 w 56 [.slice (Γ (w.heap.size+1+1+1+1+1+1+1+1+1+1)) 2 2];obtain⟨G,bo,bh,ak,Z,au⟩:=al2 a1 bf 3 [ι 1,ι 2];replace O:=au _ _ _ O;clear au;obtain⟨E,bt,bq,bg,k2,au⟩:=al2 ak bh 3 [ι 3,ι 4];replace O:=au _ _ _ O;replace Z:=au _ _ _ Z;clear au;obtain⟨M,a9,aS,I,k3,au⟩:=al2 bg bq 3 [ι 5];replace O:=au _ _ _ O;replace Z:=au _ _ _ Z;replace k2:=au _ _ _ k2;clear au;obtain⟨V,am,ab,L,k4,au⟩:=al2 I aS 3 [ι 6];replace O:=au _ _ _ O;replace Z:=au _ _ _ Z;replace k2:=au _ _ _ k2;replace k3:=au _ _ _ k3;clear au;obtain⟨w6,ah,af,h,k5,au⟩:=al2 L ab 3 [ι 7];replace O:=au _ _ _ O;replace Z:=au _ _ _ Z;replace k2:=au _ _ _ k2;replace k3:=au _ _ _ k3;replace k4:=au _ _ _ k4;clear au;obtain⟨w7,aj,ae,J,k6,au⟩:=al2 h af 141 [ι 4,ι 0,.slice (Γ (η w)) 2 2,ι 15,ι 0,ζ,ι 4,ι 0,.slice (Γ (w.heap.size+1+1)) 2 2,ι 14,ι 1,.slice (Γ (w.heap.size+1+1+1)) 1 1,ι 24,ι 0,.slice (Γ (w.heap.size+1+1+1+1)) 1 1,ι 3,ι 0,ζ,ι 17,ι 0,.slice (Γ (w.heap.size+1+1+1+1+1)) 1 1,ι 3,ι 0,ζ];replace O:=au _ _ _ O;replace Z:=au _ _ _ Z;replace k2:=au _ _ _ k2;replace k3:=au _ _ _ k3;replace k4:=au _ _ _ k4;replace k5:=au _ _ _ k5;clear au;obtain⟨w8,ai,aa,U,k7,au⟩:=al2 J ae 3 [ι 1];replace O:=au _ _ _ O;replace Z:=au _ _ _ Z;replace k2:=au _ _ _ k2;replace k3:=au _ _ _ k3;replace k4:=au _ _ _ k4;replace k5:=au _ _ _ k5;replace k6:=au _ _ _ k6;clear au;obtain⟨w9,ap,ac,z,k8,au⟩:=al2 U aa 3 [ι 2,ι 3];replace O:=au _ _ _ O;replace Z:=au _ _ _ Z;replace k2:=au _ _ _ k2;replace k3:=au _ _ _ k3;replace k4:=au _ _ _ k4
 replace k5:=au _ _ _ k5;replace k6:=au _ _ _ k6;replace k7:=au _ _ _ k7;clear au;obtain⟨aZ,ao,Y,A,k9,au⟩:=al2 z ac 141 [ι 24,ι 0,.slice (Γ (w.heap.size+1+1+1+1+1+1+1)) 1 1,ι 16,ι 0,.slice (Γ (w.heap.size+1+1+1+1+1+1+1+1)) 2 2,ι 3,ι 0,ζ,ι 1,ι 5,ζ];replace O:=au _ _ _ O;replace Z:=au _ _ _ Z;replace k2:=au _ _ _ k2;replace k3:=au _ _ _ k3;replace k4:=au _ _ _ k4;replace k5:=au _ _ _ k5;replace k6:=au _ _ _ k6;replace k7:=au _ _ _ k7;replace k8:=au _ _ _ k8;clear au;obtain⟨aO,an,-,H,aD,au⟩:=al2 A Y 144 [ι 0,.slice (Γ (w.heap.size+1+1+1+1+1+1)) 8 8,ι 1,.slice (Γ (w.heap.size+1+1+1+1+1+1+1+1+1)) 4 4];replace O:=au _ _ _ O;replace Z:=au _ _ _ Z;replace k2:=au _ _ _ k2;replace k3:=au _ _ _ k3;replace k4:=au _ _ _ k4;replace k5:=au _ _ _ k5;replace k6:=au _ _ _ k6;replace k7:=au _ _ _ k7;replace k8:=au _ _ _ k8;replace k9:=au _ _ _ k9;clear au;have ad:aV (ο aO) aO [⟨4,0,[1,2]⟩,⟨15,0,[]⟩,⟨4,0,[3,4]⟩,⟨14,1,[5]⟩,⟨24,0,[6]⟩,⟨3,0,[]⟩,⟨17,0,[7]⟩,⟨3,0,[]⟩] (some ⟨w.heap.size+1+1+1+1+1+1,0,none⟩):=fun j x hx=>by
  rcases j with _ | _ | _ | _ | _ | _ | _ | _ | j
  ·injection hx with hx
   subst hx;exact⟨_,0,(some ⟨w.heap.size+1,0,none⟩),2,rfl,k6.lt,k6.c 0 rfl,k6.c 1 rfl,k6.c 2 rfl,by decide,by decide,(fi [1,2] Z Z.lt (by unfold ag;decide)),by unfold ag;decide,by unfold ag;decide⟩
  ·injection hx with hx
   subst hx;exact⟨_,0,none,0,rfl,k6.lt,k6.c 3 rfl,k6.c 4 rfl,k6.c 5 rfl,by decide,by decide,g' _ _ _,by unfold ag;decide,by unfold ag;decide⟩
  ·injection hx with hx
   subst hx;exact⟨_,0,(some ⟨w.heap.size+1+1,0,none⟩),2,rfl,k6.lt,k6.c 6 rfl,k6.c 7 rfl,k6.c 8 rfl,by decide,by decide,(fi [3,4] k2 k2.lt (by unfold ag;decide)),by unfold ag;decide,by unfold ag;decide⟩
  ·injection hx with hx
   subst hx;exact⟨_,0,(some ⟨w.heap.size+1+1+1,0,none⟩),1,rfl,k6.lt,k6.c 9 rfl,k6.c 10 rfl,k6.c 11 rfl,by decide,by decide,(fi [5] k3 k3.lt (by unfold ag;decide)),by unfold ag;decide,by unfold ag;decide⟩
  ·injection hx with hx
   subst hx;exact⟨_,0,(some ⟨w.heap.size+1+1+1+1,0,none⟩),1,rfl,k6.lt,k6.c 12 rfl,k6.c 13 rfl,k6.c 14 rfl,by decide,by decide,(fi [6] k4 k4.lt (by unfold ag;decide)),by unfold ag;decide,by unfold ag;decide⟩
  ·injection hx with hx
   subst hx;exact⟨_,0,none,0,rfl,k6.lt,k6.c 15 rfl,k6.c 16 rfl,k6.c 17 rfl,by decide,by decide,g' _ _ _,by unfold ag;decide,by unfold ag;decide⟩
  ·injection hx with hx
   subst hx;exact⟨_,0,(some ⟨w.heap.size+1+1+1+1+1,0,none⟩),1,rfl,k6.lt,k6.c 18 rfl,k6.c 19 rfl,k6.c 20 rfl,by decide,by decide,(fi [7] k5 k5.lt (by unfold ag;decide)),by unfold ag;decide,by unfold ag;decide⟩
  ·injection hx with hx
   subst hx;exact⟨_,0,none,0,rfl,k6.lt,k6.c 21 rfl,k6.c 22 rfl,k6.c 23 rfl,by decide,by decide,g' _ _ _,by unfold ag;decide,by unfold ag;decide⟩
  ·simp at hx
 have ax:aV (ο aO) aO [⟨24,0,[1]⟩,⟨16,0,[2,3]⟩,⟨3,0,[]⟩,⟨1,5,[]⟩] (some ⟨w.heap.size+1+1+1+1+1+1+1+1+1,0,none⟩):=fun j x hx=>by
  rcases j with _ | _ | _ | _ | j
  ·injection hx with hx
   subst hx;exact⟨_,0,(some ⟨w.heap.size+1+1+1+1+1+1+1,0,none⟩),1,rfl,k9.lt,k9.c 0 rfl,k9.c 1 rfl,k9.c 2 rfl,by decide,by decide,(fi [1] k7 k7.lt (by unfold ag;decide)),by unfold ag;decide,by unfold ag;decide⟩
  ·injection hx with hx
   subst hx;exact⟨_,0,(some ⟨w.heap.size+1+1+1+1+1+1+1+1,0,none⟩),2,rfl,k9.lt,k9.c 3 rfl,k9.c 4 rfl,k9.c 5 rfl,by decide,by decide,(fi [2,3] k8 k8.lt (by unfold ag;decide)),by unfold ag;decide,by unfold ag;decide⟩
  ·injection hx with hx
   subst hx;exact⟨_,0,none,0,rfl,k9.lt,k9.c 6 rfl,k9.c 7 rfl,k9.c 8 rfl,by decide,by decide,g' _ _ _,by unfold ag;decide,by unfold ag;decide⟩
  ·injection hx with hx
   subst hx;exact⟨_,0,none,0,rfl,k9.lt,k9.c 9 rfl,k9.c 10 rfl,k9.c 11 rfl,by decide,by decide,g' _ _ _,by unfold ag;decide,by unfold ag;decide⟩
  ·simp at hx
 have hP:b0 (ο aO) aO dT (some ⟨w.heap.size+1+1+1+1+1+1+1+1+1+1,0,none⟩) 2:=⟨fun j f hf=>by
  rcases j with _ | _ | j
  ·injection hf with hf
   subst hf;exact⟨_,0,(some ⟨w.heap.size+1+1+1+1+1+1,0,none⟩),8,rfl,aD.lt,aD.c 0 rfl,aD.c 1 rfl,by decide,by decide,ad,by unfold ag;decide⟩
  ·injection hf with hf
   subst hf;exact⟨_,0,(some ⟨w.heap.size+1+1+1+1+1+1+1+1+1,0,none⟩),4,rfl,aD.lt,aD.c 2 rfl,aD.c 3 rfl,by decide,by decide,ax,by unfold ag;decide⟩
  ·simp[dT] at hf,by decide,by decide⟩
 have HP:=χ (Zf H hP);have c0:=O.c 0 rfl;clear ad ax hP O Z k2 k3 k4 k5 k6 k7 k8 k9 aD a1 ak bg I L h J U z A H;go_enter func36,ntmps36;go_wp2_with fail;refine Zl (v:= .agg #[.slice (Γ (w.heap.size+1+1+1+1+1+1+1+1+1+1)) 2 2]) (by simp[results,results36,go_sem,c0]) rfl ?_;exact⟨_,rfl,HP.out.1,HP.out.2⟩
section
def wk:(prog.info? 175).map (fun i=>(i.zero,i.size,i.bytes))=some (some (.agg #[ι 0,ι 0,.int .u64 0,.int .u64 0,Δ]),5,40):=by kernel_rfl
def lJ:(prog.info? 22).map (fun i=>(i.zero,i.size,i.bytes))=some (some (.int .u64 0),1,8):=by kernel_rfl
def dr (l:List Nat):List Value:=l.map fun n=>.int .u64 (n:Nat)
def c9:Nat:=18446744073709551616
def fe (n:Nat):Int:=((n % c9:Nat):Int)
def tm (n):IntKind.u64.wrap (fe n+1)=fe (n+1):=by unfold fe c9;rw[IntKind.wrap_u64];omega
structure ac (o:ab) (w:World) (Y most:Nat) (cells:List Nat) (cnt:Nat) (vl vc:Value) (nl:Nat) (xs:List Value):Prop where
 blk:A w Y 171 [.int .u64 (fe cnt),vl,.int .i64 (most:Nat),vc]
 own:o Y=some Y
 last:cj o w Y 175 5 vl nl xs
 nl:nl≤1024
 cs:cj o w Y 22 1 vc cells.length (dr cells)
 most1:1≤most
 most2:most≤65536
 len:cells.length≤most
 small:∀n∈cells,n < c9
def an (o:ab) (w:World) (Y most:Nat) (cells:List Nat) (cnt:Nat):Prop:=∃vl vc nl xs,ac o w Y most cells cnt vl vc nl xs
section
variable {o o':ab} {w w':World} {Y most cnt nl:Nat} {cells:List Nat} {vl vc:Value} {xs:List Value} {K:Nat→Prop}
def ac.kept (h:ac o w Y most cells cnt vl vc nl xs) (I:aM K o w o' w') (hk:K Y):ac o' w' Y most cells cnt vl vc nl xs:=by obtain⟨H,h2⟩:=I.blk h.blk h.own hk;exact⟨H,h2,h.last.kept I hk,h.nl,h.cs.kept I hk,h.most1,h.most2,h.len,h.small⟩
def an.kept (h:an o w Y most cells cnt) (I:aM K o w o' w') (hk:K Y):an o' w' Y most cells cnt:=by obtain⟨vl,vc,nl,xs,h⟩:=h;exact⟨vl,vc,nl,xs,h.kept I hk⟩
end
def ac.below {o w w' Y most cnt nl cells vl vc xs} (h:ac o w Y most cells cnt vl vc nl xs) (z:Wf o w) (hb:Below (ν w) w w'):ac o w' Y most cells cnt vl vc nl xs:=
 h.kept (kB z hb) trivial
section
variable {o:ab} {w:World} {Y most cnt nl:Nat} {cells:List Nat} {vl vc:Value} {xs:List Value}
def ac.Co (h:ac o w Y most cells cnt vl vc nl xs) (z:Wf o w):J (·=Y) o w o (σ w Y 0 (.int .u64 (IntKind.u64.wrap (fe cnt+1))):World)∧ac o (σ w Y 0 (.int .u64 (IntKind.u64.wrap (fe cnt+1)))) Y most cells (cnt+1) vl vc nl xs:=
 ⟨Z3 (D:=(·=Y)) z h.own rfl _ _,by rw[←tm];exact h.blk.set 0 _,h.own,h.last.BH (dw h.blk h.last.row φ) _ _,h.nl,h.cs.BH (dw h.blk h.cs.row φ) _ _,h.most1,h.most2,h.len,h.small⟩
def ac.CI (h:ac o w Y most cells cnt vl vc nl xs) (z:Wf o w) {w' g cap m ys} (hr:w'.ownsRow 0 175 5 (.slice (Γ g) m cap) m ys) (hg:w.grownBy w' vl.ownBlock) (ha:vl.ownBlock=some g∨g=w.heap.size) (hm:m≤1024) :
  J (·=Y) o w (o.set g (some Y)) (σ w' Y 1 (.slice (Γ g) m cap):World)∧ac (o.set g (some Y)) (σ w' Y 1 (.slice (Γ g) m cap)) Y most cells cnt (.slice (Γ g) m cap) vc m ys:=by
 obtain⟨H,h2⟩:=h.last.BM z h.blk.lt hr hg ha;have E:g≠Y:=by
  rintro rfl;rcases ha with e | e
  ·exact dw h.blk h.last.row φ e
  ·have:=h.blk.lt;omega
 have G:(o.set g (some Y)) Y=some Y:=by rw[ab.BG _ _ (Ne.symm E)];exact h.own
 have aQ:A w' Y 171 _:=h.blk.fr (S:=fun q=>vl.ownBlock=some q) (Yj hg fun q hq=>.inl hq) (dw h.blk h.last.row φ);have I:cj (o.set g (some Y)) w' Y 22 1 vc cells.length (dr cells):=by
  have ay:∀q,vc.ownBlock=some q→¬vl.ownBlock=some q:=hA h.cs.row h.last.row φ;refine⟨gg h.cs.row fun q hq ad=>hg.block q ad (fun e=>ay q hq e.symm),fun q hq=>?_⟩
  by_cases e:q=g
  ·subst e;exact Zw _ _ _
  ·rw[ab.BG _ _ e];exact h.cs.own q hq
 refine⟨H.same z (Z3 (D:=(·=Y)) (z.BD H) G rfl _ _),aQ.set 1 _,G,h2.BH (fun e=>E (by simpa [Value.ownBlock] using e)) _ _,hm,I.BH (dw aQ I.row φ) _ _,h.most1,h.most2,h.len,h.small⟩
end
def ac.BQ {o w Y most cnt nl q cap cells vc xs} (h:ac o w Y most cells cnt (.slice (Γ q) nl cap) vc nl xs) (z:Wf o w) (j u) :
  J (·=Y) o w o (σ w q j u:World)∧ac o (σ w q j u) Y most cells cnt (.slice (Γ q) nl cap) vc nl (xs.set j u):=by have E:=h.last.own q rfl;have A:Y≠q:=fun e=>dw h.blk h.last.row φ (by rw[e];rfl);exact⟨Z3 (D:=(·=Y)) z E rfl _ _,h.blk.BJ (by simpa using A) _,h.own,⟨(h.last.row.stored j u).1,h.last.own⟩,h.nl,h.cs.BH (fun e=>hA h.cs.row h.last.row φ q e rfl) _ _,h.most1,h.most2,h.len,h.small⟩
def ac.drew {o w Y most cnt nl cells vl vc xs} (h:ac o w Y most cells cnt vl vc nl xs):ac o w.drew Y most cells cnt vl vc nl xs:=⟨h.blk,h.own,⟨h.last.row.drew,h.last.own⟩,h.nl,⟨h.cs.row.drew,h.cs.own⟩,h.most1,h.most2,h.len,h.small⟩
def nY (op at_:Int) (old new:Nat) (did:Bool):List Value:=[.int .i64 op,.int .i64 at_,.int .u64 (old:Nat),.int .u64 (new:Nat),.bool did]
def u9 (o Y most cells cnt vl vc nl xs op at_ old new did w) (z:Wf o w) (h:ac o w Y most cells cnt vl vc nl xs) :
  Calls prog 456 #[π Y,.agg #[ι op,ι at_,.int .u64 (old:Nat),.int .u64 (new:Nat),.bool did]] w fun e w'=>e= .returned (.tuple #[]) ∧
   ∃o' aK aU I,J (·=Y) o w o' w'∧ac o' w' Y most cells (cnt+1) aK vc aU I:=by
 have aO:=am w (.cells #[ι op,ι at_,.int .u64 (old:Nat),.int .u64 (new:Nat),.bool did] 175);have aN:=Zh w 175 [ι op,ι at_,.int .u64 (old:Nat),.int .u64 (new:Nat),.bool did];have ak:J (·=Y) o w o _:=Zb z aO;have az:=h.blk;have H:=h.below z aO;have ae:=z.below aO;have c1:=az.c 1 rfl;have bJ:=az.lt;obtain⟨va,V,rfl,aA,aS,aE⟩:=hQ h.last.row;clear aE az;have bc:=h.nl
 by_cases ad:nl < 1024
 case' pos=>have hd:decide ((nl:Int) < 1024)=true:=Zy ω
 case' neg=>have hd:decide ((nl:Int) < 1024)=false:=Zn ω
 all_goals
  go_enter func456,ntmps456
 case' pos=>go_upto_region 2 with fail
 case' neg=>go_upto_region 3 with fail
 all_goals
  clear c1 aO;generalize w.alloc (.cells #[ι op,ι at_,.int .u64 (old:Nat),.int .u64 (new:Nat),.bool did] 175)=w1 at *;generalize w.heap.size=nb at *;have b':=H.blk.lt;obtain⟨c0,c1,-⟩:=kc1 H.blk;obtain⟨a7,aC,aF,aL,aZ,-⟩:=kc4 aN
 case pos=>
  obtain⟨i0,ay,aH,ax,aT⟩:=cq wk;have aM:Below (ν w1) w1 (w1.alloc (.cells #[ι op,ι at_,.int .u64 (old:Nat),.int .u64 (new:Nat),.bool did] 175)).drew:=(am w1 _).drew;have bH:=H.below ae aM;have O:=ae.below aM;have aD:J (·=Y) o w1 o _:=Zb ae aM;have bj:(Value.slice va nl V).ownBlock≠some Y:=dw H.blk H.last.row φ;have aQ:=(H.blk.alloc (.cells #[ι op,ι at_,.int .u64 (old:Nat),.int .u64 (new:Nat),.bool did] 175)).drew;obtain⟨-,-,aJ,aB,-⟩:=kb1 aQ;go_region_law
   ((refine step_append_lies _ (by rfl) _ _ _ (by rfl) 0 175 i0 _ 5 40 underlying167 ay aH ax aT rfl ω (.slice va nl V) nl xs (by rfl) ((H.last.row.alloc _).drew)
       ⟨w1.heap.size,0,none⟩ 1 1 (nY op at_ old new did) (by rfl) (by rfl) (World.news_of_block (cs:=#[ι op,ι at_,.int .u64 (old:Nat),.int .u64 (new:Nat),.bool did]) (t:=175) (fr:=(0,0)) (ZP w1 _)) (by simp[nY,Value.oneCell'])
       (by omega) (by unfold maxLen;omega) ω ξ _ rfl ?_;intro gg aR E an Z aV aG;have a':E.frozen? (κ Y 1)=false:=(Z.frozen_far ⟨Y,1,none⟩ Ξ (Yv bj)).trans aB;have be:E.cell? (κ Y 1)=some (.slice va nl V):=(Z.cell_far ⟨Y,1,none⟩ Ξ (Yv bj)).trans aJ))
  all_goals
   obtain⟨aq,h2⟩:=bH.CI O an Z aV ω;have ap:=O.BD aq;have ag:=ak.same z (aD.same ae aq);obtain⟨ao,h4⟩:=h2.Co ap;obtain⟨c2,f2,-⟩:=kb0 h2.blk;clear ak aD aq bH O an Z aV H be a' aJ aB aQ c0 c1 a7 aC aF aL aZ bj;generalize (σ E Y 1 (.slice (Γ gg) (nl+1) aR):World)=M at *;go_wp2_with fail;go_end0;exact⟨rfl,_,_,_,_,ag.same z ao,h4⟩
 case neg=>
  obtain rfl:nl=1024:=ω;obtain⟨q,rfl,ah⟩:∃q,va=some ⟨q,0,none⟩∧∀j,j < 5120→∃u,w1.cell? (κ q j)=some u:=by
   rcases H.last.row.2 with ⟨-,e⟩ | ⟨q,cap,L,e,-⟩
   ·cases e
   ·injection e with e1 _ _
    refine⟨q,e1,fun j hj=>?_⟩;subst e1;rw[H.last.row.cellAt j ω];exact⟨_,Zg (by rw[H.last.row.1];omega)⟩
  have aI:=H.last.row.frozenAt;obtain⟨k,hk⟩:∃k,cnt % 1024=k:=⟨_,rfl⟩;have hk2:k < 1024:=ω;have aW:(fe cnt).tmod 1024=(k:Int):=by unfold fe c9;rw[Int.tmod_eq_emod_of_nonneg ω];omega
  obtain⟨u0,y0⟩:=ah (k*5) ω;obtain⟨u1,y1⟩:=ah (k*5+1) ω;obtain⟨u2,y2⟩:=ah (k*5+2) ω;obtain⟨u3,y3⟩:=ah (k*5+3) ω;obtain⟨u4,y4⟩:=ah (k*5+4) ω;have z0:=aI (k*5);have z1:=aI (k*5+1);have z2:=aI (k*5+2);have z3:=aI (k*5+3);have z4:=aI (k*5+4);have aw:IntKind.u64.wrap (k:Int)=k:=by rw[IntKind.wrap_u64];omega
  clear ah aI hk;obtain⟨t1,a1⟩:=H.BQ ae (k*5) (ι op);obtain⟨t2,a2⟩:=a1.BQ (ae.BD t1) (k*5+1) (ι at_);have ai:=t1.same ae t2;obtain⟨t3,a3⟩:=a2.BQ (ae.BD ai) (k*5+2) (.int .u64 (old:Nat));have af:=ai.same ae t3;obtain⟨t4,a4⟩:=a3.BQ (ae.BD af) (k*5+3) (.int .u64 (new:Nat));have U:=af.same ae t4;obtain⟨t5,a5⟩:=a4.BQ (ae.BD U) (k*5+4) (.bool did);have aj:=U.same ae t5;have a6:=a5.drew;have t6:J (·=Y) o w1 o _:=aj.same ae (Zb (ae.BD aj) (Zj _ _).drew);have aP:=ae.BD t6;obtain⟨G,aa⟩:=a6.Co aP;have T7:=ak.same z (t6.same ae G);obtain⟨c2,f2,-⟩:=kb0 a6.blk;have HA:=χ aa;have HT:=χ T7;clear ak t1 a1 t2 a2 ai t3 a3 af t4 a4 U t5 a5 aj a6 t6 G aa T7 aP;go_region;clear c0 c1 a7 aC aF aL aZ y0 y1 y2 y3 y4 z0 z1 z2 z3 z4 H aN;generalize (σ (σ (σ (σ (σ w1 q (k*5) (ι op)) q (k*5+1) (ι at_)) q (k*5+2) (.int .u64 (old:Nat))) q (k*5+3) (.int .u64 (new:Nat))) q (k*5+4) (.bool did):World).drew=M at *;go_wp2_with fail;go_end0;exact⟨rfl,_,_,_,_,HT.out,HA.out⟩
end
def nH (o Y most cells cnt w) (h:an o w Y most cells cnt) :
  Calls prog 77 #[π Y] w (μ (.bool false) w):=by
 obtain⟨vl,vc,nl,xs,h⟩:=h;have c2:=h.blk.c 2 rfl;have H:=h.most1;have hd:((most:Int) == 0)=false:=by simp;omega
 go_enter func77,ntmps77;go_wp2_with fail;go_ret;exact⟨rfl,rfl⟩
structure hC (F:Nat) (caps:Array Value) (w:World) (f:Nat→Nat) (d:Nat→Bool):Prop where
 enters:∀(args:Array Value) (w:World),(callFunc F args).run prog w= .ok (.enter F args) w
 calls:∀(z:Nat) (W:World),z < c9→Below w.heap.size w W→Calls prog F (#[.int .u64 (z:Nat)] ++ caps) W fun e w'=>e= .returned (.tuple #[.int .u64 (f z:Nat),.bool (d z)])∧Below W.heap.size W w'
 small:∀z,z < c9→f z < c9
def qi (l i x):(dr l).set i (.int .u64 (x:Nat))=dr (l.set i x):=by unfold dr;rw[List.map_set]
def ac.CC {o w Y most cnt nl g cap i y cells vl xs} (h:ac o w Y most cells cnt vl (.slice (Γ g) cells.length cap) nl xs) (z:Wf o w) (hy:y < c9) :
  J (·=Y) o w o (σ w g i (.int .u64 (y:Nat)):World)∧ac o (σ w g i (.int .u64 (y:Nat))) Y most (cells.set i y) cnt vl (.slice (Γ g) cells.length cap) nl xs:=by
 have E:=h.cs.own g rfl;have A:Y≠g:=fun e=>dw h.blk h.cs.row φ (by rw[e];rfl);have hr:=(h.cs.row.stored i (.int .u64 (y:Nat))).1;rw[qi] at hr;refine⟨Z3 (D:=(·=Y)) z E rfl _ _,h.blk.BJ (by simpa using A) _,h.own,h.last.BH (fun e=>hA h.last.row h.cs.row φ g e rfl) _ _,h.nl,⟨by rw[List.length_set];exact hr,h.cs.own⟩,h.most1,h.most2,by rw[List.length_set];exact h.len,fun n hn=>?_⟩;rcases ZY hn with hn | hn
 ·exact h.small n hn
 ·rw[hn];exact hy
def xT {p q:Prop} (k:q) (h:Zq q→p:=by
 intro mq;obtain⟨x,hx⟩:∃x,cells[i]=x:=⟨_,rfl⟩;revert x hx
 exact mq.u):p:=h ⟨k⟩
def j4 (o Y most cells cnt op i F caps f d w) (z:Wf o w) (h:an o w Y most cells cnt) (hi:i < cells.length) (hF:hC F caps w f d) :
  Calls prog 426 #[π Y,ι op,ι (i:Nat),.func (.func F) #[] caps] w fun e w'=>
   e= .returned (.tuple #[.int .u64 (cells[i]:Nat),.bool (d cells[i]),ι 0])∧∃o',J (·=Y) o w o' w'∧an o' w' Y most (cells.set i (if d cells[i] then f cells[i] else cells[i])) (cnt+1):=by
 have hM:=nH o Y most cells cnt w h;obtain⟨vl,vc,nl,xs,h⟩:=h;have hsm:=h.small cells[i] (Z8 hi);have bu:=h.len;have c3:=h.blk.c 3 rfl;have M:=hF.enters;have HC:=hF.calls cells[i];have a6:=hF.small cells[i] hsm;clear hF;refine xT ?_;intro x hx;rw[hx] at hsm HC a6 ⊢;obtain⟨n,hn⟩:∃n,cells.length=n:=⟨_,rfl⟩;obtain⟨va,V,rfl,aA,aS,aE⟩:=hQ h.cs.row;obtain⟨g,rfl,-,hg,y0⟩:=aE i (.int .u64 (x:Nat)) (by simp[dr,hi,hx]);have A:=hn;rw[hn] at c3 hi bu;have q1:decide ((i:Int) < 0)=false:=Zn ω;have q2:decide (n≤i)=false:=Zn ω;have HX:=χ hx;have HN:=χ A;clear aE hx hn A;obtain⟨b,hb⟩:∃b,d x=b:=⟨_,rfl⟩;rw[hb] at HC ⊢;obtain⟨y,hy⟩:∃y,(if b=true then f x else x)=y:=⟨_,rfl⟩;have ac:y < c9:=by rw[←hy];split <;> assumption
 have Z:=χ hy;rw[hy];clear hb hy;go_enter func426,ntmps426;go_wp2_with (go_at_call 77;refine γ hM ?_);refine δ (HC w hsm (Zj _ _)) ?_;intro w1 af;have H:=h.below z af;have ae:=z.below af;have ak:J (·=Y) o w o w1:=Zb z af;obtain⟨aq,h2⟩:=H.CC (i:=i) ae ac;have hN:=u9 o Y most (cells.set i y) cnt vl _ nl xs op (i:Nat) x y b _ (ae.BD aq) h2;clear y0 c3 hM HC h;have y0:=(H.cs.row.cellAt i (by rw[HN.out];omega)).trans (by simp[dr,HX.out,HN.out,hi]:(dr cells)[i]? =some (.int .u64 (x:Nat)));have z0:=H.cs.row.frozenAt i;have c3:=H.blk.c 3 rfl;rw[HN.out] at c3;cases b
 all_goals
  have hy:=Z.out;simp only[if_true,if_false,Bool.false_eq_true] at hy;subst hy;go_wp2_with (go_at_call 456;refine hN.mono ?_;rintro e E ⟨rfl,o3,G,L,I,ag,h3⟩);go_ret3;exact⟨rfl,o3,ak.same z (aq.same ae ag),G,_,L,I,h3⟩
def E (Y most:Nat) (cells:List Nat) (cnt:Nat) (o:ab) (w w':World):Prop:=∃o',J (·=Y) o w o' w'∧an o' w' Y most cells (cnt+1)
def E.first {Y most cnt cells o w w1 w'} (z:Wf o w) (hb:Below (ν w) w w1) (h:E Y most cells cnt o w1 w'):E Y most cells cnt o w w':=by obtain⟨o',H,h2⟩:=h;exact⟨o',(Zb z hb).same z H,h2⟩
def an.below {Y most cnt cells o w w'} (z:Wf o w) (h:an o w Y most cells cnt) (hb:Below (ν w) w w'):an o w' Y most cells cnt:=by obtain⟨vl,vc,nl,xs,h⟩:=h;exact⟨vl,vc,nl,xs,h.below z hb⟩
def uN (x w):Calls prog 427 #[.int .u64 (x:Nat)] w (μ (.tuple #[.int .u64 (x:Nat),Υ]) w):=by go_enter func427,ntmps427;go_wp2_with fail;go_ret2;exact⟨rfl,rfl⟩
def o4 (w):hC 427 #[] w id fun _=>true:=
 ⟨fun _ _=>by kernel_rfl,fun z W _ _=>(uN z W).mono (by rintro e w' ⟨rfl,rfl⟩;exact⟨rfl,Zj _ _⟩),fun _ h=>h⟩
def mi (o Y most cells cnt i w) (z:Wf o w) (h:an o w Y most cells cnt) (hi:i < cells.length) :
  Calls prog 378 #[π Y,ι (i:Nat)] w fun e w'=>e= .returned (.tuple #[.int .u64 (cells[i]:Nat),ι 0])∧E Y most cells cnt o w w':=by have hA:=j4 o Y most cells cnt 1 i _ _ _ _ w z h hi (o4 w);simp only[if_true,id,List.set_getElem_self] at hA;refine xT ?_;intro x hx;rw[hx] at hA ⊢;clear hx;go_enter func378,ntmps378;go_wp2_with (go_at_call 426;refine δ hA ?_;intro w1 U);go_ret2;exact⟨rfl,U⟩
def sX (x v b:Nat) (w:World) (hb:w.cell? (κ b 0)=some (.int .u64 (v:Nat))):Calls prog 460 #[.int .u64 (x:Nat),π b] w (μ (.tuple #[.int .u64 (v:Nat),Υ]) w):=by go_enter func460,ntmps460;go_wp2_with fail;go_ret2;exact⟨rfl,rfl⟩
def qP (w b v) (hv:v < c9) (hb:A w b 22 [.int .u64 (v:Nat)]):hC 460 #[π b] w (fun _=>v) fun _=>true:=
  ⟨fun _ _=>by kernel_rfl,fun z W _ hW=>(sX z v b W ((hb.BE hW).c 0 rfl)).mono (by rintro e w' ⟨rfl,rfl⟩;exact⟨rfl,Zj _ _⟩),fun _ _=>hv⟩
def ru (o Y most cells cnt i v) (hv:v < c9) (w) (z:Wf o w) (h:an o w Y most cells cnt) (hi:i < cells.length) :
  Calls prog 447 #[π Y,ι (i:Nat),.int .u64 (v:Nat)] w fun e w'=>e= .returned (ι 0)∧E Y most (cells.set i v) cnt o w w':=by have hb:=am w (.cells #[.int .u64 (v:Nat)] 22);have hA:=j4 o Y most cells cnt 2 i _ _ _ _ _ (z.below hb) (h.below z hb) hi (qP _ (ν w) v hv (Zh w 22 [.int .u64 (v:Nat)]));simp only[if_true] at hA;refine xT ?_;intro x hx;rw[hx] at hA;clear hx;go_enter func447,ntmps447;go_wp2_with (go_at_call 426;refine δ hA ?_;intro w1 U);go_ret;exact⟨rfl,E.first z hb U⟩
def sK (x old new b c:Nat) (w:World) (hb:w.cell? (κ b 0)=some (.int .u64 (new:Nat))) (hc:w.cell? (κ c 0)=some (.int .u64 (old:Nat))) :
  Calls prog 463 #[.int .u64 (x:Nat),π b,π c] w (ϑ (.tuple #[.int .u64 (new:Nat),.bool (x == old)]) w):=by
 obtain⟨t,ht⟩:∃t,(x == old)=t:=⟨_,rfl⟩;have hq:((x:Int) == (old:Int))=t:=by rw[←ht,Bool.eq_iff_iff];simp;omega
 rw[ht];go_enter func463,ntmps463;go_upto_region 1 with fail;go_quiet (fail);go_wp2_with fail;go_ret2;refine⟨?_,?_⟩
 ·simp_all
 ·exact⟨rfl,rfl,rfl,Zc _,fun _ _=>rfl⟩
def qI (w b c old new) (hv:new < c9) (hb:A w b 22 [.int .u64 (new:Nat)]) (hc:A w c 22 [.int .u64 (old:Nat)]):hC 463 #[π b,π c] w (fun _=>new) fun z=>z == old:=
  ⟨fun _ _=>by kernel_rfl,fun z W _ hW=>sK z old new b c W ((hb.BE hW).c 0 rfl) ((hc.BE hW).c 0 rfl),fun _ _=>hv⟩
def jr (o Y most cells cnt i old new) (hv:new < c9) (w) (z:Wf o w) (h:an o w Y most cells cnt) (hi:i < cells.length) :
  Calls prog 457 #[π Y,ι (i:Nat),.int .u64 (old:Nat),.int .u64 (new:Nat)] w fun e w'=>e= .returned (.tuple #[.int .u64 (cells[i]:Nat),.bool (cells[i] == old),ι 0])∧E Y most (cells.set i (if cells[i]=old then new else cells[i])) cnt o w w':=by
 have hb:=(am w (.cells #[.int .u64 (old:Nat)] 22)).alloc ξ (.cells #[.int .u64 (new:Nat)] 22);have O:=(Zh w 22 [.int .u64 (old:Nat)]).alloc (.cells #[.int .u64 (new:Nat)] 22);have Z:=Zh (w.alloc (.cells #[.int .u64 (old:Nat)] 22)) 22 [.int .u64 (new:Nat)];have hz:(w.alloc (.cells #[.int .u64 (old:Nat)] 22)).heap.size=w.heap.size+1:=by simp
 rw[hz] at Z;have hA:=j4 o Y most cells cnt 3 i _ _ _ _ _ (z.below hb) (h.below z hb) hi (qI _ (η w) (ν w) old new hv Z O);simp only[beq_iff_eq] at hA;refine xT ?_;intro x hx;rw[hx] at hA ⊢;obtain⟨cs,I⟩:∃cs,cells.set i (if x=old then new else x)=cs:=⟨_,rfl⟩;rw[I] at hA ⊢;clear hx I hz O Z;obtain⟨t,ht⟩:∃t,(x == old)=t:=⟨_,rfl⟩;rw[ht] at hA ⊢;clear ht;go_enter func457,ntmps457;go_wp2_with (go_at_call 426;refine δ hA ?_;intro w1 U);go_ret3;exact⟨rfl,E.first z hb U⟩
def wy (o Y most cells cnt i w) (z:Wf o w) (h:an o w Y most cells cnt) (hi:i < cells.length) :
  Calls prog 448 #[π Y,ι (i:Nat)] w fun e w'=>e= .returned (.tuple #[.bool (cells[i] == 0),ι 0])∧E Y most (cells.set i (if cells[i]=0 then 1 else cells[i])) cnt o w w':=by have hA:=jr o Y most cells cnt i 0 1 φ w z h hi;refine xT ?_;intro x hx;rw[hx] at hA ⊢;obtain⟨cs,I⟩:∃cs,cells.set i (if x=0 then 1 else x)=cs:=⟨_,rfl⟩;rw[I] at hA ⊢;obtain⟨t,ht⟩:∃t,(x == 0)=t:=⟨_,rfl⟩;rw[ht] at hA ⊢;clear hx I ht;go_enter func448,ntmps448;go_wp2_with (go_at_call 457;refine δ hA ?_;intro w1 U);go_ret2;exact⟨rfl,U⟩
def u0 (o Y most cells cnt i w) (z:Wf o w) (h:an o w Y most cells cnt) (hi:i < cells.length) :
  Calls prog 452 #[π Y,ι (i:Nat)] w fun e w'=>e= .returned (ι (if cells[i]=1 then 0 else 30))∧E Y most (cells.set i (if cells[i]=1 then 0 else cells[i])) cnt o w w':=by
 have hA:=jr o Y most cells cnt i 1 0 φ w z h hi;refine xT ?_;intro x hx;rw[hx] at hA ⊢;obtain⟨cs,I⟩:∃cs,cells.set i (if x=1 then 0 else x)=cs:=⟨_,rfl⟩;rw[I] at hA ⊢;obtain⟨r,hr⟩:∃r:Int,(if x=1 then 0 else 30)=r:=⟨_,rfl⟩;rw[hr]
 by_cases H:x=1
 case' pos=>
  have ht:(x == 1)=true:=by simpa using H
  rw[if_pos H] at hr
 case' neg=>
  have ht:(x == 1)=false:=by simpa using H
  rw[if_neg H] at hr
 all_goals
  rw[ht] at hA;subst hr;clear hx I ht H;go_enter func452,ntmps452;go_wp2_with (go_at_call 457;refine δ hA ?_;intro w1 U);go_ret;exact⟨rfl,U⟩
def pU (o Y most cells cnt i new) (hv:new≤2) (w) (z:Wf o w) (h:an o w Y most cells cnt) (hi:i < cells.length) :
  Calls prog 441 #[.agg #[π Y],ι (i:Nat),ι (new:Nat)] w fun e w'=>e= .returned (.tuple #[.int .u64 (cells[i]:Nat),ι 0])∧E Y most (cells.set i (if cells[i]=0 then new else cells[i])) cnt o w w':=by
 have hb:=am w (.cells #[π Y] 449);have hA:=jr o Y most cells cnt i 0 new (by unfold c9;omega) _ (z.below hb) (h.below z hb) hi;refine xT ?_;intro x hx;rw[hx] at hA ⊢;obtain⟨cs,I⟩:∃cs,cells.set i (if x=0 then new else x)=cs:=⟨_,rfl⟩;rw[I] at hA ⊢;obtain⟨t,ht⟩:∃t,(x == 0)=t:=⟨_,rfl⟩;rw[ht] at hA;have aE:IntKind.u64.wrap (new:Int)=new:=by rw[IntKind.wrap_u64];omega
 clear hx I ht;go_enter func441,ntmps441;go_wp2_with (go_at_call 457;refine δ hA ?_;intro w1 U);go_ret2;exact⟨rfl,E.first z hb U⟩
def Yt:=@E.first
end Go.Proofs.YtmchabopafimeaaGreatDoor
