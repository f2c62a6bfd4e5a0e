import Derived.Test.YtmchabopafimeaaGreatDoorQac
import Derived.Lib.AppendZeros
import Derived.Deep.RegionLaw
import Derived.Laws.MakeOwn
import Derived.Lib.AppendZerosOnto
namespace Go.Proofs.YtmchabopafimeaaGreatDoor
set_option maxRecDepth 100000
set_option maxHeartbeats 16000000
set_option linter.all false
open Tryz
section
open Go.RowKit
def aQ (w:World) (e:TypeId) (sz:Nat) (v:Value) (n:Nat) (xs:List Value):Prop:=
 xs.length=n*sz∧((v= .slice none 0 0∧n=0) ∨
  ∃g cap L,v= .slice (some ⟨g,0,none⟩) n cap∧w.heap[g]? =some (.cells L e (0,0))∧n≤cap∧cap≤maxLen∧cap*sz≤L.size∧L.toList.take (n*sz)=xs)
section
variable {w w':World} {e:TypeId} {sz n:Nat} {v:Value} {xs:List Value}
def aQ.Ca {B} (h:w.ownsRow B e sz v n xs):aQ w e sz v n xs:=by
 refine⟨h.1,?_⟩;rcases h.2 with h2 | ⟨g,cap,L,H,-,h3,h4,h5,h6,h7⟩
 ·exact .inl h2
 ·exact .inr ⟨g,cap,L,H,h3,h4,h5,ω,h7⟩
def aQ.nil (w e sz):aQ w e sz (.slice none 0 0) 0 []:=⟨by simp,.inl ⟨rfl,rfl⟩⟩
def aQ.lt (h:aQ w e sz v n xs) {g} (hg:v.ownBlock=some g):g < w.heap.size:=by
 rcases h.2 with ⟨rfl,-⟩ | ⟨g',cap,L,rfl,h3,-⟩
 ·cases hg
 ·obtain rfl:g'=g:=by simpa [Value.ownBlock] using hg
  exact aO h3
def aQ.form (h:aQ w e sz v n xs):∃(a:Option Addr) (cap:Nat),v= .slice a n cap∧n≤cap∧cap≤maxLen∧∀(j:Nat) (u:Value),xs[j]? =some u→∃g,a=some ⟨g,0,none⟩∧g < w.heap.size∧w.cell? (κ g j)=some u∧∀q,w.frozen? (κ g q)=false:=by
 have hl:=h.1;rcases h.2 with ⟨rfl,rfl⟩ | ⟨g,cap,L,rfl,h3,h4,h5,h6,h7⟩
 ·refine⟨none,0,rfl,Zc _,Z2 _,fun j u hu=>?_⟩
  have:xs=[]:=Z5 (by simpa using hl);subst this;simp at hu
 ·refine⟨_,cap,rfl,h4,h5,fun j u hu=>⟨g,rfl,aO h3,?_,fun q=>by simp[World.frozen?,h3]⟩⟩
  have hj:j < n*sz:=by rw[←hl];exact (Ze.1 hu).1
  rw[cell_of_row w g j L e (0,0) h3];rw[←h7,List.getElem?_take,if_pos hj] at hu;simpa using hu
def aQ.et (h:aQ w e sz v n xs) (hk:∀g,v.ownBlock=some g→g < w.heap.size→w'.heap[g]? =w.heap[g]?):aQ w' e sz v n xs:=by
 refine⟨h.1,?_⟩;rcases h.2 with h2 | ⟨g,cap,L,rfl,h3,h4⟩
 ·exact .inl h2
 ·exact .inr ⟨g,cap,L,rfl,(hk g rfl (aO h3)).trans h3,h4⟩
def aQ.cut {g cap m c} (h:aQ w e sz (.slice (Γ g) n cap) n xs) (hm:m≤n) (hc:m≤c) (be:c≤cap):aQ w e sz (.slice (Γ g) m c) m (xs.take (m*sz)):=by
 rcases h.2 with ⟨h2,-⟩ | ⟨g',aA,L,H,h3,h4,h5,h6,h7⟩
 ·cases h2
 ·injection H with e1 e2 e3
  injection e1 with e1;injection e1 with e1 _ _;subst e1;subst e3;have J:m*sz≤n*sz:=ZF sz hm;have I:c*sz≤cap*sz:=ZF sz be;refine⟨by rw[List.length_take,h.1];omega,.inr ⟨g,c,L,rfl,h3,hc,ω,ω,?_⟩⟩;rw[←h7,List.take_take,Nat.min_eq_left J]
def aQ.stored {g cap} (h:aQ w e sz (.slice (Γ g) n cap) n xs) (j u):aQ (σ w g j u) e sz (.slice (Γ g) n cap) n (xs.set j u):=by
 rcases h.2 with ⟨h2,-⟩ | ⟨g',aA,L,H,h3,h4,h5,h6,h7⟩
 ·cases h2
 ·injection H with e1 e2 e3
  injection e1 with e1;injection e1 with e1 _ _;subst e1;subst e3;refine⟨by rw[List.length_set];exact h.1,.inr ⟨g,cap,L.setIfInBounds j u,rfl,?_,h4,h5,by simpa using h6,?_⟩⟩
  ·simp[World.setCell,Array.getElem?_modify,h3]
  ·rw[Array.toList_setIfInBounds,List.take_set,h7]
def bq {g T cs} (hb:A w g T cs) (hr:aQ w e sz v n xs) (U:T≠e):v.ownBlock≠some g:=by
 intro hv;rcases hr.2 with ⟨rfl,-⟩ | ⟨g',cap,L,rfl,hg,-⟩
 ·cases hv
 ·obtain rfl:g'=g:=by simpa [Value.ownBlock] using hv
  unfold A at hb;rw[hb] at hg;injection hg with hg;injection hg with _ h2 _;exact U h2
end
section
variable {P:Program} (w:World)
def zm {p q:Prop} (k:q) (h:Zq q→p:=by
 intro mq;have aa:∀j u,ys[j]? =some u→w.cell? ((⟨gx,0,none⟩:Addr).add j)=some u:=World.news_of_block (cs:=ys.toArray) aW;have bd:ys.length=1*i.size:=ω;have aI:(xs ++ ys).length=(n+1)*i.size:=by rw[List.length_append,aE.1,aj,Nat.succ_mul]
 have z:(n+1)*i.bytes≤140737488355328:=by
  calc (n+1)*i.bytes≤10000000001*1000:=Nat.mul_le_mul ω bb
   _≤140737488355328:=by decide
 have h:∀(old:Nat),old < n+1→∀(row:Option Nat),
   aQ (w.drew.alloc (.cells (xs.toArray ++ ys.toArray ++ Builtin.zeroCells O.cells (grownCap w (n+1) old e - (n+1))) e)) e i.size (.slice (Γ (ν w)) (n+1) (grownCap w (n+1) old e)) (n+1) (xs ++ ys) ∧
   w.grownBy (w.drew.alloc (.cells (xs.toArray ++ ys.toArray ++ Builtin.zeroCells O.cells (grownCap w (n+1) old e - (n+1))) e)) row:=by
  exact BA
 revert aa bd aI z h
 exact mq.u):p:=h ⟨k⟩
def zn {p q:Prop} (k:q) (h:Zq q→p:=by
 intro mq;have ad:n*i.size+ys.length=(n+1)*i.size:=by rw[aj,Nat.succ_mul]
 have ac:n*i.size+ys.length≤L.size:=by rw[ad];exact Zp J I
 have hr:=run_append_room (P:=P) w t E e i ht hi g n cap L hg ⟨gx,0,none⟩ 1 1 ys bd aa ai ah ac;revert ad ac hr
 exact mq.u):p:=h ⟨k⟩
def zo {p:Prop} (h:p:=by
 have Y:=h 0 ω (Value.ownBlock (.slice none 0 0));simp only[Nat.zero_add,List.nil_append,Array.empty_append] at Y ⊢
 exact⟨_,_,_,hr,Y.1,Y.2,.inr rfl,by simp⟩):p:=h
def zp {p:Prop} (h:p:=by
 refine⟨_,_,_,hr,⟨aI,.inr ⟨g,cap,_,rfl,setRow_heap w g L _ e _ hg,ah,aS,?_,?_⟩⟩,⟨rfl,rfl,rfl,by simp,fun k _ hk=>setRow_other w g k _ (fun e=>hk (by simp[Value.ownBlock,e]))⟩,.inl rfl,?_⟩
 ·simp only[List.size_toArray,List.length_append,List.length_take,List.length_drop,Array.length_toList]
  omega
 ·rw[A,←aI]
  exact Yk
 ·have:=aO hg
  simpa using this):p:=h
def BA {p:Prop} (h:p:=by
 intro old M row;have Z:=grownCap_ge w (n+1) old e;have aS:grownCap w (n+1) old e≤maxLen:=ZQ w (n+1) old e (by unfold maxLen;omega);refine⟨⟨aI,.inr ⟨w.heap.size,_,_,rfl,ZP w.drew _,Z,aS,?_,?_⟩⟩,⟨rfl,rfl,rfl,by simp,fun k hk _=>Yl w.drew _ k hk⟩⟩
 ·simp only[Array.size_append,List.size_toArray,size_zeroCells,V,aE.1,bd,←Nat.add_mul]
  exact ZF _ ω
 ·simp only[Array.toList_append,List.append_assoc]
  rw[←List.append_assoc,←aI]
  exact Yk):p:=h
def n' (t E e O sz by_) (ht:P.underlying t=some (.slice e)) (G:(P.info? e).map (fun i=>(i.zero,i.size,i.bytes))=some (some O,sz,by_)) (V:O.cells.size=sz) (h0:0 < sz) (bb:by_≤1000) (v n xs) (aE:aQ w e sz v n xs) (gx ys) (aW:w.heap[gx]? =some (.cells ys.toArray e (0,0))) (aj:ys.length=sz) (ai:∀u∈ys,u.oneCell'=true) (hl:n≤10000000000) :
    ∃g cap w',(Builtin.append_ #[t,t] E #[v,.slice (Γ gx) 1 1]).run P w= .ok (.slice (Γ g) (n+1) cap) w'∧aQ w' e sz (.slice (Γ g) (n+1) cap) (n+1) (xs ++ ys)∧w.grownBy w' v.ownBlock∧(v.ownBlock=some g∨g=w.heap.size)∧g < w'.heap.size:=by
  obtain⟨i,hi,hz,hs,hb⟩:=cq G;subst hs;subst hb;refine zm ?_;intro aa bd aI z h;rcases aE.2 with ⟨rfl,rfl⟩ | ⟨g,cap,L,rfl,hg,aA,aS,I,A⟩
  ·have hx:xs=[]:=Z5 (by simpa using aE.1)
   subst hx;have hr:=run_append_nil (P:=P) w t E e i O ht hi hz ⟨gx,0,none⟩ 1 1 ys bd aa ω ω ω;exact zo
  ·by_cases ah:n+1≤cap
   ·have J:(n+1)*i.size≤cap*i.size:=ZF _ ah
    refine zn ?_;intro ad ac hr;exact zp
   ·have U:∀j u,xs[j]? =some u→w.cell? ((⟨g,0,none⟩:Addr).add j)=some u:=fun j u hu=>by
     obtain⟨a,c,H,-,-,h2⟩:=aE.form;obtain⟨g',h3,-,h4,-⟩:=h2 j u hu;injection H with e1 _ _;rw[h3] at e1;injection e1 with e1;injection e1 with e1 _ _;subst e1;have ha:(⟨g,0,none⟩:Addr).add j=⟨g,j,none⟩:=by unfold Addr.add;split <;> simp_all
     rw[ha];exact h4
    have hr:=run_append_grow (P:=P) w t E e i O ht hi hz ⟨g,0,none⟩ n cap xs aE.1 U ⟨gx,0,none⟩ 1 1 ys bd aa ω ω (growslice_fits ω z);have Y:=h cap ω (Value.ownBlock (.slice (Γ g) n cap));exact⟨_,_,_,hr,Y.1,Y.2,.inr rfl,by simp⟩
def hT {E o a K Q an} (hgd:o.guard=none) (s x:Operand) (t e O sz by_) (ht:P.underlying t=some (.slice e)) (G:(P.info? e).map (fun i=>(i.zero,i.size,i.bytes))=some (some O,sz,by_)) (V:O.cells.size=sz) (h0:0 < sz) (bb:by_≤1000) (M:o.op= .call {callee:= .builtin .append,args:=#[s,x],argTypes:=#[t,t]}) (v n xs) (hs:a.eval s=v) (aE:aQ w e sz v n xs) (gx ys) (hx:a.eval x= .slice (Γ gx) 1 1) (aW:w.heap[gx]? =some (.cells ys.toArray e (0,0))) (aj:ys.length=sz) (ai:∀u∈ys,u.oneCell'=true) (hl:n≤10000000000) (h:∀g cap w',aQ w' e sz (.slice (Γ g) (n+1) cap) (n+1) (xs ++ ys)→w.grownBy w' v.ownBlock→(v.ownBlock=some g∨g=w.heap.size)→g < w'.heap.size→K (a.put o.dst (.slice (Γ g) (n+1) cap)) w') :
    if Region.wanted o (yielded E a.tmps)=true then Oper.wp P o a w K Q else an:=by
  have z:Region.wanted o (yielded E a.tmps)=true:=by simp[Region.wanted,hgd]
  rw[if_pos z];obtain⟨g,cap,w',hr,H,h2,h3,h4⟩:=n' (P:=P) w t o.type e O sz by_ ht G V h0 bb v n xs aE gx ys aW aj ai hl;exact Lib.wp_append_run w s x t t M _ _ hs hx _ _ hr (h g cap w' H h2 h3 h4)
def dU {E rest o a Q} (hgd:o.guard=none) (s x:Operand) (t e O sz by_) (ht:P.underlying t=some (.slice e)) (G:(P.info? e).map (fun i=>(i.zero,i.size,i.bytes))=some (some O,sz,by_)) (V:O.cells.size=sz) (h0:0 < sz) (bb:by_≤1000) (M:o.op= .call {callee:= .builtin .append,args:=#[s,x],argTypes:=#[t,t]}) (v n xs) (hs:a.eval s=v) (aE:aQ w e sz v n xs) (gx ys) (hx:a.eval x= .slice (Γ gx) 1 1) (aW:w.heap[gx]? =some (.cells ys.toArray e (0,0))) (aj:ys.length=sz) (ai:∀u∈ys,u.oneCell'=true) (hl:n≤10000000000) (h:∀g cap w',aQ w' e sz (.slice (Γ g) (n+1) cap) (n+1) (xs ++ ys)→w.grownBy w' v.ownBlock→(v.ownBlock=some g∨g=w.heap.size)→g < w'.heap.size→wpList P E Q rest (a.put o.dst (.slice (Γ g) (n+1) cap)) w'):wpList P E Q (o :: rest) a w:=by obtain⟨g,cap,w',hr,H,h2,h3,h4⟩:=n' (P:=P) w t o.type e O sz by_ ht G V h0 bb v n xs aE gx ys aW aj ai hl;exact Lib.wpList_append_run w hgd s x t t M _ _ hs hx _ _ hr (h g cap w' H h2 h3 h4)
end
structure aw (o:ab) (w:World) (k:Nat) (an:TypeId) (sz:Nat) (v:Value) (n:Nat) (xs:List Value):Prop where
 row:aQ w an sz v n xs
 own:∀g,v.ownBlock=some g→o g=some k
section
variable {K:Nat→Prop} {o o':ab} {w w':World} {k:Nat} {an:TypeId} {sz n m:Nat} {v:Value} {xs ys:List Value}
def aw.kept (h:aw o w k an sz v n xs) (I:aM K o w o' w') (hk:K k):aw o' w' k an sz v n xs:=by
 have hh:∀g,v.ownBlock=some g→g < w.heap.size→w'.heap[g]? =w.heap[g]? ∧o' g=o g:=fun g hg ad=>I g ad fun q hq=>by rw[h.own g hg] at hq;cases hq;exact hk
 exact⟨h.row.et fun g hg ad=>(hh g hg ad).1,fun g hg=>(hh g hg (h.row.lt hg)).2.trans (h.own g hg)⟩
def aw.nil (o w k an sz):aw o w k an sz (.slice none 0 0) 0 []:=⟨aQ.nil _ _ _,fun g h=>by cases h⟩
def aw.BH (h:aw o w k an sz v n xs) {b} (hb:v.ownBlock≠some b) (i u):aw o (σ w b i u) k an sz v n xs:=
 ⟨h.row.et fun g hg _=>Z0 _ _ _ _ (fun e=>hb (by rw[hg,e])),h.own⟩
def aw.BM (h:aw o w k an sz v n xs) (z:Wf o w) (E:k < w.heap.size) {g cap} (hr:aQ w' an sz (.slice (Γ g) m cap) m ys) (hg:w.grownBy w' v.ownBlock) (ha:v.ownBlock=some g∨g=w.heap.size) :
  J (·=k) o w (o.set g (some k)) w'∧aw (o.set g (some k)) w' k an sz (.slice (Γ g) m cap) m ys:=by
 have ad:=hr.lt (g:=g) rfl;have h0:J (·=k) o w o w':=Z9 z (Yj (S:=fun b=>v.ownBlock=some b) hg fun q hq=>.inl hq) fun b _ hb=>⟨k,h.own b hb,rfl⟩;refine⟨?_,hr,fun q hq=>?_⟩
 ·rcases ha with e | e
  ·exact h0.again (h.own g e)
  ·exact h0.BN ω ad (Za E hg.size) (.inl rfl)
 ·obtain rfl:g=q:=by simpa [Value.ownBlock] using hq
  exact Zw _ _ _
end
end
section
open Go.RowKit
def aD {α:Type} (P:α→List Value→Prop) (sz:Nat) (l:List α) (xs:List Value):Prop:=xs.length=l.length*sz∧∀(j:Nat) (x:α),l[j]? =some x→P x ((xs.drop (j*sz)).take sz)
section
variable {α:Type} {P P':α→List Value→Prop} {sz:Nat} {l:List α} {xs cs:List Value} {x:α} {j:Nat}
def aD.nil (P:α→List Value→Prop) (sz):aD P sz [] []:=⟨by simp,fun j x h=>by simp at h⟩
def aD.mono (h:aD P sz l xs) (hP:∀x cs,P x cs→P' x cs):aD P' sz l xs:=⟨h.1,fun j x hx=>hP _ _ (h.2 j x hx)⟩
def dH {m} (hj:j < m):j*sz+sz≤m*sz:=by have:(j+1)*sz≤m*sz:=ZF sz hj;rwa [Nat.succ_mul] at this
def aD.push (h:aD P sz l xs) (hx:P x cs) (hc:cs.length=sz):aD P sz (l ++ [x]) (xs ++ cs):=by
 refine⟨by simp[h.1,hc,Nat.add_mul],fun j y hy=>?_⟩;rcases ZN j l.length with ad | Z
 ·rw[List.getElem?_append_left ad] at hy
  have:=h.2 j y hy;have hb:=dH (sz:=sz) ad;rw[←h.1] at hb;rw[List.drop_append_of_le_length ω,List.take_append_of_le_length Ξ];exact this
 ·obtain rfl:j=l.length:=by
   have:=(Ze.1 hy).1;simp at this;omega
  obtain rfl:x=y:=by simpa using hy
  rw[←h.1,List.drop_left,List.take_of_length_le ω];exact hx
def aD.one (hx:P x cs) (hc:cs.length=sz):aD P sz [x] cs:=by have:=(aD.nil P sz).push hx hc;simpa using this
def aD.at_ (h:aD P sz l xs) (hx:l[j]? =some x):∃cs,cs.length=sz∧P x cs∧∀i,i < sz→xs[j*sz+i]? =cs[i]? :=by have hb:=dH (sz:=sz) (Ze.1 hx).1;rw[←h.1] at hb;refine⟨_,by simp;omega,h.2 j x hx,fun i hi=>?_⟩;rw[List.getElem?_take,if_pos hi,List.getElem?_drop]
def aD.app {l' I} (h:aD P sz l xs) (V:aD P sz l' I):aD P sz (l ++ l') (xs ++ I):=by
 refine⟨by simp[h.1,V.1,Nat.add_mul],fun j y hy=>?_⟩;rcases ZN j l.length with ad | Z
 ·rw[List.getElem?_append_left ad] at hy
  have hb:=dH (sz:=sz) ad;rw[←h.1] at hb;rw[List.drop_append_of_le_length ω,List.take_append_of_le_length Ξ];exact h.2 j y hy
 ·rw[List.getElem?_append_right Z] at hy
  have hd:j*sz=xs.length+(j - l.length)*sz:=by
   rw[h.1,←Nat.add_mul]
   congr 1
   omega
  rw[hd,←List.drop_drop,List.drop_left];exact V.2 _ y hy
def aD.take (h:aD P sz l xs) (n):aD P sz (l.take n) (xs.take (n*sz)):=by
 refine⟨?_,fun j y hy=>?_⟩
 ·rw[List.length_take,List.length_take,h.1]
  rcases Nat.le_total n l.length with hn | hn
  ·rw[Nat.min_eq_left hn,Nat.min_eq_left (Nat.mul_le_mul_right sz hn)]
  ·rw[Nat.min_eq_right hn,Nat.min_eq_right (Nat.mul_le_mul_right sz hn)]
 ·rw[List.getElem?_take] at hy
  split at hy
  ·next ad=>have hb:=dH (sz:=sz) ad;rw[List.drop_take,List.take_take,Nat.min_eq_left ω];exact h.2 j y hy
  ·cases hy
def aD.drop (h:aD P sz l xs) (n):aD P sz (l.drop n) (xs.drop (n*sz)):=by refine⟨by rw[List.length_drop,List.length_drop,h.1,Nat.sub_mul],fun j y hy=>?_⟩;rw[List.getElem?_drop] at hy;have:=h.2 (n+j) y hy;rwa [List.drop_drop,←Nat.add_mul]
def aD.set (h:aD P sz l xs) (hj:j < l.length) (hx:P x cs) (hc:cs.length=sz):aD P sz (l.set j x) (xs.take (j*sz) ++ cs ++ xs.drop (j*sz+sz)):=by have H:=((h.take j).push hx hc).app (h.drop (j+1));rw[show (j+1)*sz=j*sz+sz by rw[Nat.succ_mul]] at H;rwa [List.set_eq_take_append_cons_drop,if_pos hj,show l.take j ++ x :: l.drop (j+1)=l.take j ++ [x] ++ l.drop (j+1) by simp]
def kE {i} (hi:i < sz) (hl:j*sz+sz≤xs.length) (u):xs.set (j*sz+i) u=xs.take (j*sz) ++ ((xs.drop (j*sz)).take sz).set i u ++ xs.drop (j*sz+sz):=by
 apply Ye;intro q
 by_cases H:q < j*sz
 ·rw[List.append_assoc,List.getElem?_append_left Ξ,List.getElem?_take,if_pos H,List.getElem?_set_ne ω]
 ·rw[List.append_assoc,List.getElem?_append_right Ξ,List.length_take,Nat.min_eq_left ω]
  by_cases h2:q < j*sz+sz
  ·rw[List.getElem?_append_left Ξ]
   by_cases h3:q=j*sz+i
   ·subst h3
    rw[List.getElem?_set_self ω,show j*sz+i - j*sz=i by omega,List.getElem?_set_self Ξ]
   ·rw[List.getElem?_set_ne ω,List.getElem?_set_ne ω,List.getElem?_take,if_pos ω,List.getElem?_drop,show j*sz+(q - j*sz)=q by omega]
  ·rw[List.getElem?_append_right Ξ,List.getElem?_set_ne ω,List.getElem?_drop]
   congr 1
   simp;omega
def aD.cell (h:aD P sz l xs) {y:α} (hy:l[j]? =some y) {i} (hi:i < sz) {u} (hx:∀cs,cs.length=sz→P y cs→P x (cs.set i u)):aD P sz (l.set j x) (xs.set (j*sz+i) u):=by
 have ad:=(Ze.1 hy).1;have hb:=dH (sz:=sz) ad;rw[←h.1] at hb;have aI:((xs.drop (j*sz)).take sz).length=sz:=by simp;omega
 rw[kE hi hb u];exact h.set ad (hx _ aI (h.2 j y hy)) Ξ
end
def ax {α:Type} (P:α→List Value→Prop) (o:ab) (w:World) (k:Nat) (an:TypeId) (sz:Nat) (v:Value) (l:List α):Prop:=∃xs,aw o w k an sz v l.length xs∧aD P sz l xs
def aU {α:Type} (P:α→List Value→Prop) (ok:Nat→Prop) (w:World) (sz:Nat) (l:List α) (a:Option Addr):Prop:=∀(j:Nat) (x:α),l[j]? =some x→∃(g U:Nat) (cs:List Value),a=some ⟨g,U,none⟩∧ok g∧cs.length=sz ∧
 (∀i,i < sz→w.cell? ⟨g,U+j*sz+i,none⟩=cs[i]?)∧P x cs
section
variable {α:Type} {P P':α→List Value→Prop} {ok ok':Nat→Prop} {o o':ab} {w w':World} {k:Nat} {an:TypeId} {sz:Nat} {v:Value} {l:List α} {a:Option Addr} {K:Nat→Prop}
def ax.kept (h:ax P o w k an sz v l) (I:aM K o w o' w') (hk:K k) (hP:∀x cs,P x cs→P' x cs):ax P' o' w' k an sz v l:=by obtain⟨xs,H,h2⟩:=h;exact⟨xs,H.kept I hk,h2.mono hP⟩
def ax.nil (P:α→List Value→Prop) (o w k an sz):ax P o w k an sz (.slice none 0 0) []:=⟨[],aw.nil _ _ _ _ _,aD.nil _ _⟩
def ax.form (h:ax P o w k an sz v l):∃(a:Option Addr) (cap:Nat),v= .slice a l.length cap∧l.length≤cap∧cap≤maxLen ∧
  ∀(j:Nat) (x:α),l[j]? =some x→∃(g:Nat) (cs:List Value),a=some ⟨g,0,none⟩∧g < w.heap.size∧o g=some k∧cs.length=sz∧(∀i,i < sz→w.cell? (κ g (j*sz+i))=cs[i]?)∧(∀q,w.frozen? (κ g q)=false)∧P x cs:=by
 obtain⟨xs,H,h2⟩:=h;obtain⟨a,cap,rfl,e1,e2,e3⟩:=H.row.form;refine⟨a,cap,rfl,e1,e2,fun j x hx=>?_⟩;obtain⟨cs,q1,q2,q3⟩:=h2.at_ hx;have hb:=dH (sz:=sz) (Ze.1 hx).1;have a8:=h2.1;rcases H.row.2 with ⟨h3,h4⟩ | ⟨g,aA,L,h3,h5,-⟩
 ·have:l=[]:=Z5 h4
  subst this;simp at hx
 ·obtain⟨rfl,-,rfl⟩:a=some ⟨g,0,none⟩∧l.length=l.length∧cap=aA:=by
   injection h3 with e1 e2 e3;exact⟨e1,rfl,e3⟩
  refine⟨g,cs,rfl,aO h5,H.own g rfl,q1,fun i hi=>?_,fun q=>by simp[World.frozen?,h5],q2⟩;obtain⟨u,hu⟩:∃u,xs[j*sz+i]? =some u:=⟨_,Zg ω⟩;obtain⟨g',e5,-,e6,-⟩:=e3 _ u hu;injection e5 with e5;injection e5 with e5 _ _;subst e5;rw[←q3 i hi,hu];exact e6
def aU.et (h:aU P ok w sz l a) (hc:∀g,ok g→∀q,w'.cell? (κ g q)=w.cell? (κ g q)) (az:∀g,ok g→ok' g) (hP:∀x cs,P x cs→P' x cs):aU P' ok' w' sz l a:=by intro j x hx;obtain⟨g,U,cs,H,h2,h3,h4,h5⟩:=h j x hx;exact⟨g,U,cs,H,az g h2,h3,fun i hi=>(hc g h2 _).trans (h4 i hi),hP x cs h5⟩
def aU.kept (h:aU P (Fz o w) w sz l a) (I:aM K o w o' w') (hs:w.heap.size≤w'.heap.size) (hP:∀x cs,P x cs→P' x cs):aU P' (Fz o' w') w' sz l a:=
 h.et (fun _ hg q=>I.cell hg q) (fun _ hg=>(I.fz hs hg).1) hP
def aU.nil (P:α→List Value→Prop) (ok w sz a):aU P ok w sz [] a:=fun j x h=>by simp at h
def aU.BP {g T xs} (hb:A w g T xs) (hg:ok g) (h:aD P sz l xs):aU P ok w sz l (some ⟨g,0,none⟩):=by
 intro j x hx;obtain⟨cs,q1,q2,q3⟩:=h.at_ hx;refine⟨g,0,cs,rfl,hg,q1,fun i hi=>?_,q2⟩;rw[←q3 i hi,Nat.zero_add];have ad:j*sz+i < xs.length:=by have:=dH (sz:=sz) (Ze.1 hx).1;rw[h.1];omega
 rw[List.getElem?_eq_getElem ad];exact hb.c _ (Zg ad)
def ax.frozen (h:ax P o w k an sz v l) (az:∀g,v.ownBlock=some g→ok g):∃(a:Option Addr) (cap:Nat),v= .slice a l.length cap∧l.length≤cap∧cap≤maxLen∧aU P ok w sz l a:=by obtain⟨a,cap,rfl,e1,e2,e3⟩:=h.form;refine⟨a,cap,rfl,e1,e2,fun j x hx=>?_⟩;obtain⟨g,cs,rfl,-,-,q1,q2,-,q3⟩:=e3 j x hx;exact⟨g,0,cs,rfl,az g rfl,q1,fun i hi=>by rw[Nat.zero_add];exact q2 i hi,q3⟩
end
def ak (ok:Nat→Prop) (w:World) (t:VT) (cs:List Value):Prop:=∃v0 v1 v2,cs=[v0,v1,v2]∧aG ok w t (.agg #[v0,v1,v2])
def cE {ok w l a}:ap ok w l a 0↔aU (ak ok w) ok w 3 l a:=by
 rw[iT]
 constructor
 ·intro h j t hj
  obtain⟨g,U,v0,v1,v2,H,h2,h3,h4,h5,h6⟩:=h j t hj;rw[Nat.zero_add] at h3 h4 h5;refine⟨g,U,[v0,v1,v2],H,h2,rfl,fun i hi=>?_,v0,v1,v2,rfl,h6⟩;have:i=0∨i=1∨i=2:=ω;rcases this with rfl | rfl | rfl
  ·exact h3
  ·exact h4
  ·exact h5
 ·intro h j t hj
  obtain⟨g,U,cs,H,h2,h3,h4,v0,v1,v2,rfl,h5⟩:=h j t hj;refine⟨g,U,v0,v1,v2,H,h2,?_,?_,?_,h5⟩
  ·rw[Nat.zero_add];exact h4 0 ω
  ·rw[Nat.zero_add];exact h4 1 ω
  ·rw[Nat.zero_add];exact h4 2 ω
def Ya:=@aD.nil
def Yd:=@ax.nil
def Ym:=@aU.nil
def Y9:=@aD.one
end
section
open Go.RowKit Go.Sort
mutual
def sz:VT→Nat
 | .mk _ _ l=>en l+1
def en:List VT→Nat
 | []=>0
 | t :: r=>sz t+en r
end
mutual
def lu:∀(t:VT) (n:Nat),cnt t n≤256→cnt t n=n+sz t
 | .mk _ _ l,n,h=>by
   rw[cnt] at h ⊢
   rw[mY l (n+1) h,sz]
   omega
def mY:∀(l:List VT) (n:Nat),cP l n≤256→cP l n=n+en l
 | [],n,_=>by rw[cP,en];rfl
 | t :: r,n,h=>by
   rw[cP] at h ⊢
   by_cases hn:256 < n
   ·rw[if_pos hn] at h;omega
   ·rw[if_neg hn] at h ⊢
    have H:=mY r _ h
    rw[H] at h ⊢
    have h2:=lu t n ω
    rw[h2,en]
    omega
end
def m3 {t} (h:small t=true):sz t≤256:=by
 unfold small at h;have H:cnt t 0≤256:=by simpa using h
 have:=lu t 0 H;omega
def l6:∀l:List VT,l.length≤en l
 | []=>Zc _
 | t :: r=>by
   have:=l6 r
   have H:1≤sz t:=by cases t;rw[sz];omega
   rw[en,List.length_cons]
   omega
def nM:∀{l:List VT} {t:VT},t∈l→sz t≤en l
 | [],_,h=>by cases h
 | x :: r,t,h=>by
   rw[en]
   rcases ZG.1 h with rfl | h
   ·omega
   ·have:=nM h;omega
abbrev Nw (B:Nat) (w:World) (g:Nat):Prop:=B≤g∧g < w.heap.size
def jw:(prog.info? 86).map (fun i=>(i.zero,i.size,i.bytes))=some (some (.agg #[ι 0,ι 0,ζ]),3,40):=by kernel_rfl
def er (n:Nat):List Value:=(List.range (n*3)).map fun i=>#[Value.int .i64 0,.int .i64 0,.slice none 0 0][i % 3]!
def tb (n):(er n).length=n*3:=by simp[er]
def wc (n):madeCells (Value.agg #[ι 0,ι 0,ζ]).cells (n*3)=(er n).toArray:=by have hc:(Value.agg #[ι 0,ι 0,ζ]).cells=#[.int .i64 0,.int .i64 0,.slice none 0 0]:=rfl;rw[hc];apply Y5.1;simp[madeCells,er]
def vS (n:Nat) (hn:n≤1000) (w):(Instr.makeSlice 84 (ι (n:Int)) (ι (n:Int))).run prog w= .ok (.slice (Γ (ν w)) n n) (w.alloc (.cells (er n).toArray 86)):=by obtain⟨i,hi,hz,hs,hb⟩:=cq jw;have hr:=run_make (P:=prog) w 84 86 i _ underlying84 hi hz .i64 .i64 n n ω (Int.le_refl _) (by rw[hb];omega) ω;rw[hs,Int.toNat_natCast,wc] at hr;exact hr
def qp {cs:List Value} {k n} (hl:cs.length=n*3) (hk:k < n) (v0 v1 v2):(((cs.set (k*3) v0).set (k*3+1) v1).set (k*3+2) v2).take ((k+1)*3)=cs.take (k*3) ++ [v0,v1,v2]:=by
 apply Ye;intro q;rw[List.getElem?_take]
 by_cases H:q < k*3
 ·rw[if_pos ω,List.getElem?_append_left Ξ,List.getElem?_take,if_pos H,List.getElem?_set_ne ω,List.getElem?_set_ne ω,List.getElem?_set_ne ω]
 ·rw[List.getElem?_append_right Ξ,List.length_take,Nat.min_eq_left ω]
  by_cases h2:q < (k+1)*3
  ·rw[if_pos h2]
   have:q=k*3∨q=k*3+1∨q=k*3+2:=ω;rcases this with rfl | rfl | rfl
   ·rw[List.getElem?_set_ne ω,List.getElem?_set_ne ω,List.getElem?_set_self ω];simp
   ·rw[List.getElem?_set_ne ω,List.getElem?_set_self Ξ];simp
   ·rw[List.getElem?_set_self Ξ];simp
  ·rw[if_neg h2,List.getElem?_eq_none Ξ]
structure d8 (B R b1 b2:Nat) (O n0:Int) (l:List VT) (w wr:World) (k:Nat):Prop where
 res:A wr b1 86 [.int .i64 0,.int .i64 0,.slice none 0 0]
 out:A wr b2 86 [.int .i64 O,.int .i64 n0,.slice (some ⟨R,0,none⟩) l.length l.length]
 row:∃cs,A wr R 86 cs∧cs.length=l.length*3∧aD (ak (Nw (R+1) wr) wr) 3 (l.take k) (cs.take (k*3))
 below:Below B w wr
 lo:B≤wr.heap.size
def ak.et {ok ok':Nat→Prop} {w w':World} (h:∀g,ok g→∀o,w'.cell? (κ g o)=w.cell? (κ g o)) (hk:∀g,ok g→ok' g) {t:VT} {cs:List Value} (hv:ak ok w t cs):ak ok' w' t cs:=by obtain⟨v0,v1,v2,rfl,H⟩:=hv;exact⟨v0,v1,v2,rfl,(H.et h).more hk⟩
def d8.later {B R b1 b2 k O n0 l w wr w'} (h:d8 B R b1 b2 O n0 l w wr k) (hb:Below (ν wr) wr w'):d8 B R b1 b2 O n0 l w w' k:=by obtain⟨cs,H,h2,h3⟩:=h.row;exact⟨h.res.BE hb,h.out.BE hb,⟨cs,H.BE hb,h2,h3.mono fun t c hv=>hv.et (fun g hg o=>hb.cell (p:=κ g o) hg.2) fun g hg=>⟨hg.1,Za hg.2 hb.size⟩⟩,h.below.trans (hb.mono h.lo),Zp h.lo hb.size⟩
def d8.put {B R b1 b2 k O n0 l w wr} (h:d8 B R b1 b2 O n0 l w wr k) (z:B≤R) (H:b1 < R) (h2:b2 < R) {t} (ht:l[k]? =some t) {v0 v1 v2} (hv:aG (Nw (R+1) wr) wr t (.agg #[v0,v1,v2])) :
  d8 B R b1 b2 O n0 l w (σ (σ (σ wr R (k*3) v0) R (k*3+1) v1) R (k*3+2) v2) (k+1):=by
 obtain⟨cs,q1,q2,q3⟩:=h.row;obtain⟨hk,hk2⟩:=Ze.1 ht;have aJ:∀g,Nw (R+1) wr g→∀o,(σ (σ (σ wr R (k*3) v0) R (k*3+1) v1) R (k*3+2) v2:World).cell? (κ g o)=wr.cell? (κ g o):=fun g hg o=>
  Zd (by
   have ay:g≠R:=by have:=hg.1;omega
   rw[Below.heap_setCell _ _ _ _ ay,Below.heap_setCell _ _ _ _ ay,Below.heap_setCell _ _ _ _ ay])
 refine⟨((h.res.BJ Ω _).BJ Ω _).BJ Ω _,((h.out.BJ Ω _).BJ Ω _).BJ Ω _,
  ⟨_,((q1.set _ v0).set _ v1).set _ v2,by simp[q2],?_⟩,((h.below.setCell z _).setCell z _).setCell z _,by simpa [World.setCell] using h.lo⟩
 rw[qp q2 hk,List.take_succ_eq_append_getElem hk,hk2];have az:∀g,Nw (R+1) wr g→Nw (R+1) (σ (σ (σ wr R (k*3) v0) R (k*3+1) v1) R (k*3+2) v2) g:=fun g hg=>⟨hg.1,by simpa [World.setCell] using hg.2⟩;exact (q3.mono fun t c hv=>hv.et aJ az).push (x:=t) ⟨v0,v1,v2,rfl,(hv.et aJ).more az⟩ rfl
def d8.done {B R b1 b2 O n0 l w wr} (h:d8 B R b1 b2 O n0 l w wr l.length) (hk:ag O) (hn:ag n0) (H:b1 < R) (I:B≤b1) (hm:l.length≤maxLen) :
  (σ3 wr b1 (ι O) (ι n0) (.slice (Γ R) l.length l.length):World).cell? (κ b1 0)=ι O ∧
  (σ3 wr b1 (ι O) (ι n0) (.slice (Γ R) l.length l.length):World).cell? (κ b1 1)=ι n0 ∧
  (σ3 wr b1 (ι O) (ι n0) (.slice (Γ R) l.length l.length):World).cell? (κ b1 2)=some (.slice (Γ R) l.length l.length) ∧
  Below B w (σ3 wr b1 (ι O) (ι n0) (.slice (Γ R) l.length l.length):World) ∧
  aG (Nw B (σ3 wr b1 (ι O) (ι n0) (.slice (Γ R) l.length l.length))) (σ3 wr b1 (ι O) (ι n0) (.slice (Γ R) l.length l.length)) (.mk O n0 l) (.agg #[ι O,ι n0,.slice (Γ R) l.length l.length]):=by
 have hr:=((h.res.set 0 (ι O)).set 1 (ι n0)).set 2 (.slice (Γ R) l.length l.length);refine⟨hr.c 0 rfl,hr.c 1 rfl,hr.c 2 rfl,((h.below.setCell I _).setCell I _).setCell I _,?_⟩;rw[aG];refine⟨_,_,rfl,hk,hn,Zc _,hm,?_⟩;obtain⟨cs,q1,q2,q3⟩:=h.row;have aJ:∀g,g≠b1→∀o,(σ3 wr b1 (ι O) (ι n0) (.slice (Γ R) l.length l.length):World).cell? (κ g o)=wr.cell? (κ g o):=fun g ay o=>
  Zd (by rw[Below.heap_setCell _ _ _ _ ay,Below.heap_setCell _ _ _ _ ay,Below.heap_setCell _ _ _ _ ay])
 have V:=q1.lt;have z:aD (ak (Nw (R+1) wr) wr) 3 l cs:=by have:=q3;rwa [List.take_length,List.take_of_length_le ω] at this
 rw[cE];refine (aU.BP (ok:=fun g=>R≤g∧g < wr.heap.size) q1 ⟨Zc _,V⟩ z).et (fun g hg o=>aJ g ω o) (fun g hg=>⟨ω,by simpa [World.setCell] using hg.2⟩) fun t c hv=>hv.et (fun g hg o=>aJ g (by have:=hg.1;omega) o) fun g hg=>⟨by have:=hg.1;omega,by simpa [World.setCell] using hg.2⟩
def q8 (m) (z:∀(t:VT) (v:Value) (w:World),SizeOf.sizeOf t≤m→sz t≤256→aG (· < w.heap.size) w t v →
   Calls prog 67 #[v] w fun e w'=>∃v',e= .returned v'∧Below (ν w) w w'∧aG (Nw (ν w) w') w' t v') (t v w) (hm:SizeOf.sizeOf t≤m+1) (hs:sz t≤256) (hv:aG (ο w) w t v) :
  Calls prog 67 #[v] w fun e w'=>∃v',e= .returned v'∧Below (ν w) w w'∧aG (Nw (ν w) w') w' t v':=by
 obtain⟨O,n0,l⟩:=t;rw[aG] at hv;obtain⟨a,cap,rfl,ah,aj,bw,Y,aE⟩:=hv;have ak:=l6 l;rw[sz] at hs
 by_cases h0:l.length=0
 ·obtain rfl:l=[]:=Z5 h0
  have hd:decide (0 < ([]:List VT).length)=false:=rfl;go_enter func67,ntmps67;go_wp2_with fail;refine Zl (v:= .agg #[ι O,ι n0,ζ]) (by simp[results,results67,go_sem]) rfl ⟨_,rfl,?_,?_⟩
  ·exact ((am w _).alloc ξ _).alloc Ξ _
  ·rw[aG]
   exact⟨none,0,rfl,ah,aj,Zc _,Z2 _,by rw[ap];trivial⟩
 ·have hd:decide (0 < l.length)=true:=Zy ω
  have aC:=vS l.length ω;go_enter func67,ntmps67;go_wp2_with fail;have ag:d8 (ν w) (w.heap.size+1+1+1) (η w) (w.heap.size+1+1) O n0 l w ((((w.alloc (.cells #[ι O,ι n0,.slice a l.length cap] 86)).alloc θ1).alloc (.cells #[ι O,ι n0,.slice (Γ (w.heap.size+1+1+1)) l.length l.length] 86)).alloc (.cells (er l.length).toArray 86)) 0:=by
   have e1:=Zh (w.alloc (.cells #[ι O,ι n0,.slice a l.length cap] 86)) 86 [ι 0,ι 0,ζ];have e2:=Zh ((w.alloc (.cells #[ι O,ι n0,.slice a l.length cap] 86)).alloc θ1) 86 [ι O,ι n0,.slice (Γ (w.heap.size+1+1+1)) l.length l.length];have e3:=Zh (((w.alloc (.cells #[ι O,ι n0,.slice a l.length cap] 86)).alloc θ1).alloc (.cells #[ι O,ι n0,.slice (Γ (w.heap.size+1+1+1)) l.length l.length] 86)) 86 (er l.length);have z1:(w.alloc (.cells #[ι O,ι n0,.slice a l.length cap] 86)).heap.size=w.heap.size+1:=by simp
   have z2:((w.alloc (.cells #[ι O,ι n0,.slice a l.length cap] 86)).alloc θ1).heap.size=w.heap.size+1+1:=by simp
   have z3:(((w.alloc (.cells #[ι O,ι n0,.slice a l.length cap] 86)).alloc θ1).alloc (.cells #[ι O,ι n0,.slice (Γ (w.heap.size+1+1+1)) l.length l.length] 86)).heap.size=w.heap.size+1+1+1:=by simp
   rw[z1] at e1;rw[z2] at e2;rw[z3] at e3;exact⟨(e1.alloc _).alloc _,e2.alloc _,⟨_,e3,tb _,Ya _ _⟩,(((am w _).alloc ξ _).alloc Ξ _).alloc Ξ _,by simp;omega⟩
  have aH:w.heap.size+1+1+1 < ((((w.alloc (.cells #[ι O,ι n0,.slice a l.length cap] 86)).alloc θ1).alloc (.cells #[ι O,ι n0,.slice (Γ (w.heap.size+1+1+1)) l.length l.length] 86)).alloc (.cells (er l.length).toArray 86)).heap.size:=by simp
  generalize ((((w.alloc (.cells #[ι O,ι n0,.slice a l.length cap] 86)).alloc θ1).alloc (.cells #[ι O,ι n0,.slice (Γ (w.heap.size+1+1+1)) l.length l.length] 86)).alloc (.cells (er l.length).toArray 86))=M at *;obtain⟨B,hB⟩:∃B,w.heap.size=B:=⟨_,rfl⟩;rw[hB] at ag aH ⊢;have HB:=χ hB;clear hB;go_loopw [4,5,23] (fun _ _ ix wr=>∃k:Nat,ix= .int .i64 (k:Nat)∧k≤l.length∧d8 B (B+1+1+1) (B+1) (B+1+1) O n0 l w wr k) (fun _ _ ix _=>l.length - (intOf ix).toNat)
  case atStart=>exact⟨0,rfl,Z2 _,ag⟩
  case round=>
   obtain⟨k,rfl,hk,hI⟩:=hrel;clear ag
   by_cases ad:k < l.length
   ·obtain⟨Z,n2,ll,g,U,a',aA,J,rfl,hg,c0,c1,c2,ht⟩:=aE.at_ ad
    have ao:=hI.below;have L:decide (k < l.length)=true:=Zy ad;have H:B=w.heap.size:=HB.out.symm;have d0:=(ao.cell (p:=κ g (U+k*3)) Ω).trans c0;have d1:=(ao.cell (p:=κ g (U+k*3+1)) Ω).trans c1;have d2:=(ao.cell (p:=κ g (U+k*3+2)) Ω).trans c2;have ay:(VT.mk Z n2 ll)∈l:=J ▸ Z8 ad;have bA:=nM ay;have az:=hG ay hm;have ax:=χ J;have aK:=am wr (.cells #[ι Z,ι n2,.slice a' ll.length aA] 86);have hn:=Zh wr 86 [ι Z,ι n2,.slice a' ll.length aA];have ac:=hI.later aK;have af:=ac.below;have I:=af.size;have hX:=z (.mk Z n2 ll) _ (wr.alloc (.cells #[ι Z,ι n2,.slice a' ll.length aA] 86)).drew az ω ((ht.below (w':=(wr.alloc (.cells #[ι Z,ι n2,.slice a' ll.length aA] 86)).drew) (by rw[←H];exact af.drew)).lift I);clear c0 c1 c2 J H ht;go_upto_region 7 with fail;clear d0 d1 d2 aK ao hI;generalize wr.alloc (.cells #[ι Z,ι n2,.slice a' ll.length aA] 86)=G at *;generalize wr.heap.size=nb at *;obtain⟨m0,m1,m2,-⟩:=kc2 hn;have o2:=ac.out.c 2 rfl;obtain⟨cs,hR,aq,aX⟩:=ac.row;have V:=hR.lt;obtain⟨u0,y0⟩:∃u,cs[k*3]? =some u:=⟨_,Zg ω⟩;obtain⟨u1,y1⟩:∃u,cs[k*3+1]? =some u:=⟨_,Zg ω⟩;obtain⟨u2,y2⟩:∃u,cs[k*3+2]? =some u:=⟨_,Zg ω⟩;have aS:=χ ac;have HR:=χ hR;have Y0:=χ y0;have Y1:=χ y1;have Y2:=χ y2;clear aX ac af I y0 y1 y2 hR hn;go_region_law
     ((go_simp;go_at_call 67;refine hX.mono ?_
       rintro e w9 ⟨v9,rfl,aT,ai⟩;have bb:Below (ν G) G w9:=(Zj _ _).drew.trans aT;have aa:=aS.out.later bb;have h:=HR.out.BE bb;obtain⟨a9,bv,rfl,an,ae⟩:=ai.three;have p0:=h.c _ Y0.out;have p1:=h.c _ Y1.out;have p2:=h.c _ Y2.out;have z0:=h.fz (k*3);have z1:=h.fz (k*3+1);have z2:=h.fz (k*3+2);have o9:=aa.out.c 2 rfl;have ab:=aa.put ω ω ω (t:= .mk Z n2 ll) (by rw[←ax.out];exact Zg ad) (ai.more fun g hg=>⟨by have:=hg.1;simp only[World.drew] at this;omega,hg.2⟩);have aw:=χ ab;dsimp only[VT.kd,VT.n,VT.l] at *
       clear ab aa h aT bb ai an ae))
    all_goals
     clear o9 p0 p1 p2 z0 z1 z2 m0 m1 m2 o2 hX;go_wp2_with fail;go_roundw
     case' rel=>exact⟨k+1,by go_num,ω,aw.out⟩
     case' measure=>simp[intOf];omega
   ·have L:decide (k < l.length)=false:=Zn ad
    obtain rfl:k=l.length:=ω;have ao:=hI.below;obtain⟨E,o1,o2,-⟩:=kc2 hI.out;obtain⟨r0,f0,r1,f1,r2,f2,-⟩:=kb2 hI.res;go_wp2_with fail;have e:=HB.out;subst e;have HD:=hI.done ah aj ω ω (by unfold maxLen;omega);refine Zl (v:= .agg #[ι O,ι n0,.slice (Γ (w.heap.size+1+1+1)) l.length l.length]) (by simp[results,results67,go_sem,HD.1,HD.2.1,HD.2.2.1]) rfl ⟨_,rfl,HD.2.2.2⟩
def k0 (t v w) (hs:sz t≤256) (hv:aG (ο w) w t v) :
  Calls prog 67 #[v] w fun e w'=>∃v',e= .returned v'∧Below (ν w) w w'∧aG (Nw (ν w) w') w' t v':=by
 have h:∀(m:Nat) (t:VT) (v:Value) (w:World),SizeOf.sizeOf t≤m→sz t≤256→aG (ο w) w t v →
   Calls prog 67 #[v] w fun e w'=>∃v',e= .returned v'∧Below (ν w) w w'∧aG (Nw (ν w) w') w' t v':=by
  intro m
  induction m with
  | zero=>intro t;cases t;simp
  | succ m z=>exact fun t v w=>q8 m z t v w
 exact h _ t v w (Zc _) hs hv
def ce (t v w) (hs:small t=true) (hv:aG (ο w) w t v) :
  Calls prog 40 #[v] w fun e w'=>∃v',e= .returned v'∧Below (ν w) w w'∧aG (Nw (ν w) w') w' t v':=by
 obtain⟨a,cap,rfl,hl,hm⟩:=hv.three;have aa:=(am w (.cells #[ι t.kd,ι t.n,.slice a t.l.length cap] 86)).alloc ξ (.cells #[ι 0,ι 0,ζ] 86);have O:=(Zh w 86 [ι t.kd,ι t.n,.slice a t.l.length cap]).alloc θ1;have Z:=Zh (w.alloc (υ t a cap)) 86 [ι 0,ι 0,ζ];rw[show (w.alloc (υ t a cap)).heap.size=w.heap.size+1 by simp] at Z;have ab:=hv.later aa;have HS:=χ hs;clear hs;go_enter func40,ntmps40;go_upto_region 1 with fail;have aw:w.heap.size+1 < ((w.alloc (υ t a cap)).alloc θ1).heap.size:=by simp
 generalize (w.alloc (υ t a cap)).alloc θ1=G at *;obtain⟨c0,c1,c2,-⟩:=kc2 O;go_wp2_with fail;refine (jp t _ _ ab).mono ?_;rw[HS.out];rintro e E ⟨rfl,ac⟩;have ao:=aa.trans (ac.mono aa.size);have ai:=ab.later ac;have h:=O.BE ac;have H:=Z.BE ac;obtain⟨d0,d1,d2,-⟩:=kc2 h;clear O Z c0 c1 c2 ab;go_wp2_with fail;refine (k0 t _ _ (m3 HS.out) ai).mono ?_;rintro e M ⟨I,rfl,ah,an⟩;obtain⟨a4,z,rfl,aL,L⟩:=an.three;have J:=H.BE ah;obtain⟨e0,f0,e1,f1,e2,f2,-⟩:=kb2 J;have U:=ac.size;go_wp2_with fail;have hr:=((J.set 0 (ι t.kd)).set 1 (ι t.n)).set 2 (.slice a4 t.l.length z);refine Zl (v:= .agg (υ t a4 z)) (by simp[results,results40,go_sem,hr.c 0 rfl,hr.c 1 rfl,hr.c 2 rfl]) rfl ⟨_,rfl,?_,?_⟩
 ·exact (((ao.trans (ah.mono ao.size)).setCell Ω _).setCell Ω _).setCell Ω _
 ·have aJ:∀g,g≠w.heap.size+1→∀o,(σ3 M (η w) (ι t.kd) (ι t.n) (.slice a4 t.l.length z):World).cell? (κ g o)=M.cell? (κ g o):=fun g ay o=>
   Zd (by rw[Below.heap_setCell _ _ _ _ ay,Below.heap_setCell _ _ _ _ ay,Below.heap_setCell _ _ _ _ ay])
  exact (an.et fun g hg o=>aJ g (by have:=hg.1;omega) o).more fun g hg=>⟨by have:=hg.1;omega,by simpa [World.setCell] using hg.2⟩
end
section
open Go.RowKit
def b5 (m:Nat):List Value:=List.replicate m (.int .u64 0)
def gI (m):Builtin.zeroCells (Value.int .u64 0).cells m=(b5 m).toArray:=by
 apply Y5.1;apply Ye;intro j;have hc:(Value.int .u64 0).cells=#[.int .u64 0]:=rfl
 by_cases h:j < m
 ·simp[Builtin.zeroCells,b5,hc,h,Nat.mod_one]
 ·simp[Builtin.zeroCells,b5,hc,h]
section
variable {P:Program} (w:World)
def xn (t tn E e) (i:TypeInfo) (k kn:IntKind) (ht:P.underlying t=some (.slice e)) (V:P.underlying tn=some (.int kn)) (hi:P.info? e=some i) (hz:i.zero=some (.int .u64 0)) (hs:i.size=1) (hb:i.bytes=8) (g n cap m:Nat) (L) (hg:w.heap[g]? =some (.cells L e (0,0))) (h0:0 < m) (hm:m≤65536) (ah:n+m≤cap) (I:L.size=cap) :
  (Builtin.append_ #[t,tn] E #[.slice (Γ g) n cap,.int k m]).run P w= .ok (.slice (Γ g) (n+m) cap) (w.setRow g (L.toList.take n ++ b5 m ++ L.toList.drop (n+m)).toArray):=by
 have aI:(b5 m).length=m:=by simp[b5]
 have aE:=run_storeCells_at P g n e (b5 m) 0 L w hg (by rw[aI];omega) (by intro u hu;obtain rfl:=List.eq_of_mem_replicate hu;rfl);simp only[Nat.add_zero,aI] at aE;have z:IntKind.i64.wrap (m:Int)=m:=by rw[IntKind.wrap_i64];omega
 have J:¬((m:Int) < 0):=ω;have h:¬(281474976710656 < (m:Int)*8):=ω;have A:¬m=0:=ω;have ha:(⟨g,0,none⟩:Addr).add n=⟨g,n,none⟩:=by unfold Addr.add;split <;> simp_all
 simp[Builtin.append_,run_underlying ht,run_underlying V,sizeOf,typeInfo,zeroValue,hi,hz,hs,hb,asInt,asIntOf,z,J,h,ah,A,gI,ha,aE]
def tO (t tn E e) (i:TypeInfo) (k kn:IntKind) (ht:P.underlying t=some (.slice e)) (V:P.underlying tn=some (.int kn)) (hi:P.info? e=some i) (hz:i.zero=some (.int .u64 0)) (hs:i.size=1) (hb:i.bytes=8) (v) (n m:Nat) (xs) (H:w.ownsRow 0 e 1 v n xs) (h0:0 < m) (hm:m≤65536) (hn:n≤65536) :
  ∃g cap w',(Builtin.append_ #[t,tn] E #[v,.int k m]).run P w= .ok (.slice (Γ g) (n+m) cap) w'∧w'.ownsRow 0 e 1 (.slice (Γ g) (n+m) cap) (n+m) (xs ++ b5 m)∧w.grownBy w' v.ownBlock∧(v.ownBlock=some g∨g=w.heap.size):=by
 have h:(b5 m).length=m:=by simp[b5]
 have a8:xs.length=n:=by simpa using H.1
 have aI:(xs ++ b5 m).length=(n+m)*1:=by rw[List.length_append,h,a8,Nat.mul_one]
 rcases H.2 with ⟨rfl,rfl⟩ | ⟨g,cap,L,rfl,-,hg,aA,aS,I,A⟩
 ·have hx:xs=[]:=Z5 a8
  subst hx;have hr:=Lib.run_append_nil_zeros (P:=P) w t tn E e i (.int .u64 0) k kn ht V hi hz m h0 ω ω (by rw[hb];omega);rw[gI,gI] at hr;rw[Nat.zero_add];have Z:=grownCap_ge w m 0 e;refine⟨_,_,_,hr,⟨by simp[b5],.inr ⟨_,_,_,rfl,Z2 _,ZP w.drew _,Z,ZQ w m 0 e (by unfold maxLen;omega),?_,?_⟩⟩,⟨rfl,rfl,rfl,by simp,fun q hq _=>Yl w.drew _ q hq⟩,.inr rfl⟩
  ·simp[b5];omega
  ·simp[b5]
 ·by_cases ah:n+m≤cap
  ·have hr:=xn (P:=P) w t tn E e i k kn ht V hi hz hs hb g n cap m L hg h0 hm ah (by simpa using I)
   refine⟨_,_,_,hr,⟨aI,.inr ⟨g,cap,_,rfl,Z2 _,setRow_heap w g L _ e _ hg,ah,aS,?_,?_⟩⟩,⟨rfl,rfl,rfl,by simp,fun q _ hq=>setRow_other w g q _ (fun e=>hq (by simp[Value.ownBlock,e]))⟩,.inl rfl⟩
   ·simp only[List.size_toArray,List.length_append,List.length_take,List.length_drop,Array.length_toList,h]
    omega
   ·have aN:L.toList.take n=xs:=by simpa using A
    rw[aN,←aI];exact Yk
  ·have z:(Builtin.firstCells i.size n (.slice (Γ g) n cap)).run P w.drew= .ok xs.toArray w.drew:=by
    rw[hs];exact run_firstCells_some (P:=P) w.drew 1 n ⟨g,0,none⟩ n cap xs ω (fun j u hu=>H.cells (g:=g) rfl j u hu)
   have hr:=Lib.run_append_grow_zeros (P:=P) w t tn E e i (.int .u64 0) k kn ht V hi hz (some ⟨g,0,none⟩) n cap xs z m h0 ω ω ω (by rw[hb];omega) (growslice_fits ω (by rw[hb];omega));rw[gI,gI] at hr;have Z:=grownCap_ge w (n+m) cap e;refine⟨_,_,_,hr,⟨aI,.inr ⟨_,_,_,rfl,Z2 _,ZP w.drew _,Z,ZQ w (n+m) cap e (by unfold maxLen;omega),?_,?_⟩⟩,⟨rfl,rfl,rfl,by simp,fun q hq _=>Yl w.drew _ q hq⟩,.inr rfl⟩
   ·simp[b5,a8];omega
   ·simp only[Array.toList_append,List.append_assoc]
    rw[←List.append_assoc,←aI];exact Yk
end
end
section
open Go.RowKit
section
variable {P:Program} (w:World)
def qC (t E e O sz by_) (ht:P.underlying t=some (.slice e)) (G:(P.info? e).map (fun i=>(i.zero,i.size,i.bytes))=some (some O,sz,by_)) (V:O.cells.size=sz) (h0:0 < sz) (bb:by_≤1000) (v n xs) (aE:aQ w e sz v n xs) (gx ys) (aW:w.heap[gx]? =some (.cells ys.toArray e (0,0))) (aj:ys.length=sz) (ai:∀u∈ys,u.oneCell'=true) (hl:n≤10000000000) :
    ∃g cap w',(Builtin.append_ #[t,t] E #[v,.slice (Γ gx) 1 1]).run P w= .ok (.slice (Γ g) (n+1) cap) w'∧aQ w' e sz (.slice (Γ g) (n+1) cap) (n+1) (xs ++ ys)∧w.grownBy w' v.ownBlock∧(v.ownBlock=some g∨g=w.heap.size)∧g < w'.heap.size∧(g=w.heap.size→w.grownBy w' none):=by
  obtain⟨i,hi,hz,hs,hb⟩:=cq G;subst hs;subst hb;refine zm ?_;intro aa bd aI z h;rcases aE.2 with ⟨rfl,rfl⟩ | ⟨g,cap,L,rfl,hg,aA,aS,I,A⟩
  ·have hx:xs=[]:=Z5 (by simpa using aE.1)
   subst hx;have hr:=run_append_nil (P:=P) w t E e i O ht hi hz ⟨gx,0,none⟩ 1 1 ys bd aa ω ω ω;have Y:=h 0 ω (Value.ownBlock (.slice none 0 0));have af:=h 0 ω none;simp only[Nat.zero_add,List.nil_append,Array.empty_append] at Y af ⊢;exact⟨_,_,_,hr,Y.1,Y.2,.inr rfl,by simp,fun _=>af.2⟩
  ·by_cases ah:n+1≤cap
   ·have J:(n+1)*i.size≤cap*i.size:=ZF _ ah
    refine zn ?_;intro ad ac hr;refine⟨_,_,_,hr,⟨aI,.inr ⟨g,cap,_,rfl,setRow_heap w g L _ e _ hg,ah,aS,?_,?_⟩⟩,⟨rfl,rfl,rfl,by simp,fun k _ hk=>setRow_other w g k _ (fun e=>hk (by simp[Value.ownBlock,e]))⟩,.inl rfl,?_,fun e=>absurd (aO hg) ω⟩
    ·simp only[List.size_toArray,List.length_append,List.length_take,List.length_drop,Array.length_toList]
     omega
    ·rw[A,←aI]
     exact Yk
    ·have:=aO hg
     simpa using this
   ·have U:∀j u,xs[j]? =some u→w.cell? ((⟨g,0,none⟩:Addr).add j)=some u:=fun j u hu=>by
     obtain⟨a,c,H,-,-,h2⟩:=aE.form;obtain⟨g',h3,-,h4,-⟩:=h2 j u hu;injection H with e1 _ _;rw[h3] at e1;injection e1 with e1;injection e1 with e1 _ _;subst e1;have ha:(⟨g,0,none⟩:Addr).add j=⟨g,j,none⟩:=by unfold Addr.add;split <;> simp_all
     rw[ha];exact h4
    have hr:=run_append_grow (P:=P) w t E e i O ht hi hz ⟨g,0,none⟩ n cap xs aE.1 U ⟨gx,0,none⟩ 1 1 ys bd aa ω ω (growslice_fits ω z);have Y:=h cap ω (Value.ownBlock (.slice (Γ g) n cap));have af:=h cap ω none;exact⟨_,_,_,hr,Y.1,Y.2,.inr rfl,by simp,fun _=>af.2⟩
def rs {w' e sz n g cap v xs ys} (aE:aQ w e sz v n xs) (H:aQ w' e sz (.slice (Γ g) (n+1) cap) (n+1) (xs ++ ys)) (h3:v.ownBlock=some g∨g=w.heap.size) (h5:g=w.heap.size→w.grownBy w' none) :
  ∀g',v.ownBlock=some g'→∀j u,xs[j]? =some u→w'.cell? (κ g' j)=some u:=by
 intro g' aa j u hu;obtain⟨a,c,e0,-,-,e1⟩:=aE.form;obtain⟨q,e2,hq,e3,-⟩:=e1 j u hu;subst e2;subst e0;obtain rfl:q=g':=by simpa [Value.ownBlock] using aa
 rcases h3 with h3 | h3
 ·obtain rfl:q=g:=by simpa [Value.ownBlock] using h3
  obtain⟨a',c',f0,-,-,f1⟩:=H.form;have ad:=(Ze.1 hu).1;obtain⟨E,f2,-,f3,-⟩:=f1 j u (by rw[List.getElem?_append_left ad];exact hu);injection f0 with f0;rw[←f0] at f2;injection f2 with f2;injection f2 with f2;rw[f2];exact f3
 ·exact (Zd (w:=w) ((h5 h3).block q hq (fun h=>by cases h))).trans e3
def ij {E o a K Q an} (hgd:o.guard=none) (s x:Operand) (t e O sz by_) (ht:P.underlying t=some (.slice e)) (G:(P.info? e).map (fun i=>(i.zero,i.size,i.bytes))=some (some O,sz,by_)) (V:O.cells.size=sz) (h0:0 < sz) (bb:by_≤1000) (M:o.op= .call {callee:= .builtin .append,args:=#[s,x],argTypes:=#[t,t]}) (v n xs) (hs:a.eval s=v) (aE:aQ w e sz v n xs) (gx ys) (hx:a.eval x= .slice (Γ gx) 1 1) (aW:w.heap[gx]? =some (.cells ys.toArray e (0,0))) (aj:ys.length=sz) (ai:∀u∈ys,u.oneCell'=true) (hl:n≤10000000000) (h:∀g cap w',aQ w' e sz (.slice (Γ g) (n+1) cap) (n+1) (xs ++ ys)→w.grownBy w' v.ownBlock→(v.ownBlock=some g∨g=w.heap.size)→g < w'.heap.size→(∀g',v.ownBlock=some g'→∀j u,xs[j]? =some u→w'.cell? (κ g' j)=some u)→K (a.put o.dst (.slice (Γ g) (n+1) cap)) w') :
    if Region.wanted o (yielded E a.tmps)=true then Oper.wp P o a w K Q else an:=by
  have z:Region.wanted o (yielded E a.tmps)=true:=by simp[Region.wanted,hgd]
  rw[if_pos z];obtain⟨g,cap,w',hr,H,h2,h3,h4,h5⟩:=qC (P:=P) w t o.type e O sz by_ ht G V h0 bb v n xs aE gx ys aW aj ai hl;exact Lib.wp_append_run w s x t t M _ _ hs hx _ _ hr (h g cap w' H h2 h3 h4 (rs _ aE H h3 h5))
end
end
section
open Go.RowKit
section
variable {P:Program} (w:World)
def pE (t E e O sz by_) (ht:P.underlying t=some (.slice e)) (G:(P.info? e).map (fun i=>(i.zero,i.size,i.bytes))=some (some O,sz,by_)) (V:O.cells.size=sz) (h0:0 < sz) (bb:by_≤1000) (v n xs) (aE:aQ w e sz v n xs) (m cx) (hm:0 < m) (bq:m≤1000000000) (xa ys) (aa:∀j u,ys[j]? =some u→w.cell? (xa.add j)=some u) (aj:ys.length=m*sz) (ai:∀u∈ys,u.oneCell'=true) (hl:n≤10000000000) :
    ∃g cap w',(Builtin.append_ #[t,t] E #[v,.slice (some xa) m cx]).run P w= .ok (.slice (Γ g) (n+m) cap) w'∧aQ w' e sz (.slice (Γ g) (n+m) cap) (n+m) (xs ++ ys)∧w.grownBy w' v.ownBlock∧(v.ownBlock=some g∨g=w.heap.size)∧g < w'.heap.size:=by
  obtain⟨i,hi,hz,hs,hb⟩:=cq G;subst hs;subst hb;have aI:(xs ++ ys).length=(n+m)*i.size:=by rw[List.length_append,aE.1,aj,Nat.add_mul]
  have z:(n+m)*i.bytes≤140737488355328:=by
   calc (n+m)*i.bytes≤11000000000*1000:=Nat.mul_le_mul ω bb
    _≤140737488355328:=by decide
  have h:∀(old:Nat),old < n+m→∀(row:Option Nat),
    aQ (w.drew.alloc (.cells (xs.toArray ++ ys.toArray ++ Builtin.zeroCells O.cells (grownCap w (n+m) old e - (n+m))) e)) e i.size (.slice (Γ (ν w)) (n+m) (grownCap w (n+m) old e)) (n+m) (xs ++ ys) ∧
    w.grownBy (w.drew.alloc (.cells (xs.toArray ++ ys.toArray ++ Builtin.zeroCells O.cells (grownCap w (n+m) old e - (n+m))) e)) row:=by
   intro old M row;have Z:=grownCap_ge w (n+m) old e;have aS:grownCap w (n+m) old e≤maxLen:=ZQ w (n+m) old e (by have:n+m≤11000000000:=ω;unfold maxLen;omega);refine⟨⟨aI,.inr ⟨w.heap.size,_,_,rfl,ZP w.drew _,Z,aS,?_,?_⟩⟩,⟨rfl,rfl,rfl,by simp,fun k hk _=>Yl w.drew _ k hk⟩⟩
   ·simp only[Array.size_append,List.size_toArray,size_zeroCells,V,aE.1,aj,←Nat.add_mul]
    exact ZF _ ω
   ·simp only[Array.toList_append,List.append_assoc]
    rw[←List.append_assoc,←aI];exact Yk
  rcases aE.2 with ⟨rfl,rfl⟩ | ⟨g,cap,L,rfl,hg,aA,aS,I,A⟩
  ·have hx:xs=[]:=Z5 (by simpa using aE.1)
   subst hx;have hr:=run_append_nil (P:=P) w t E e i O ht hi hz xa m cx ys aj aa ω ω (by rw[Nat.zero_add] at z;omega);exact zo
  ·by_cases ah:n+m≤cap
   ·have J:(n+m)*i.size≤cap*i.size:=ZF _ ah
    have ad:n*i.size+ys.length=(n+m)*i.size:=by rw[aj,Nat.add_mul]
    have ac:n*i.size+ys.length≤L.size:=by rw[ad];exact Zp J I
    have hr:=run_append_room (P:=P) w t E e i ht hi g n cap L hg xa m cx ys aj aa ai ah ac;exact zp
   ·have U:∀j u,xs[j]? =some u→w.cell? ((⟨g,0,none⟩:Addr).add j)=some u:=fun j u hu=>by
     obtain⟨a,c,H,-,-,h2⟩:=aE.form;obtain⟨g',h3,-,h4,-⟩:=h2 j u hu;injection H with e1 _ _;rw[h3] at e1;injection e1 with e1;injection e1 with e1 _ _;subst e1;have ha:(⟨g,0,none⟩:Addr).add j=⟨g,j,none⟩:=by unfold Addr.add;split <;> simp_all
     rw[ha];exact h4
    have hr:=run_append_grow (P:=P) w t E e i O ht hi hz ⟨g,0,none⟩ n cap xs aE.1 U xa m cx ys aj aa ω ω (growslice_fits ω z);have Y:=h cap ω (Value.ownBlock (.slice (Γ g) n cap));exact⟨_,_,_,hr,Y.1,Y.2,.inr rfl,by simp⟩
def vo (t E e O sz by_) (ht:P.underlying t=some (.slice e)) (G:(P.info? e).map (fun i=>(i.zero,i.size,i.bytes))=some (some O,sz,by_)) (v n xs) (aE:aQ w e sz v n xs) (a c) :
    (Builtin.append_ #[t,t] E #[v,.slice a 0 c]).run P w= .ok v w:=by
  obtain⟨i,hi,hz,hs,hb⟩:=cq G;rcases aE.2 with ⟨rfl,h0⟩ | ⟨g,cap,L,rfl,_,aA,_⟩
  ·cases a <;> simp[Builtin.append_,run_underlying ht,sizeOf,typeInfo,hi,Builtin.lenOf,Builtin.firstCells,loadCells,loadCellsFrom]
  ·cases a <;> simp[Builtin.append_,run_underlying ht,sizeOf,typeInfo,hi,Builtin.lenOf,Builtin.firstCells,loadCells,loadCellsFrom,aA,storeCells]
def Addr.add_plain (g o j):(⟨g,o,none⟩:Addr).add j=⟨g,o+j,none⟩:=by unfold Addr.add;split <;> simp_all
def jP {E rest o a Q} (hgd:o.guard=none) (s x:Operand) (t e O sz by_) (ht:P.underlying t=some (.slice e)) (G:(P.info? e).map (fun i=>(i.zero,i.size,i.bytes))=some (some O,sz,by_)) (V:O.cells.size=sz) (h0:0 < sz) (bb:by_≤1000) (M:o.op= .call {callee:= .builtin .append,args:=#[s,x],argTypes:=#[t,t]}) (v n xs) (hs:a.eval s=v) (aE:aQ w e sz v n xs) (m cx) (bq:m≤1000000000) (xa ys) (hx:a.eval x= .slice xa m cx) (A:0 < m→∃p,xa=some p) (aa:∀p,xa=some p→∀j u,ys[j]? =some u→w.cell? (p.add j)=some u) (aj:ys.length=m*sz) (ai:∀u∈ys,u.oneCell'=true) (hl:n≤10000000000) (h:∀v' w',aQ w' e sz v' (n+m) (xs ++ ys)→w.grownBy w' v.ownBlock→(∀g,v'.ownBlock=some g→v.ownBlock=some g∨g=w.heap.size)→wpList P E Q rest (a.put o.dst v') w'):wpList P E Q (o :: rest) a w:=by
  rcases Nat.eq_zero_or_pos m with z | U
  ·subst z
   have ac:ys=[]:=Z5 (by simpa using aj);subst ac;have hr:=vo (P:=P) w t o.type e O sz by_ ht G v n xs aE xa cx;exact Lib.wpList_append_run w hgd s x t t M _ _ hs hx _ _ hr (h _ _ (by rw[List.append_nil];exact aE) ⟨rfl,rfl,rfl,Zc _,fun _ _ _=>rfl⟩ fun g hg=>.inl hg)
  ·obtain⟨p,rfl⟩:=A U
   obtain⟨g,cap,w',hr,H,h2,h3,h4⟩:=pE (P:=P) w t o.type e O sz by_ ht G V h0 bb v n xs aE m cx U bq p ys (aa p rfl) aj ai hl;refine Lib.wpList_append_run w hgd s x t t M _ _ hs hx _ _ hr (h _ _ H h2 fun q hq=>?_);obtain rfl:g=q:=by simpa [Value.ownBlock] using hq
   exact h3
end
section
variable {o:ab} {w w':World} {k:Nat} {an:TypeId} {sz n m:Nat} {v v':Value} {xs ys:List Value}
def aw.Cl (h:aw o w k an sz v n xs) (z:Wf o w) (E:k < w.heap.size) (hr:aQ w' an sz v' m ys) (hg:w.grownBy w' v.ownBlock) (ha:∀g,v'.ownBlock=some g→v.ownBlock=some g∨g=w.heap.size) :
  ∃o',J (·=k) o w o' w'∧aw o' w' k an sz v' m ys∧∀b,b < w.heap.size→v.ownBlock≠some b→w'.heap[b]? =w.heap[b]? ∧o' b=o b:=by
 have bB:∀b,b < w.heap.size→v.ownBlock≠some b→w'.heap[b]? =w.heap[b]? :=fun b hb ay=>hg.block b hb fun e=>ay e.symm;cases hv:v'.ownBlock with
 | none=>refine⟨o,Z9 z (Yj (S:=fun b=>v.ownBlock=some b) hg fun q hq=>.inl hq) fun b _ hb=>⟨k,h.own b hb,rfl⟩,⟨hr,fun g hg=>?_⟩,fun b hb ay=>⟨bB b hb ay,rfl⟩⟩;rw[hv] at hg;cases hg
 | some g=>
   obtain⟨g',cap,L,rfl,-⟩:∃g' cap L,v'= .slice (Γ g') m cap∧w'.heap[g']? =some (.cells L an (0,0)):=by
    rcases hr.2 with ⟨rfl,-⟩ | ⟨g',cap,L,rfl,h3,-⟩
    ·cases hv
    ·exact⟨g',cap,L,rfl,h3⟩
   obtain rfl:g'=g:=by simpa [Value.ownBlock] using hv
   obtain⟨t1,t2⟩:=h.BM z E hr hg (ha g' hv);refine⟨_,t1,t2,fun b hb ay=>⟨bB b hb ay,Y2 _ _ fun e=>?_⟩⟩;rcases ha g' hv with e1 | e1
   ·rw[e] at ay;exact ay e1
   ·omega
def aD.all {α:Type} {P} {l:List α} {Q:Value→Prop} (h:aD P sz l xs) (hP:∀x cs,P x cs→∀u∈cs,Q u) (h0:0 < sz):∀u∈xs,Q u:=by intro u hu;obtain⟨i,hi⟩:=ZI.1 hu;have ad:i < xs.length:=(Ze.1 hi).1;rw[h.1] at ad;have hj:i / sz < l.length:=Nat.div_lt_of_lt_mul (by rw[Nat.mul_comm];exact ad);obtain⟨cs,hc,hp,I⟩:=h.at_ (Zg hj);have hm:=Nat.mod_lt i h0;have:=I (i % sz) hm;rw[Nat.mul_comm,Nat.div_add_mod] at this;exact hP _ _ hp u (Zi (this.symm.trans hi))
end
end
end Go.Proofs.YtmchabopafimeaaGreatDoor
