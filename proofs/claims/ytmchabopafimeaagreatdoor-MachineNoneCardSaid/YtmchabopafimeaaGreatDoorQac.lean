import Derived.RangeFuncNested
import Derived.RangeFuncBound
import Derived.RangeFuncCalls
import Derived.RangeFuncLeaves
import Derived.OrdersIn
import Derived.Test.YtmchabopafimeaaGreatDoorQab
import Derived.IntWalk
import Derived.Deep.AppendLies
import Derived.OwnWalkIn
import Derived.TacticsInMore
import Derived.LoopNIn
import Derived.LoopIn
import Derived.Laws.EntriesVeiled
import Derived.Shelf.Abstract
namespace Go.Proofs.YtmchabopafimeaaGreatDoor
set_option maxRecDepth 100000
set_option maxHeartbeats 16000000
set_option linter.all false
open Go.RowKit Tryz
section
section
open Go.RowKit
def mk_fn {P:Program} (fn:Go.Fn) (first cap:Array Value) (w:World):(Instr.makeFunc fn first cap).run P w= .ok (.func fn first cap) w:=rfl
def ju {α:Type} (P:Program) (m gf:Nat) (lb:Array Value) (E:α→Array Value) (aa:List α→α→World→Prop) (S Sp:List α→Prop) (an:World→Prop) (w:World):Prop:=
 ∀(l:Nat) (af Jx:List α→World→Prop) (W:World),Below w.heap.size w W→(∀ag W W',af ag W→W.grownBy W' none→af ag W')→(∀ag W W',Jx ag W→W.grownBy W' none→Jx ag W')→(∀ag W,af ag W→an W) →
  (∀ag x O,af ag O→aa ag x O→YieldAt Fence.wide (m - 1) P l (E x) O fun e W'=>(e= .returned (.bool true)∧af (ag ++ [x]) W')∨(e= .returned (.bool false)∧Jx (ag ++ [x]) W')) →
  af [] W→CallsIn Fence.wide m P gf (#[.func (.yield l) #[] #[]] ++ lb) W fun e W'=>(∃v,e= .returned v)∧((∃xs,S xs∧af xs W')∨(∃ag,Sp ag∧Jx ag W'))
def uW {α:Type} (b:Nat) (I:List α→World→Prop) (Ix:Code→List α→World→Prop) (xs:List α) (W:World):Exit→Act→World→Prop
 | .normal,_,W'=>(W'.heap[b+1]? =W.heap[b+1]? ∧W'.heap[b]? =W.heap[b]?)∧I xs W'
 | .ret,_,W'=>(W'.heap[b+1]? =W.heap[b+1]? ∧W'.heap[b]? =W.heap[b]?)∧Ix .ret xs W'
 | .exit id,_,W'=>(W'.heap[b+1]? =W.heap[b+1]? ∧W'.heap[b]? =W.heap[b]?)∧Ix (.exit id) xs W'
 | _,_,_=>False
def e0 {W W':World} {row} (h:W.grownBy W' row) {k o} (hk:W.heap[k]? =some o) (hr:some k≠row):W'.heap[k]? =some o:=
 (h.block k (Array.getElem?_eq_some_iff.1 hk).1 hr).trans hk
section
variable {P:Program} {n:Nat} {α:Type} {g:Operand} {ps:Array Tmp} {assign body:Code} {Q:Exit→Act→World→Prop} {a:Act} {w:World}
def ma {gf:Nat} {lb:Array Value} (hg:a.eval g= .func (.func gf) #[] lb) (eg:∀args w,(callFunc gf args).run P w= .ok (.enter gf args) w)
  {E:α→Array Value} {aa:List α→α→World→Prop} {S Sp:List α→Prop} {an:World→Prop} (V:ju P (n - 1) gf lb E aa S Sp an w) (ae:∀x,(E x).size=ps.size)
  (I:List α→World→Prop) (Ix:Code→List α→World→Prop) (hI:∀ag W W',I ag W→W.grownBy W' (some (w.heap.size+1))→I ag W') (L:∀c ag W W',Ix c ag W→W.grownBy W' (some (w.heap.size+1))→Ix c ag W')
  (ai:∀ag W,I ag W→an W) (h0:∀W,w.grownBy W none→I [] W)
  (U:∀ag x W,I ag W→aa ag x W→w.heap.size+1 < W.heap.size→assign.wpIn (Fence.wide.inRound (w.heap.size+1)) (n - 1 - 1) P (Exit.then (fun a₁ w₁=>W.grownBy w₁ none∧∀w₂,w₁.grownBy w₂ (some (w.heap.size+1))→w.heap.size+1 < w₂.heap.size→(∃r,w₂.heap[w.heap.size+1]? =some (.loop r)) →
   body.wpIn (Fence.wide.inRound (w.heap.size+1)) (n - 1 - 1) P (uW w.heap.size I Ix (ag ++ [x]) w₂) a₁ w₂) (fun _ _ _=>False)) {tmps:=(ps.zip (E x)).foldl (fun t (p,v)=>t.setIfInBounds p v) a.tmps,defers:=[]} W)
  (J:∀(xs:List α) (W:World),S xs→I xs W→W.heap[w.heap.size]? =some (.deferred (some []))→Q .normal {a with defers:={target:= .collected w.heap.size,args:=#[]} :: a.defers} W)
  (am:∀(c:Code) (ag:List α) (W:World),Sp ag→Ix c ag W→W.heap[w.heap.size]? =some (.deferred (some []))→c.wpIn Fence.wide n P Q {a with defers:={target:= .collected w.heap.size,args:=#[]} :: a.defers} W) :
  (Code.rangeFunc g ps assign body).wpIn Fence.wide n P Q a w:=by
 obtain⟨b,hb⟩:∃b,w.heap.size=b:=⟨_,rfl⟩;rw[hb] at hI L U J am;refine wpIn_rangeFunc fun fn aj=>?_
 let rc:LoopState→Option Code→Obj:=fun st pe=>.loop {state:=st,pending:=pe,fn,tmps:=a.tmps,params:=ps,assign,body,defers:=b}
 have a7:∃O,(w.alloc (.deferred (some []))).alloc (rc .ready none)=O∧O.heap[b+1]? =some (rc .ready none)∧O.heap[b]? =some (.deferred (some []))∧w.grownBy O none∧Below w.heap.size w O:=by
  refine⟨_,rfl,?_,?_,?_,?_⟩
  ·have h:=World.alloc_heap_new (w.alloc (.deferred (some []))) (rc .ready none)
   rwa [World.size_alloc,hb] at h
  ·rw[Below.heap_alloc _ _ _ (by simp;omega)]
   have h:=World.alloc_heap_new w (.deferred (some []));rwa [hb] at h
  ·exact⟨rfl,rfl,rfl,by simp;omega,fun k hk _=>by rw[Below.heap_alloc _ _ _ (by simp;omega),Below.heap_alloc _ _ _ hk]⟩
  ·exact⟨rfl,rfl,rfl,by simp;omega,fun k hk=>by rw[Below.heap_alloc _ _ _ (by simp;omega),Below.heap_alloc _ _ _ hk]⟩
 obtain⟨O,e1,ao,aJ,aG,af⟩:=a7;refine⟨b+1,[{target:= .collected b,args:=#[]}],O,{target:= .fn (.func gf) lb,args:=#[.func (.yield (b+1)) #[] #[]]},O,gf,#[.func (.yield (b+1)) #[] #[]] ++ lb,O,?_,?_,fun _ _=>trivial,?_,fun h=>absurd h (by decide),?_⟩
 ·rw[←e1]
  have h:=run_enterLoop_outer (P:=P) (w:=w) fn a.tmps ps assign body;rw[hb] at h;exact h
 ·simp only[resolve,hg]
  simp[go_sem]
 ·simp[invoke,go_sem,eg]
 refine (V (b+1) (fun ag W=>I ag W∧W.heap[b+1]? =some (rc .ready none)∧W.heap[b]? =some (.deferred (some [])))
   (fun ag W=>∃c,Ix c ag W∧W.heap[b+1]? =some (rc .done (some c))∧W.heap[b]? =some (.deferred (some []))) O af ?_ ?_ (fun ag W h=>ai ag W h.1) ?_ ⟨h0 O aG,ao,aJ⟩).mono ?_
 ·rintro ag Y B ⟨hi,hl,hd⟩ z
  exact⟨hI ag Y B hi ⟨z.os,z.tape,z.output,z.size,fun k hk _=>z.block k hk (by simp)⟩,e0 z hl (by simp),e0 z hd (by simp)⟩
 ·rintro ag Y B ⟨c,hi,hl,hd⟩ z
  exact⟨c,L c ag Y B hi ⟨z.os,z.tape,z.output,z.size,fun k hk _=>z.block k hk (by simp)⟩,e0 z hl (by simp),e0 z hd (by simp)⟩
 ·rintro ag x W ⟨hi,hl,hd⟩ hG
  refine⟨fn,_,assign,body,run_yield (P:=P) (args:=E x) hl (ae x),roundIn_of_wpIn aj (wpIn_mono (U ag x W hi hG (Array.getElem?_eq_some_iff.1 hl).1) ?_)⟩;intro e a1 w1 he;cases e with
  | normal=>
    obtain⟨hg,ab⟩:=he;have ac:=e0 hg hl (by simp);have ah:=e0 hg hd (by simp);have ad:b+1 < w1.heap.size:=(Array.getElem?_eq_some_iff.1 ac).1;refine⟨_,run_beginRound ac rfl,?_⟩;have aA:(w1.putObj (b+1) (rc .busy none)).heap[b+1]? =some (rc .busy none):=World.putObj_heap_same ad;have ak:(w1.putObj (b+1) (rc .busy none)).heap[b]? =some (.deferred (some [])):=(World.putObj_heap_other (by omega)).trans ah;refine wpIn_mono (ab (w1.putObj (b+1) (rc .busy none)) (grownBy_putObj' _ _ _) (by simpa using ad) ⟨_,aA⟩) ?_;have G:∀(j:Option Code) (M:World),M.heap[b+1]? =(w1.putObj (b+1) (rc .busy none)).heap[b+1]? →M.heap[b]? =(w1.putObj (b+1) (rc .busy none)).heap[b]? →
      (Instr.endRound (b+1) j).run P M= .ok (.bool j.isNone) (M.putObj (b+1) (rc (if j.isNone then .ready else .done) j))∧(M.putObj (b+1) (rc (if j.isNone then .ready else .done) j)).heap[b+1]? =some (rc (if j.isNone then .ready else .done) j) ∧
      (M.putObj (b+1) (rc (if j.isNone then .ready else .done) j)).heap[b]? =some (.deferred (some [])):=by
     intro j M H h2;have h3:=H.trans aA;exact⟨run_endRound (P:=P) j h3,World.putObj_heap_same (Array.getElem?_eq_some_iff.1 h3).1,(World.putObj_heap_other (by omega)).trans (h2.trans ak)⟩
    intro e a3 M hp;cases e with
    | normal=>obtain⟨⟨Z,k2⟩,A⟩:=hp;obtain⟨r1,r2,r3⟩:=G none M Z k2;exact⟨_,_,r1,.inl ⟨rfl,hI _ _ _ A (grownBy_putObj' _ _ _),r2,r3⟩⟩
    | ret=>obtain⟨⟨Z,k2⟩,A⟩:=hp;obtain⟨r1,r2,r3⟩:=G (some .ret) M Z k2;exact⟨_,_,r1,.inr ⟨rfl,.ret,L _ _ _ _ A (grownBy_putObj' _ _ _),r2,r3⟩⟩
    | exit id=>obtain⟨⟨Z,k2⟩,A⟩:=hp;obtain⟨r1,r2,r3⟩:=G (some (.exit id)) M Z k2;exact⟨_,_,r1,.inr ⟨rfl,.exit id,L _ _ _ _ A (grownBy_putObj' _ _ _),r2,r3⟩⟩
    | goto t=>exact hp.elim
    | panic ch=>exact hp.elim
    | outgrown=>exact hp.elim
  | ret=>exact he.elim
  | exit id=>exact he.elim
  | goto t=>exact he.elim
  | panic ch=>exact he.elim
  | outgrown=>exact he.elim
 ·rintro e W2 ⟨⟨v,rfl⟩,(⟨xs,hS,hi,hl,hd⟩ | ⟨ag,bp,c,hi,hl,hd⟩)⟩
  ·exact⟨none,_,run_endLoop (P:=P) hl (by simp),J xs _ hS (hI _ _ _ hi (grownBy_putObj' _ _ _)) ((World.putObj_heap_other (by omega)).trans hd)⟩
  ·exact⟨some c,_,run_endLoop (P:=P) hl (by simp),am c ag _ bp (L _ _ _ _ hi (grownBy_putObj' _ _ _)) ((World.putObj_heap_other (by omega)).trans hd)⟩
end
end
section
open Go.RowKit
section
variable {P:Program} {n l:Nat} {Q:Exit→Act→World→Prop}
def tW {o:Oper} {a w K} (hd:∀c,o.op≠ .defer c) (h:o.wp P a w K Q):o.wpIn (Fence.wide.inRound l) n P a w K Q:=by
 refine⟨fun _ _=>trivial,?_⟩;have Z:(Fence.wide.inRound l).depth.isSome=true→1≤n:=fun h=>by simp[Fence.inRound,Fence.wide] at h
 unfold Oper.wp at h;rw[Oper.semAt_eq _ _ _ hd];generalize (execOp a.eval o).run P w=r at *;cases r with
 | ok x w'=>
   cases x with
   | enter f args=>exact⟨Z,CallsIn.inRound l (callsIn_wide.2 h)⟩
   | row row args=>exact⟨Z,fun c cs _=>let ⟨v,w',r,s⟩:=h c cs;⟨v,w',r,stepsIn_wide.2 s⟩⟩
   | value v=>exact h
   | skip=>exact h
   | defer d=>exact h
   | _=>exact h.elim
 | halt x w'=>cases x <;> first | exact h | exact h.elim
def mE {E} (Z:∀o∈E,∀c,o.op≠ .defer c) (G:¬LetsOut Q):∀(fuel:Nat) (A:Array Bool) (a:Act) (w:World),wpAny P .any E Q fuel A a w→wpAnyIn (Fence.wide.inRound l) n P .any E Q fuel A a w
 | 0,_,_,_,h=>h
 | fuel+1,A,a,w,h=>⟨h.1,fun i hi=>by
   have H:=wpOp_mono (fun a' w' hh=>mE Z G fuel _ a' w' hh) (h.2 i hi)
   unfold wpOp at H
   unfold wpOpIn
   cases M:E[i]? with
   | none=>rw[M] at H;exact H
   | some o=>
     rw[M] at H
     dsimp only at H ⊢
     split
     ·rename_i z
      rw[if_pos z] at H
      rcases H with H | ⟨_,H⟩
      ·exact tW (Z o (Array.mem_of_getElem? M)) H
      ·exact absurd H G
     ·rename_i z
      rw[if_neg z] at H
      exact⟨fun _ _=>trivial,H⟩⟩
def w6 {id E a w} (hm:P.follows .mixedOrders=true) (Z:∀o∈E,∀c,o.op≠ .defer c) (G:¬LetsOut Q) (h:wpAny P .any E Q E.size (Array.replicate E.size false) a w.drew):(Code.region id E true).wpIn (Fence.wide.inRound l) n P Q a w:=
 wpIn_region_any hm (mE Z G _ _ _ _ h)
def oj (o:Oper):Bool:=match o.op with
 | .defer _=>false
 | _=>true
def kh {id l' a w} (C) (hm:P.follows .mixedOrders=true) (hB:Region.lexB .any l'.toArray=true) (Z:l'.all oj=true) (G:¬LetsOut Q) (hC:C w.drew) (h:wpQuiet P l'.toArray C (fun a'=>∀w',C w'→Q .normal a' w') l' a):(Code.region id l'.toArray true).wpIn (Fence.wide.inRound l) n P Q a w:=by simp only[Region.lexB,Bool.and_eq_true] at hB;refine w6 hm (fun o M c e=>by have:=List.all_eq_true.1 Z o (by simpa using M);simp[oj,e] at this) G (wpAny_of_quiet (C:=C) (Q:=fun a'=>∀w',C w'→Q .normal a' w') (fun _ w' ab h=>h w' ab) _ _ _ _ hC ?_);have:=wpAnyQ_lex (C:=C) (md:= .any) hB.1 l' 0 (Array.replicate l'.toArray.size false) a (by simp) (by simpa using hB.2) h;simpa using this
end
end
end
section
section
open Go.RowKit Go.Sort
attribute [local go_sem] Oper.semAt_some
def am (w o):Below (ν w) w (w.alloc o):=(Zj _ _).alloc (Zc _) _
def nG (m):Fence.wide.depth.isSome=true→1≤m:=fun h=>by simp[Fence.wide] at h
def sp {W W'} (h:Below W.heap.size W W'):W.grownBy W' none:=⟨h.os,h.tape,h.output,h.size,fun k hk _=>h.block k hk⟩
def hh {B W W' row} (hg:W.grownBy W' row) (hB:B≤W.heap.size) (hr:∀g,row=some g→B≤g):Below B W W':=⟨hg.os,hg.tape,hg.output,hg.size,fun k hk=>hg.block k ω fun e=>by have:=hr k e.symm;omega⟩
def cq {P:Program} {T O sz by_} (h:(P.info? T).map (fun i=>(i.zero,i.size,i.bytes))=some (some O,sz,by_)):∃i,P.info? T=some i∧i.zero=some O∧i.size=sz∧i.bytes=by_:=by obtain⟨i,hi,a'⟩:=Zs.1 h;simp only[Prod.mk.injEq] at a';exact⟨i,hi,a'.1,a'.2.1,a'.2.2⟩
def wE {E rest o a Q} (w) (hgd:o.guard=none) (s x:Operand) (T an O sz by_) (hu:prog.underlying T=some (.slice an)) (G:(prog.info? an).map (fun i=>(i.zero,i.size,i.bytes))=some (some O,sz,by_)) (V:O.cells.size=sz) (h0:0 < sz) (bb:by_≤1000) (M:o.op= .call {callee:= .builtin .append,args:=#[s,x],argTypes:=#[T,T]}) (B I n xs) (hs:a.eval s=I) (aE:w.ownsRow B an sz I n xs) (g ys) (hx:a.eval x= .slice (Γ g) 1 1) (hg:w.heap[g]? =some (.cells ys.toArray an (0,0))) (aj:ys.length=sz) (ai:∀u∈ys,u.oneCell'=true) (hl:n≤10000000000) (hB:B≤w.heap.size) (h:∀g' cap w',w'.ownsRow B an sz (.slice (Γ g') (n+1) cap) (n+1) (xs ++ ys)→w.grownBy w' I.ownBlock→(I.ownBlock=some g'∨g'=w.heap.size)→wpList prog E Q rest (a.put o.dst (.slice (Γ g') (n+1) cap)) w') :
    wpList prog E Q (o :: rest) a w:=by
  obtain⟨i0,ay,aH,ax,aw⟩:=cq G;refine wpList_append_lies w hgd s x T M B an i0 O sz by_ hu ay aH ax aw V h0 I n xs hs aE ⟨g,0,none⟩ 1 1 ys hx (by rw[aj,Nat.one_mul]) (fun j u hj=>?_) ai ω (by unfold maxLen;omega) ?_ hB _ rfl ?_
  ·have:=Zz (t:=an) (cs:=ys) hg j hj
   unfold Addr.add
   by_cases h:j=0
   ·subst h
    simpa using this
   ·simpa [h] using this
  ·calc (n+1)*by_≤10000000001*1000:=Nat.mul_le_mul ω bb
    _≤140737488355328:=by decide
  ·intro g' cap w' H h2 h3 _
   exact h g' cap w' H h2 h3
def oh (w:World) (B an sz):w.ownsRow B an sz (.slice none 0 0) 0 []:=⟨by simp,.inl ⟨rfl,rfl⟩⟩
def iB {w:World} {B an sz n v xs} (h:w.ownsRow B an sz v n xs):∀g,v.ownBlock=some g→B≤g:=fun g hg=>(h.lt g hg).1
def hQ {w:World} {B an sz n v xs} (h:w.ownsRow B an sz v n xs):∃(a:Option Addr) (cap:Nat),v= .slice a n cap∧n≤cap∧cap≤maxLen∧∀(j:Nat) (u:Value),xs[j]? =some u→∃g,a=some ⟨g,0,none⟩∧B≤g∧g < w.heap.size∧w.cell? (κ g j)=some u:=by
 have a8:=h.1;rcases h.2 with ⟨rfl,h0⟩ | ⟨g,cap,L,rfl,e2,e3,e4,e5,e6,e7⟩
 ·subst h0
  have:xs=[]:=Z5 (by simpa using a8);subst this;exact⟨none,0,rfl,Zc _,Z2 _,fun j u hj=>by simp at hj⟩
 ·refine⟨some ⟨g,0,none⟩,cap,rfl,e4,e5,fun j u hj=>?_⟩
  have ad:=(h.lt g rfl).2;have A:j < n*sz:=by have:=(Ze.1 hj).1;rwa [a8] at this
  exact⟨g,rfl,e2,ad,by rw[h.cellAt j A];exact hj⟩
def gg {w w':World} {B an sz n v xs} (h:w.ownsRow B an sz v n xs) (hk:∀g,v.ownBlock=some g→g < w.heap.size→w'.heap[g]? =w.heap[g]?):w'.ownsRow B an sz v n xs:=by
 obtain⟨H,h2⟩:=h;refine⟨H,?_⟩;rcases h2 with h2 | ⟨g,cap,L,e1,e2,e3,e4⟩
 ·exact .inl h2
 ·exact .inr ⟨g,cap,L,e1,e2,(hk g (by rw[e1];rfl) (aO e3)).trans e3,e4⟩
abbrev CV:=Nat×Int
def bQ:Nat→List Nd→List CV
 | _,[]=>[]
 | i,x :: r=>(if d' x.op=true then [(i,x.n)] else []) ++ bQ (i+1) r
def d9:List CV→List Value
 | []=>[]
 | x :: r=>.int .i64 (x.1:Int) :: .int .i64 x.2 :: d9 r
def ms:∀a b,d9 (a ++ b)=d9 a ++ d9 b
 | [],_=>rfl
 | x :: r,b=>by rw[List.cons_append,d9,d9,ms r b];rfl
def lw:∀(l:List CV) (j:Nat) (x:CV),l[j]? =some x→(d9 l)[j*2]? =ι (x.1:Int)∧(d9 l)[j*2+1]? =ι x.2
 | [],j,x,h=>by simp at h
 | y :: r,0,x,h=>by
   obtain rfl:y=x:=by simpa using h
   exact⟨rfl,rfl⟩
 | y :: r,j+1,x,h=>by
   have:=lw r j x (by simpa using h)
   rw[show (j+1)*2=j*2+1+1 by omega]
   exact this
def nW:∀(l:List Nd) (i:Nat),(bQ i l).length≤l.length
 | [],_=>Zc _
 | x :: r,i=>by
   have:=nW r (i+1)
   rw[bQ]
   split <;> simp <;> omega
def tH:(prog.info? 187).map (fun i=>(i.zero,i.size,i.bytes))=some (some (.agg #[ι 0,ι 0]),2,16):=by kernel_rfl
structure fT (w:World) (lb:Nat) (l:List CV) (v:Value):Prop where
 cell:A w lb 362 [v]
 row:w.ownsRow (lb+1) 187 2 v l.length (d9 l)
def fT.BE {w w' lb l v} (h:fT w lb l v) (hb:Below (ν w) w w'):fT w' lb l v:=⟨h.cell.BE hb,gg h.row fun g _ hg=>hb.block g hg⟩
def ua (f) (az:b2 f=true) (Y cap w) (hf:ek (ο w) w f Y cap) :
  Calls prog 161 #[de f Y cap] w fun e w'=>∃lb v,e= .returned (.func (.func 205) #[] #[π lb])∧w.heap.size < lb∧Below (ν w) w w'∧fT w' lb (bQ 0 f.ns) v:=by
 refine yJ ?_;intro ae hb aJ c0 c1;have hL:=vb f Y cap _ aJ;rw[if_pos az] at hL;have aE:f.ns.length≤200:=by unfold b2 at az;simp only[Bool.and_eq_true,decide_eq_true_eq] at az;exact az.1.2.2.2
 unfold de at hL ⊢;obtain⟨cl,aq⟩:∃cl,bQ 0 f.ns=cl:=⟨_,rfl⟩;rw[aq];have aC:=χ aq;clear aq az;go_enter func161,ntmps161;go_upto_region 3 with (go_at_call 202;refine δ hL ?_;intro G aa);have ap:=ae.trans (aa.mono ξ);have aj:=hb.BE aa;have a8:w.heap.size < G.heap.size:=Za ξ aa.size;have aP:=hf.ns.below ap;clear hb aJ c0 c1 hL ae aa;have O:=Zh G 362 [ζ];have ax:Below (ν w) w (G.alloc (.cells #[ζ] 362)):=ap.alloc ω _;have ac:=aj.alloc (.cells #[ζ] 362);have c1:=ac.c 1 rfl;go_wp2_with fail;have Z:aV (ο w) (G.alloc (.cells #[ζ] 362)) f.ns Y:=aP.fr (S:=Θ) (Yp _) fun g hg=>⟨ω,id⟩;have a3:∃lb,G.heap.size=lb:=⟨_,rfl⟩;obtain⟨lb,a3⟩:=a3;have aK:lb < (G.alloc (.cells #[ζ] 362)).heap.size:=by rw[←a3];simp
 rw[a3] at O a8 ⊢;clear aj aP c1 ap;generalize G.alloc (.cells #[ζ] 362)=E at *;go_loopw [4,5,12] (fun _ _ ix wr=>∃(k:Nat) (dn:List CV) (v:Value),ix= .int .i64 (k:Nat)∧k≤f.ns.length∧dn ++ bQ k (f.ns.drop k)=cl∧dn.length≤k∧fT wr lb dn v∧Below lb E wr) (fun _ _ ix _=>f.ns.length - (intOf ix).toNat)
 case atStart=>exact⟨0,[],_,rfl,Z2 _,aC.out,Zc _,⟨O,oh _ _ _ _⟩,Zj _ _⟩
 case round=>
  obtain⟨k,dn,v,rfl,hk,aq,a4,hC,hbr⟩:=hrel;have a0:=hbr.size
  by_cases ad:k < f.ns.length
  case' neg=>rw[List.drop_of_length_le ω,bQ,List.append_nil] at aq;subst aq;have ay:Below (ν w) w wr:=ax.trans (hbr.mono ω);clear O ac Z;go_wp2_with fail;go_ret;exact⟨lb,v,rfl,a8,ay,hC⟩
  case' pos=>
   have J:=fp ad;have hx:f.ns[k]? =some f.ns[k]:=Zg ad;obtain⟨x,I⟩:∃x,f.ns[k]=x:=⟨_,rfl⟩;rw[I] at hx;rw[List.drop_eq_getElem_cons ad,I,bQ] at aq;clear I;obtain⟨g,o,la,lc,rfl,hg,q0,q1,q2,bw,aS,bL,r1,r2⟩:=Z k x hx;have y0:=(hbr.cell (p:=κ g (o+k*3)) Ω).trans q0;have y1:=(hbr.cell (p:=κ g (o+k*3+1)) Ω).trans q1;have y2:=(hbr.cell (p:=κ g (o+k*3+2)) Ω).trans q2;have hN:=Zh wr 141 [ι x.op,ι x.n,.slice la x.l.length lc];have aL:Below (ν wr) wr (wr.alloc (.cells #[ι x.op,ι x.n,.slice la x.l.length lc] 141)):=(Zj _ _).alloc (Zc _) _;have af:=χ aq;clear aq hx q0 q1 q2 bL;go_upto_region 7 with fail;have H:=hC.BE aL;have ah:=hbr.trans (aL.mono ω);clear y0 y1 y2 hC aL;generalize wr.alloc (.cells #[ι x.op,ι x.n,.slice la x.l.length lc] 141)=M at *;generalize wr.heap.size=nb at *;obtain⟨n0,n1,-⟩:=kc1 hN;obtain⟨nm,hnm⟩:∃nm,d' x.op=nm:=⟨_,rfl⟩;have V:=kA x.op;rw[hnm] at V;have ab:=χ hnm;clear hnm;cases nm with
   | false=>
     have z:Hid (dn ++ bQ (k+1) (f.ns.drop (k+1))=cl):=by
      show _=_
      rw[←af.out,if_neg (by rw[ab.out];simp)];rfl
     go_wp2_with (go_at_call 204;refine γ (V _) ?_);go_roundw
     case' rel=>exact⟨k+1,dn,v,by go_num,ad,z.out,ω,H,ah⟩
     case' measure=>exact e8 J
   | true=>
     have z:Hid ((dn ++ [(k,x.n)]) ++ bQ (k+1) (f.ns.drop (k+1))=cl):=by
      show _=_
      rw[←af.out,if_pos ab.out];simp
     obtain⟨aD,aB,-⟩:=kb0 H.cell;have ai:=am M (.cells #[ι (k:Nat),ι x.n] 187);have h:=H.BE ai;have bv:(M.alloc (.cells #[ι (k:Nat),ι x.n] 187)).heap.size=M.heap.size+1:=by simp
     have ag:=ZP M (.cells #[ι (k:Nat),ι x.n] 187);have ak:=h.cell.lt;go_wp2_with first
      | (go_at_call 204;refine γ (V _) ?_)
      | (at_builtin;refine wE _ rfl (.tmp 20) (.tmp 25) 362 187 _ 2 16 underlying362 tH rfl φ φ rfl (lb+1) v dn.length (d9 dn) rfl h.row (ν M) [ι (k:Nat),ι x.n] rfl ag rfl (by intro u hu;simp at hu;rcases hu with rfl | rfl <;> rfl) ω ω ?_;intro g' aA w6 ao L ha6;have U:A w6 lb 362 [v]:=(L.block lb ak (fun e=>by have:=iB h.row lb e.symm;omega)).trans h.cell;have d0:=U.c 0 rfl;have d1:=U.fz 0;have an:=iB ao g' rfl;have aw:=ah.trans ((ai.mono ω).trans (hh L (B:=lb) ω (fun g hg=>by have:=iB h.row g hg.symm.symm;omega)));clear h H ai ag L aD aB ha6 n0 n1 hN ah)
     go_roundw
     case' rel=>refine⟨k+1,dn ++ [(k,x.n)],_,by go_num,ad,z.out,by simp;omega,⟨U.set 0 _,?_⟩,aw.setCell (Zc _) _⟩;rw[ms,List.length_append];exact gg ao fun g hg _=>Z0 _ _ _ _ (by have:=iB ao g hg;dsimp only;omega)
     case' measure=>exact e8 J
def iD (x:CV):Array Value:=#[.int .i64 (x.1:Int),.int .i64 x.2]
def GL {α:Type} (l:List α) (ag:List α) (x:α) (_:World):Prop:=∃r,l=ag ++ x :: r
def SL {α:Type} (l:List α) (xs:List α):Prop:=xs=l
def uL {α:Type} (l:List α) (ag:List α):Prop:=∃r,l=ag ++ r
def ql {α:Type} {l ag} {x:α} {k} (hp:ag=l.take k) (hx:l[k]? =some x):l=ag ++ x :: l.drop (k+1):=by obtain⟨H,h2⟩:=Ze.1 hx;rw[hp,←h2,←List.drop_eq_getElem_cons H,List.take_append_drop]
def rv {α:Type} {l ag:List α} {x:α} {k} (hp:ag=l.take k) (hx:l[k]? =some x):ag ++ [x]=l.take (k+1):=by obtain⟨H,h2⟩:=Ze.1 hx;rw[hp,List.take_succ_eq_append_getElem H,h2]
def p7 (m l) (ak:l.length≤1000) (lb v w) (hC:fT w lb l v) :
  ju prog m 205 #[π lb] iD (GL l) (SL l) (uL l) (fun W=>Below (ν w) w W) w:=by
 intro y af Jx W hW hJ M I hY h0;obtain⟨a,cap,rfl,bw,aS,aE⟩:=hQ hC.row;have aB:=(hC.BE hW).cell.c 0 rfl;have aF:Hid (∀(j:Nat) (x:CV),l[j]? =some x→∃g,a=some ⟨g,0,none⟩∧g < w.heap.size∧w.cell? (κ g (j*2))=ι (x.1:Int)∧w.cell? (κ g (j*2+1))=ι x.2):=by intro j x hx;obtain⟨H,h2⟩:=lw l j x hx;obtain⟨g,e1,e2,e3,e4⟩:=aE _ _ H;obtain⟨g2,e5,e6,e7,aA⟩:=aE _ _ h2;rw[e1] at e5;injection e5 with e5;injection e5 with e5 _ _;subst e5;exact⟨g,e1,e3,e4,aA⟩
 have HJ:=χ hJ;have L:=χ I;have Z:=χ hY;clear hJ M I hY aE hC;refine callsIn_of_wp func205 rfl trivial ?_ rfl;simp only[ntmps205,List.size_toArray,List.length_cons,List.length_nil,Nat.reduceAdd,Nat.reduceSub,Array.replicate_succ,Array.replicate_zero,List.push_toArray,List.append_toArray,List.nil_append,List.cons_append];gi_wp2;gi_loopw [4,7] (fun _ i wr=>∃(k:Nat) (ag:List CV),i= .int .i64 (k:Nat)∧k≤l.length∧ag=l.take k∧af ag wr) (fun _ i _=>l.length - (intOf i).toNat)
 case atStart=>exact⟨0,[],rfl,Z2 _,rfl,h0⟩
 case round=>
  clear h0 aB hW;obtain⟨k,ag,rfl,hk,E,hj⟩:=hrel;have h:=χ E;clear E
  by_cases ad:k < l.length
  ·obtain⟨x,hx⟩:∃x,l[k]? =some x:=⟨l[k],Zg ad⟩
   obtain⟨g,rfl,hg,q0,q1⟩:=aF.out k x hx;have ao:=L.out ag wr hj;have e0:wr.cell? (κ g (k*2))=ι (x.1:Int):=(ao.cell (p:=κ g (k*2)) hg).trans q0;have e1:wr.cell? (κ g (k*2+1))=ι x.2:=(ao.cell (p:=κ g (k*2+1)) hg).trans q1;have aJ:decide (k < l.length)=true:=by simpa using ad
   have J:=fp ad;have aa:=am wr (.cells #[ι (x.1:Int),ι x.2] 187);have hN:=Zh wr 187 [ι (x.1:Int),ι x.2];have z:=HJ.out ag _ _ hj (sp aa);obtain⟨n0,n1,-⟩:=kc1 hN;obtain⟨fn,tmps,assign,body,hy,hR⟩:=Z.out ag x _ z ⟨_,ql h.out hx⟩;have HS:=χ (rv h.out hx);dsimp only[iD] at hy;clear q0 q1 hx hj ao aa;gi_wp2;refine⟨nG _,hR.mono ?_⟩;rintro e V (⟨rfl,G⟩ | ⟨rfl,G⟩)
   ·gi_wp2
    go_roundw
    case rel=>exact⟨k+1,ag ++ [x],by go_num,ad,HS.out,G⟩
    case measure=>exact e8 J
   ·gi_wp2
    refine Zl (Yw rfl _ _ _) rfl ?_;exact⟨⟨_,rfl⟩,.inr ⟨_,⟨l.drop (k+1),by rw[HS.out,List.take_append_drop]⟩,G⟩⟩
  ·have aJ:decide (k < l.length)=false:=by simpa using ad
   obtain rfl:k=l.length:=ω;have bi:=χ (h.out.trans (List.take_length ..));gi_wp2;go_end0;exact⟨⟨_,rfl⟩,.inl ⟨ag,bi.out,hj⟩⟩
end
section
open Go.RowKit Go.Sort Go.Shelf
def xh {op n d} (h:ez op n d=true) (hk:d' op=true):0≤n∧n≤63:=by
 unfold ez at h;have H:op≠1:=by rintro rfl;exact absurd hk φ
 have h3:op≠3:=by rintro rfl;exact absurd hk φ
 rw[if_neg H,if_neg h3,if_pos hk] at h;simpa using h
attribute [local go_sem] Oper.semAt_some
abbrev B1 (w:World) (g:Nat) (t:TypeId) (v:Value):Prop:=A w g t [v]
structure b0 (ok:Nat→Prop) (w:World) (p:List Fn) (pa:Option Addr) (cap:Nat):Prop where
 fs:cD ok w p pa
 le:p.length≤cap
 cap:cap≤maxLen
def b0.later {w w' p pa cap} (h:b0 (ο w) w p pa cap) (hb:Below (ν w) w w'):b0 (ο w') w' p pa cap:=⟨(h.fs.below hb).more fun _ hg=>Za hg hb.size,h.le,h.cap⟩
def dD (p:List Fn) (pa:Option Addr) (cap:Nat):Value:= .agg #[.slice pa p.length cap]
def dM (p:List Fn) (f:Fn) (x:CV):Bool:=decide ((p.length:Int)≤x.2) || !(match f.ns[x.1]?,p[x.2.toNat]? with
 | some nd,some g=>gL nd g.ps
 | _,_=>false)
def dZ (p:List Fn) (f:Fn) (l:List CV):Option Nat:=(l.find? (dM p f)).map (·.1)
def iP (r:Option Nat):Value:=match r with
 | some k=>.tuple #[.int .i64 (k:Nat),.bool true]
 | none=>.tuple #[.int .i64 0,.bool false]
def so {p f l} (h:∀x∈l,dM p f x=false):dZ p f l=none:=by unfold dZ;rw[List.find?_eq_none.2 fun x hx=>by rw[h x hx];simp];rfl
def mg {p f l ag r x} (hl:l=ag ++ x :: r) (h:∀y∈ag,dM p f y=false) (hx:dM p f x=true):dZ p f l=some x.1:=by unfold dZ;rw[hl,List.find?_append,List.find?_eq_none.2 (fun y hy=>by rw[h y hy];simp),Option.none_or,List.find?_cons,hx];rfl
def kj:∀(l:List Nd) (i:Nat) (x:CV),x∈bQ i l→∃nd,l[x.1 - i]? =some nd∧i≤x.1∧d' nd.op=true∧nd.n=x.2
 | [],i,x,h=>by simp[bQ] at h
 | y :: r,i,x,h=>by
   rw[bQ,List.mem_append] at h
   rcases h with h | h
   ·split at h
    ·rename_i hn
     obtain rfl:=Yo.1 h
     exact⟨y,by simp,Zc _,hn,rfl⟩
    ·simp at h
   ·obtain⟨nd,H,h2,h3,h4⟩:=kj r (i+1) x h
    refine⟨nd,?_,ω,h3,h4⟩
    rw[show x.1 - i=x.1 - (i+1)+1 by omega,List.getElem?_cons_succ]
    exact H
def oo {f} (az:b2 f=true):∀x∈bQ 0 f.ns,∃nd,f.ns[x.1]? =some nd∧nd.l.length≤16∧0≤x.2∧x.2≤63:=by intro x hx;obtain⟨nd,H,-,h3,h4⟩:=kj _ _ _ hx;rw[Nat.sub_zero] at H;obtain⟨q,hq⟩:=kL az;obtain⟨Z,k2,-⟩:=hq.to_.fit _ nd (Ze.1 H).1 H;have:=xh k2 h3;rw[h4] at this;exact⟨nd,H,m7 Z,this⟩
def A.Ck {w g t cs} (h:A w g t cs) {k o} (hk:g≠k):A (w.putObj k o) g t cs:=(World.putObj_heap_other hk).trans h
def aV.cells {B w W l a} (h:aV (· < B) w l a) (hb:Below B w W) {j x} (hx:l[j]? =some x):∃(g o:Nat) (la:Option Addr) (cap:Nat),a=some ⟨g,o,none⟩∧g < B ∧
  W.cell? (κ g (o+j*3))=ι x.op∧W.cell? (κ g (o+j*3+1))=ι x.n∧W.cell? (κ g (o+j*3+2))=some (.slice la x.l.length cap)∧x.l.length≤cap∧cap≤maxLen∧O (· < B) W x.l la∧ag x.op∧ag x.n:=by obtain⟨g,o,la,cap,H,h2,h3,h4,h5,h6,h7,M,h9⟩:=h j x hx;exact⟨g,o,la,cap,H,h2,(hb.cell (p:=κ g _) h2).trans h3,(hb.cell (p:=κ g _) h2).trans h4,(hb.cell (p:=κ g _) h2).trans h5,h6,h7,M.below hb,h9⟩
def cD.cells {B w W l a} (h:cD (· < B) w l a) (hb:Below B w W) {j f} (hx:l[j]? =some f):∃(g o:Nat) (Y:Option Addr) (cap:Nat),a=some ⟨g,o,none⟩∧g < B ∧
  W.cell? (κ g (o+j*2))=ι f.ps∧W.cell? (κ g (o+j*2+1))=some (.slice Y f.ns.length cap)∧f.ns.length≤cap∧cap≤maxLen∧aV (· < B) W f.ns Y∧ag f.ps:=by obtain⟨g,o,la,cap,H,h2,h3,h4,h6,h7,M,h9⟩:=h j f hx;exact⟨g,o,la,cap,H,h2,(hb.cell (p:=κ g _) h2).trans h3,(hb.cell (p:=κ g _) h2).trans h4,h6,h7,M.below hb,h9⟩
def yK {p q:Prop} (k:q) (h:Zq q→p:=by
 intro mq;have ah:=below_regrown E dq V;have an:=ah.block _ bz;have hgd:=ah.block (ν G) ω;have ai:=ac.trans (ah.mono ac.size);have L:=aK.BE ai;have ap:=a9.BE ai;revert ah an hgd ai L ap
 exact mq.u):p:=h ⟨k⟩
def yL {p q:Prop} (k:q) (h:Zq q→p:=by
 intro mq;refine kh (C:=fun w'=>∃p:Regrown,w'=grow (redrawn E p.d) p.os) ψ ψ ψ (by rintro ⟨_,_,h⟩;exact h) ⟨⟨E.drawn+1,#[]⟩,by rw[grow_empty];rfl⟩ ?_
 exact mq.u):p:=h ⟨k⟩
def zl {p:Prop} (h:p:=by
 generalize grow (redrawn E dq) V=M at *;obtain⟨u2,f2,-⟩:=kb0 L;obtain⟨u3,f3,-⟩:=kb0 ap;gi_wp2;refine⟨⟨?_,?_⟩,rfl,x.1,HB.out,(L.set 0 _).BJ Ω _,(ap.BJ Ω _).set 0 _,?_⟩
 ·rw[Below.heap_setCell _ _ _ _ Ω,Below.heap_setCell _ _ _ _ Ω]
  exact an
 ·rw[Below.heap_setCell _ _ _ _ Ω,Below.heap_setCell _ _ _ _ Ω]
  exact hgd
 ·exact ((af.trans (ai.mono af.size)).setCell (p:=κ (w.heap.size+1+1) 0) Ω _).setCell (p:=κ (w.heap.size+1+1+1) 0) Ω _):p:=h
def sA (p pa pc f) (az:b2 f=true) (Y cap w) (hP:b0 (ο w) w p pa pc) (hf:ek (ο w) w f Y cap) :
  Calls prog 121 #[dD p pa pc,de f Y cap] w (ϑ (iP (dZ p f (bQ 0 f.ns))) w):=by
 have U:=oo az;have ak:=nW f.ns 0;have aE:f.ns.length≤200:=by unfold b2 at az;simp only[Bool.and_eq_true,decide_eq_true_eq] at az;exact az.1.2.2.2
 obtain⟨l,hl⟩:∃l,bQ 0 f.ns=l:=⟨_,rfl⟩;rw[hl] at U ak ⊢;have aL:=χ U;have ae:=((((Zh w 56 [.slice pa p.length pc]).alloc (.cells #[ι f.ps,.slice Y f.ns.length cap] 144)).alloc (.cells #[ι 0] 3)).alloc (.cells #[Δ] 4));have aj:=(((Zh (w.alloc (.cells #[.slice pa p.length pc] 56)) 144 [ι f.ps,.slice Y f.ns.length cap]).alloc (.cells #[ι 0] 3)).alloc (.cells #[Δ] 4));have be:=((Zh ((w.alloc (.cells #[.slice pa p.length pc] 56)).alloc (.cells #[ι f.ps,.slice Y f.ns.length cap] 144)) 3 [ι 0]).alloc (.cells #[Δ] 4));have bl:=(Zh (((w.alloc (.cells #[.slice pa p.length pc] 56)).alloc (.cells #[ι f.ps,.slice Y f.ns.length cap] 144)).alloc (.cells #[ι 0] 3)) 4 [Δ]);have ao:Below (ν w) w ((((w.alloc (.cells #[.slice pa p.length pc] 56)).alloc (.cells #[ι f.ps,.slice Y f.ns.length cap] 144)).alloc (.cells #[ι 0] 3)).alloc (.cells #[Δ] 4)):=(((am _ _).alloc ξ _).alloc Ξ _).alloc Ξ _;simp only[World.size_alloc] at aj be bl;unfold dD de;refine callsIn_wide.1 (callsIn_of_wp_marks (n:=4) func121 rfl trivial ?_ rfl);simp only[ntmps121,List.size_toArray,List.length_cons,List.length_nil,Nat.reduceAdd,Nat.reduceSub,Array.replicate_succ,Array.replicate_zero,List.push_toArray,List.append_toArray,List.nil_append,List.cons_append];refine wpIn_wide.2 ?_;go_upto_region 1 with fail;generalize (((w.alloc (.cells #[.slice pa p.length pc] 56)).alloc (.cells #[ι f.ps,.slice Y f.ns.length cap] 144)).alloc (.cells #[ι 0] 3)).alloc (.cells #[Δ] 4)=w1 at *;have aJ:=hf.later ao;have aS:=bl.lt
 have aG:=ua f az Y cap w1 aJ;rw[hl] at aG;unfold de at aG;obtain⟨c0,c1,-⟩:=kc1 aj;clear hl U;go_wp2_with (go_at_call 161;refine aG.mono ?_;rintro e G ⟨lb,lv,rfl,a3,aa,hC⟩);have bM:=ae.BE aa;have ay:=aj.BE aa;have aK:=be.BE aa;have a9:=bl.BE aa;have af:=ao.trans (aa.mono ω);have a':w.heap.size+1+1+1 < G.heap.size:=a9.lt;clear ae aj be bl c0 c1 aJ aG aa ao
 refine wpIn_wide.1 (ma (n:=4) (gf:=205) (lb:=#[.pointer (some ⟨lb,0,none⟩)]) rfl (enters_of func205 ψ rfl) (p7 _ l ω lb lv G hC) (fun _=>rfl)
   (fun ag W=>Below (ν G) G W∧∀y∈ag,dM p f y=false)
   (fun c ag W=>c= .ret∧∃k,dZ p f l=some k∧B1 W (w.heap.size+1+1) 3 (ι (k:Nat))∧B1 W (w.heap.size+1+1+1) 4 (.bool true)∧Below (ν w) w W) ?_ ?_ (fun _ _ h=>h.1) ?_ ?_ ?_ ?_)
 ·rintro ag W W' ⟨H,h2⟩ hg
  exact⟨H.trans (hh hg H.size fun g hg=>by injection hg;omega),h2⟩
 ·rintro c ag W W' ⟨h0,k,H,h5,h6,h7⟩ hg
  exact⟨h0,k,H,(hg.block _ h5.lt (fun e=>by injection e;omega)).trans h5,(hg.block _ h6.lt (fun e=>by injection e;omega)).trans h6,h7.trans (hh hg h7.size fun g hg=>by injection hg;omega)⟩
 ·intro W hg
  exact⟨hh hg (Zc _) (fun g hg=>by cases hg),fun y hy=>by simp at hy⟩
 ·rintro ag x W ⟨a1,z⟩ ⟨rr,bt⟩ a8
  obtain⟨nd,Z,aN,aw,aV⟩:=aL.out x (by rw[bt];simp);obtain⟨m,hm⟩:=ZL aw;have O:=χ z;have aC:=χ bt;have aB:iD x=#[.int .i64 (x.1:Int),.int .i64 (m:Nat)]:=by unfold iD;rw[hm]
  rw[aB];clear z bt aB;gi_wp2;refine⟨World.grownBy.refl _ _,?_⟩;intro E aA bz aQ;have ac:=a1.trans (hh aA a1.size fun g hg=>by injection hg;omega);have aM:=af.trans (ac.mono af.size);have ad:=hP.fs;obtain⟨ng,no,aF,ax,rfl,aX,n0,n1,n2,-,-,-,-,-⟩:=hf.ns.cells aM Z;have p0:=fun d os=>ZZ ((bM.BE ac).c 0 rfl) d os;have f0:=fun d os=>ZZ ((ay.BE ac).c 1 rfl) d os;have bc:x.1 < f.ns.length:=(Ze.1 Z).1;have aU:decide (x.1 < f.ns.length)=true:=by simpa using bc
  have m0:=fun d os=>ZZ n0 d os;have m1:=fun d os=>ZZ n1 d os;have m2:=fun d os=>ZZ n2 d os;clear n0 n1 n2 a1 aA aQ a8
  by_cases aH:p.length≤m
  ·have q1:decide ((p.length:Int)≤(m:Int))=true:=by simpa using aH
   have HB:Hid (dZ p f l=some x.1):=by
    show _=_
    refine mg aC.out O.out ?_;unfold dM;rw[hm];simp only[q1,Bool.true_or]
   gi_wp2;refine yL ?_
   repeat (go_big_quiet_step (fail))
   refine wpQuiet_nil ?_;intro _ ab;obtain⟨⟨dq,V⟩,aq⟩:=ab;subst aq;refine yK ?_;intro ah an hgd ai L ap;clear p0 f0 m0 m1 m2;exact zl
  ·have q1:decide ((p.length:Int)≤(m:Int))=false:=by simp;omega
   have aY:m < p.length:=ω;obtain⟨gg,go,aW,aR,rfl,aO,g0,g1,-,-,-,-⟩:=ad.cells aM (Zg aY);have y0:=fun d os=>ZZ g0 d os;obtain⟨b,hb⟩:∃b,gL nd p[m].ps=b:=⟨_,rfl⟩;have J:∀d os,Calls prog 162 #[.agg #[ι nd.op,ι nd.n,.slice aF nd.l.length ax],.int .i64 p[m].ps] (grow (redrawn E d) os) fun e bb=>e= .returned (.bool b)∧∃p:Regrown,bb=grow (redrawn E p.d) p.os:=fun d os=>by have:=vO nd ω aF ax p[m].ps (grow (redrawn E d) os);rw[hb] at this;exact Calls.regrown_of this
   have a6:dM p f x=!b:=by unfold dM;rw[Z,hm,Int.toNat_natCast,List.getElem?_eq_getElem aY];simp only[q1,Bool.false_or,hb]
   clear hb g0 g1;cases b with
   | true=>
     have HB:Hid (dM p f x=false):=a6;clear a6;gi_wp2;refine yL ?_
     repeat (go_big_quiet_step (exact J _ _))
     refine wpQuiet_nil ?_;intro _ ab;obtain⟨⟨dq,V⟩,aq⟩:=ab;subst aq;refine yK ?_;intro ah an hgd ai L ap;clear p0 f0 m0 m1 m2 y0 J;generalize grow (redrawn E dq) V=M at *;gi_wp2;refine⟨⟨an,hgd⟩,ai,fun y hy=>?_⟩;rcases Zv.1 hy with hy | hy
     ·exact O.out y hy
     ·obtain rfl:=Yo.1 hy
      exact HB.out
   | false=>
     have HB:Hid (dZ p f l=some x.1):=mg aC.out O.out a6;clear a6;gi_wp2;refine yL ?_
     repeat (go_big_quiet_step (exact J _ _))
     refine wpQuiet_nil ?_;intro _ ab;obtain⟨⟨dq,V⟩,aq⟩:=ab;subst aq;refine yK ?_;intro ah an hgd ai L ap;clear p0 f0 m0 m1 m2 y0 J;exact zl
 ·rintro xs W hS ⟨a1,z⟩ hD
  have HF:=χ (so (p:=p) (f:=f) (l:=l) fun y hy=>z y (by rw[hS];exact hy));have L:=aK.BE a1;have ap:=a9.BE a1;have ac:=af.trans (a1.mono af.size);obtain⟨c0,f0,-⟩:=kb0 L;obtain⟨c1,f1,-⟩:=kb0 ap;clear z hS;go_wp2_with fail;have bh:(σ (σ W (w.heap.size+1+1) 0 (ι 0)) (w.heap.size+1+1+1) 0 (.bool false):World).heap[G.heap.size]? =some (.deferred (some [])):=((Z0 _ _ _ _ Ω).trans (Z0 _ _ _ _ Ω)).trans hD;have aI:=(L.set 0 (ι 0)).BJ (q:=κ (w.heap.size+1+1+1) 0) Ω (.bool false);have aP:=(ap.BJ (q:=κ (w.heap.size+1+1) 0) Ω (ι 0)).set 0 (.bool false);have aT:=(ac.setCell (p:=κ (w.heap.size+1+1) 0) Ω (ι 0)).setCell (p:=κ (w.heap.size+1+1+1) 0) Ω (.bool false);generalize (σ (σ W (w.heap.size+1+1) 0 (ι 0)) (w.heap.size+1+1+1) 0 (.bool false):World)=W9 at *;have aD:=aI.Ck (k:=G.heap.size) (o:= .deferred none) ω;have I:=aP.Ck (k:=G.heap.size) (o:= .deferred none) ω;refine⟨by simp,.inl ⟨_,_,rfl,run_takeDeferred bh,?_⟩⟩;exact⟨.tuple #[(.int .i64 0),(.bool false)],by simp[results,results121,go_sem,aD.c 0 rfl,I.c 0 rfl],by rw[HF.out];rfl,⟨aT.os,aT.tape,aT.output,by simpa using aT.size,fun j hj=>(World.putObj_heap_other ω).trans (aT.block j hj)⟩⟩
 ·rintro c ag W bp ⟨rfl,k,H,h5,h6,h7⟩ hD
  have HF:=χ H;have aD:=h5.Ck (k:=G.heap.size) (o:= .deferred none) ω;have I:=h6.Ck (k:=G.heap.size) (o:= .deferred none) ω;gi_wp2;refine⟨by simp,.inl ⟨_,_,rfl,run_takeDeferred hD,?_⟩⟩;exact⟨.tuple #[(.int .i64 (k:Nat)),(.bool true)],by simp[results,results121,go_sem,aD.c 0 rfl,I.c 0 rfl],by rw[HF.out];rfl,⟨h7.os,h7.tape,h7.output,by simpa using h7.size,fun j hj=>(World.putObj_heap_other ω).trans (h7.block j hj)⟩⟩
end
section
open Go.RowKit Go.Sort
def lI {p}:bS p=true↔(1≤p.length∧p.length≤64)∧(∀f∈p,b2 f=true)∧(∃f r,p=f :: r∧f.ps=0)∧∀f∈p,f.ns.all (e3 p)=true:=by
 unfold bS;simp only[Bool.and_eq_true,decide_eq_true_eq,List.all_eq_true]
 constructor
 ·rintro ⟨⟨⟨H,h2⟩,h3⟩,h4⟩
  refine⟨H,h2,?_,h4⟩
  match p,h3 with
  | [],h3=>cases h3
  | f :: r,h3=>exact⟨f,r,rfl,by simpa using h3⟩
 ·rintro ⟨H,h2,⟨f,r,rfl,h3⟩,h4⟩
  exact⟨⟨⟨H,h2⟩,by simpa using h3⟩,h4⟩
def xb {p f} (az:b2 f=true):dZ p f (bQ 0 f.ns)=none↔f.ns.all (e3 p)=true:=by
 have hc:=oo az;unfold dZ;rw[Option.map_eq_none_iff,List.find?_eq_none,List.all_eq_true];have key:∀x:CV,x∈bQ 0 f.ns→∀nd,f.ns[x.1]? =some nd→d' nd.op=true→nd.n=x.2→((¬dM p f x=true)↔e3 p nd=true):=by
  intro x hx nd H h2 h3;obtain⟨-,-,-,h5,h6⟩:=hc x hx;unfold dM e3;rw[H,if_pos h2,h3];cases hg:p[x.2.toNat]? with
  | none=>have:=List.getElem?_eq_none_iff.1 hg;simp
  | some g=>dsimp only;have hl:=(Ze.1 hg).1;have:¬(p.length:Int)≤x.2:=ω;simp[this];omega
 constructor
 ·intro h y hy
  cases hn:d' y.op with
  | false=>unfold e3;rw[if_neg (by rw[hn];simp)]
  | true=>
    obtain⟨j,hj⟩:=ZI.1 hy;have hm:∀(l:List Nd) (i j:Nat),l[j]? =some y→(i+j,y.n)∈bQ i l:=by
     intro l
     induction l with
     | nil=>intro i j h;simp at h
     | cons O r z=>
       intro i j h;rw[bQ];cases j with
       | zero=>
         obtain rfl:O=y:=by simpa using h
         rw[if_pos hn];simp
       | succ j=>have:=z (i+1) j (by simpa using h);rw[show i+1+j=i+(j+1) by omega] at this;exact Zx _ this
    have M:=hm f.ns 0 j hj;rw[Nat.zero_add] at M;exact (key _ M y hj hn rfl).1 (h _ M)
 ·intro h x hx
  obtain⟨nd,H,-,h3,h4⟩:=kj _ _ _ hx;rw[Nat.sub_zero] at H;exact (key x hx nd H h3 h4).2 (h nd (Zi H))
def eZ (p:List Fn) (w:World) (e:Ending) (w':World):Prop:=Below w.heap.size w w'∧∃a b:Int,e= .returned (.tuple #[.int .i64 a,.int .i64 b,.int .i64 (if bS p=true then 0 else 70)])
def eZ.no {p w w' a b} (h:Hid (bS p=false)) (hb:Below (ν w) w w'):eZ p w (.returned (.tuple #[ι a,ι b,ι 70])) w':=by refine⟨hb,a,b,?_⟩;rw[if_neg (by rw[h.out];simp)]
def s1 (p pa cap w) (hP:b0 (ο w) w p pa cap):Calls prog 88 #[dD p pa cap] w (eZ p w):=by
 have hb:=Zh w 56 [.slice pa p.length cap];have ae:=am w (.cells #[.slice pa p.length cap] 56);have c0:=hb.c 0 rfl;have aJ:∀P:Prop,((bS p=true)→P)→¬P→Hid (bS p=false):=fun P H h2=>Bool.eq_false_iff.2 fun h=>h2 (H h);have V:=χ (@lI p);have a9:=hP.le;unfold dD
 by_cases aI:1≤p.length∧p.length≤64
 case' neg=>
  have HR:Hid (bS p=false):=aJ _ (fun h=>(V.out.1 h).1) aI;clear aJ
  by_cases H:p.length < 1
  case' pos=>have q1:decide (p.length < 1)=true:=Zy H;have aN:decide ((p.length:Int) < 1)=true:=Zy ω
  case' neg=>have q1:decide (p.length < 1)=false:=Zn H;have aN:decide ((p.length:Int) < 1)=false:=Zn ω;have q2:64 < p.length:=ω
  all_goals
   go_enter func88,ntmps88;go_wp2_with fail;go_ret3;exact eZ.no HR ae
 case' pos=>
  obtain⟨H,aA⟩:=aI;have aD:=χ aJ;clear aJ;have q1:decide (p.length < 1)=false:=Zn ω;have q2:decide (64 < p.length)=false:=Zn ω;go_enter func88,ntmps88;go_wp2_with fail;have ax:w.heap.size < (w.alloc (.cells #[.slice pa p.length cap] 56)).heap.size:=by simp
  clear c0;generalize w.alloc (.cells #[.slice pa p.length cap] 56)=w1 at *;go_loopw [5,6,7,8,26] (fun _ _ _ _ ix wr=>∃k:Nat,ix= .int .i64 (k:Nat)∧k≤p.length∧(∀f∈p.take k,b2 f=true)∧Below (ν w1) w1 wr) (fun _ _ _ _ ix _=>p.length - (intOf ix).toNat)
  case atStart=>exact⟨0,rfl,Z2 _,by simp,Zj _ _⟩
  case round=>
   obtain⟨k,rfl,hk,a3,hbr⟩:=hrel;have I:=χ a3;clear a3
   by_cases ad:k < p.length
   case' pos=>
    have L:decide (k < p.length)=true:=by simpa using ad
    have J:=fp ad;obtain⟨f,hf⟩:∃f,p[k]? =some f:=⟨p[k],Zg ad⟩;have ao:=ae.trans (hbr.mono ae.size);obtain⟨g,o,Y,fc,rfl,hg,g0,g1,aY,z,aj,aR⟩:=hP.fs.cells ao hf;have Z:=am wr (.cells #[ι f.ps,.slice Y f.ns.length fc] 144);have ag:=Zh wr 144 [ι f.ps,.slice Y f.ns.length fc];obtain⟨n0,n1,-⟩:=kc1 ag;have O:ek (· < (wr.alloc (.cells #[ι f.ps,.slice Y f.ns.length fc] 144)).heap.size) (wr.alloc (.cells #[ι f.ps,.slice Y f.ns.length fc] 144)) f Y fc:=
     ⟨(aj.below (Z.mono ao.size)).more fun j hj=>Za hj (Zp ao.size Z.size),aY,z,aR⟩
    have hW:=ng f Y fc _ O;rw[lR] at hW;unfold de at hW;have HF:=χ hf;have aH:=hbr.size;cases az:b2 f with
    | true=>
      rw[if_pos az] at hW;have ah:Hid (∀f∈p.take (k+1),b2 f=true):=by
       intro y hy;rw[List.take_succ_eq_append_getElem ad,List.mem_append] at hy;rcases hy with hy | hy
       ·exact I.out y hy
       ·rw[List.mem_singleton.1 hy]
        have:=HF.out;rw[List.getElem?_eq_getElem ad] at this;rw[Option.some.inj this];exact az
      clear hf az O;go_wp2_with (go_at_call 120;refine δ hW ?_;intro E ac);go_roundw
      case' rel=>exact⟨k+1,by go_num,ad,ah.out,hbr.trans ((Z.mono aH).trans (ac.mono Ξ))⟩
      case' measure=>exact e8 J
    | false=>
      rw[if_neg (by rw[az];simp)] at hW;have HR:Hid (bS p=false):=aD.out _ (fun h=>(V.out.1 h).2.1) fun h=>by have:=h f (Zi hf);rw[az] at this;cases this
      clear hf az O;go_wp2_with (go_at_call 120;refine δ hW ?_;intro E ac);go_ret3;exact eZ.no HR (ao.trans ((Z.mono ao.size).trans (ac.mono Ξ)))
   case' neg=>
    have L:decide (k < p.length)=false:=by simpa using ad
    have HA:Hid (∀f∈p,b2 f=true):=by have:=I.out;rwa [List.take_of_length_le ω] at this
    have aa:=hb.BE hbr;have ao:=ae.trans (hbr.mono ae.size);have aw:=hbr.size;obtain⟨f0,G⟩:∃f,p[0]? =some f:=⟨p[0],Zg ω⟩;have aQ:0≤f0.ps:=by obtain⟨q,hq⟩:=kL (HA.out f0 (Zi G));exact hq.ps0
    obtain⟨g,o,Y,fc,aq,hg,g0,g1,-,-,-,-⟩:=hP.fs.cells ao G;rw[Nat.zero_mul,Nat.add_zero] at g0;subst aq;have c0:=aa.c 0 rfl;have aC:0 < p.length:=ω;have q3:decide (0 < p.length)=true:=Zy aC;have ak:∀f r,p=f :: r→f=f0:=fun f r h=>by rw[h] at G;simpa using G
    have aP:=χ ak;have aL:=χ G;clear hb g1 ak G hbr
    by_cases h0:0 < f0.ps
    case' pos=>
     have q4:decide (0 < f0.ps)=true:=Zy h0;have HR:Hid (bS p=false):=aD.out _ (fun h=>(V.out.1 h).2.2.1) fun⟨f,r,e,h⟩=>by rw[aP.out f r e] at h;omega
     go_wp2_with fail;go_ret3;exact eZ.no HR ao
    case' neg=>
     have q4:decide (0 < f0.ps)=false:=Zn h0;have HH:Hid (∃f r,p=f :: r∧f.ps=0):=by
      have h9:=aL.out
      match p,h9 with
      | [],h9=>simp at h9
      | f :: r,h9=>
        obtain rfl:f=f0:=by simpa using h9
        exact⟨f,r,rfl,ω⟩
     go_wp2_with fail;go_loopw [9,10,11,12,50] (fun _ _ _ _ ix ws=>∃k:Nat,ix= .int .i64 (k:Nat)∧k≤p.length∧(∀f∈p.take k,f.ns.all (e3 p)=true)∧Below (ν wr) wr ws) (fun _ _ _ _ ix _=>p.length - (intOf ix).toNat)
     case atStart=>exact⟨0,rfl,Z2 _,by simp,Zj _ _⟩
     case round=>
      obtain⟨k2,rfl,hk2,aF,aM⟩:=hrel;have aG:=χ aF;clear aF g0 c0
      by_cases ai:k2 < p.length
      case' pos=>
       have aO:=fp ai;obtain⟨f,hf⟩:∃f,p[k2]? =some f:=⟨p[k2],Zg ai⟩;have af:=ao.trans (aM.mono ao.size);obtain⟨g2,o2,U,M,ab,ap,g3,g4,aY,z,aj,aR⟩:=hP.fs.cells af hf;injection ab with ab;injection ab with e1 e2 _;subst e1 e2;have az:=HA.out f (Zi hf);have Z:=am wr (.cells #[ι f.ps,.slice U f.ns.length M] 144);have ag:=Zh wr 144 [ι f.ps,.slice U f.ns.length M];obtain⟨n0,n1,-⟩:=kc1 ag;have c0:=((aa.BE aM).alloc (.cells #[ι f.ps,.slice U f.ns.length M] 144)).c 0 rfl;have aH:=aM.size;have O:ek (· < (wr.alloc (.cells #[ι f.ps,.slice U f.ns.length M] 144)).heap.size) (wr.alloc (.cells #[ι f.ps,.slice U f.ns.length M] 144)) f U M:=
        ⟨(aj.below (Z.mono af.size)).more fun j hj=>Za hj (Zp af.size Z.size),aY,z,aR⟩
       have aK:=hP.later (af.trans (Z.mono af.size));have hM:=sA p _ cap f az U M _ aK O;unfold dD de at hM;have aB:=@xb p f az;obtain⟨rr,an⟩:∃rr,dZ p f (bQ 0 f.ns)=rr:=⟨_,rfl⟩;rw[an] at hM aB;have HF:=χ hf;have aE:=χ aB;clear an aB hf O aK az;cases rr with
       | none=>
         simp only[iP] at hM;have ah:Hid (∀f∈p.take (k2+1),f.ns.all (e3 p)=true):=by
          intro y hy;rw[List.take_succ_eq_append_getElem ai,List.mem_append] at hy;rcases hy with hy | hy
          ·exact aG.out y hy
          ·rw[List.mem_singleton.1 hy]
           have:=HF.out;rw[List.getElem?_eq_getElem ai] at this;rw[Option.some.inj this];exact aE.out.1 rfl
         go_wp2_with (go_at_call 121;refine δ hM ?_;intro E ac);go_roundw
         case' rel=>exact⟨k2+1,by go_num,ai,ah.out,aM.trans ((Z.mono aH).trans (ac.mono Ξ))⟩
         case' measure=>exact e8 aO
       | some i=>
         simp only[iP] at hM;have HR:Hid (bS p=false):=aD.out _ (fun h=>(V.out.1 h).2.2.2) fun h=>by have:=aE.out.2 (h f (Zi HF.out));cases this
         go_wp2_with (go_at_call 121;refine δ hM ?_;intro E ac);go_ret3;exact eZ.no HR (af.trans ((Z.mono af.size).trans (ac.mono Ξ)))
      case' neg=>
       have ay:Hid (bS p=true):=by refine V.out.2 ⟨⟨H,aA⟩,HA.out,HH.out,?_⟩;have:=aG.out;rwa [List.take_of_length_le ω] at this
       have af:=ao.trans (aM.mono ao.size);go_wp2_with fail;go_ret3;refine⟨af,0,0,?_⟩;rw[if_pos ay.out];rfl
def hD (p pa cap w) (hP:b0 (ο w) w p pa cap):Calls prog 60 #[dD p pa cap] w (ϑ (ι (if bS p=true then 0 else 70)) w):=by have hb:=Zh w 56 [.slice pa p.length cap];have ae:=am w (.cells #[.slice pa p.length cap] 56);have c0:=hb.c 0 rfl;have hL:=s1 p pa cap _ (hP.later ae);unfold eZ dD at hL;unfold dD;obtain⟨O,hz⟩:∃O:Int,(if bS p=true then 0 else 70)=O:=⟨_,rfl⟩;rw[hz] at hL ⊢;clear hz;go_enter func60,ntmps60;go_wp2_with (go_at_call 88;refine hL.mono ?_;rintro e G ⟨aa,a,b,rfl⟩);go_ret;exact⟨rfl,ae.trans (aa.mono ξ)⟩
def al1 (w:World) (T:TypeId) (cs:List Value):∃u,w.alloc (.cells cs.toArray T)=u∧u.heap.size=w.heap.size+1∧Below w.heap.size w u∧A u w.heap.size T cs:=⟨_,rfl,by simp,am w _,Zh w _ _⟩
def al2 {w w1:World} {n:Nat} (b:Below w.heap.size w w1) (O:w1.heap.size=n) (T:TypeId) (cs:List Value):∃u,w1.alloc (.cells cs.toArray T)=u∧u.heap.size=n+1∧Below w.heap.size w u∧A u n T cs∧∀g T' ba,A w1 g T' ba→A u g T' ba:=⟨_,rfl,by simp[O],b.alloc b.size _,O ▸ Zh w1 _ _,fun _ _ _ h=>h.alloc _⟩
end
end
section
abbrev ab:=Nat→Option Nat
def Fz (o:ab) (w:World) (g:Nat):Prop:=o g=none∧g < w.heap.size
structure Wf (o:ab) (w:World):Prop where
 lt:∀b k,o b=some k→b < w.heap.size∧k < w.heap.size
structure J (D:Nat→Prop) (o:ab) (w:World) (o':ab) (w':World):Prop where
 fr:Fr (fun b=>∃k,o b=some k∧D k) w w'
 old:∀b,b < w.heap.size→o' b=o b∨(o' b=none∧∃k,o b=some k∧D k)
 new:∀b k,w.heap.size≤b→o' b=some k→b < w'.heap.size∧k < w'.heap.size∧(D k∨w.heap.size≤k)
def ab.set (o:ab) (b:Nat) (k:Option Nat):ab:=fun x=>if x=b then k else o x
def ab.BT (o:ab) (b k):o.set b k b=k:=if_pos rfl
def ab.BG (o:ab) {b x} (k) (h:x≠b):o.set b k x=o x:=if_neg h
def aM (K:Nat→Prop) (o:ab) (w:World) (o':ab) (w':World):Prop:=∀b,b < w.heap.size→(∀k,o b=some k→K k)→w'.heap[b]? =w.heap[b]? ∧o' b=o b
section
variable {D D' K:Nat→Prop} {o o1 o2 o':ab} {w w1 G w':World}
def Wf.ge (h:Wf o w) {b} (hb:w.heap.size≤b):o b=none:=by
 cases hk:o b with
 | none=>rfl
 | some k=>have:=(h.lt b k hk).1;omega
def J.size (h:J D o w o' w'):w.heap.size≤w'.heap.size:=h.fr.size
def J.refl (D) (h:Wf o w):J D o w o w:=⟨Y8 _ _,fun _ _=>.inl rfl,fun b k hb hk=>by rw[h.ge hb] at hk;cases hk⟩
def J.Cj {S} (z:Wf o w) (h:Fr S w w') (hS:∀b,b < w.heap.size→S b→∃k,o b=some k∧D k):J D o w o w':=⟨h.more hS,fun _ _=>.inl rfl,fun b k hb hk=>by rw[z.ge hb] at hk;cases hk⟩
def J.BW (z:Wf o w) (h:Below (ν w) w w'):J D o w o w':=J.Cj z (ZA (S:=Θ) h) fun _ _ h=>h.elim
def J.trans (z:Wf o w) (h:J D o w o1 w1) (V:J D' o1 w1 o2 G) (hD:∀k,k < w.heap.size→D' k→D k):J D o w o2 G:=by
 have hs:=h.size;have A:=V.size;refine⟨h.fr.trans V.fr ?_,?_,?_⟩
 ·rintro b hb ⟨k,hk,hd⟩
  rcases h.old b hb with e | ⟨e,_⟩
  ·rw[e] at hk
   exact⟨k,hk,hD k (z.lt b k hk).2 hd⟩
  ·rw[e] at hk;cases hk
 ·intro b hb
  rcases V.old b ω with e | ⟨e,k,hk,hd⟩
  ·rw[e];exact h.old b hb
  ·rcases h.old b hb with e1 | ⟨e1,_⟩
   ·rw[e1] at hk
    exact .inr ⟨e,k,hk,hD k (z.lt b k hk).2 hd⟩
   ·rw[e1] at hk;cases hk
 ·intro b k hb hk
  rcases ZN b (ν w1) with ad | Z
  ·rcases V.old b ad with e | ⟨e,_⟩
   ·rw[e] at hk
    obtain⟨H,h2,h3⟩:=h.new b k hb hk;exact⟨ω,ω,h3⟩
   ·rw[e] at hk;cases hk
  ·obtain⟨H,h2,h3⟩:=V.new b k Z hk
   refine⟨H,h2,?_⟩;rcases h3 with h3 | h3
   ·rcases ZN k (ν w) with h4 | h4
    ·exact .inl (hD k h4 h3)
    ·exact .inr h4
   ·exact .inr ω
def J.same (z:Wf o w) (h:J D o w o1 w1) (V:J D o1 w1 o2 G):J D o w o2 G:=h.trans z V fun _ _ e=>e
def J.more (z:Wf o w) (h:J D o w o1 w1) (hD:∀k,k < w.heap.size→D k→D' k):J D' o w o1 w1:=by
 refine⟨h.fr.more ?_,?_,?_⟩
 ·rintro b hb ⟨k,hk,hd⟩;exact⟨k,hk,hD k (z.lt b k hk).2 hd⟩
 ·intro b hb
  rcases h.old b hb with e | ⟨e,k,hk,hd⟩
  ·exact .inl e
  ·exact .inr ⟨e,k,hk,hD k (z.lt b k hk).2 hd⟩
 ·intro b k hb hk
  obtain⟨H,h2,h3⟩:=h.new b k hb hk;refine⟨H,h2,?_⟩;rcases h3 with h3 | h3
  ·rcases ZN k (ν w) with h4 | h4
   ·exact .inl (hD k h4 h3)
   ·exact .inr h4
  ·exact .inr h3
def Wf.BD (z:Wf o w) (h:J D o w o' w'):Wf o' w':=by
 have hs:=h.size;refine⟨fun b k hk=>?_⟩;rcases ZN b (ν w) with hb | hb
 ·rcases h.old b hb with e | ⟨e,_⟩
  ·rw[e] at hk
   have:=z.lt b k hk;omega
  ·rw[e] at hk;cases hk
 ·obtain⟨H,h2,_⟩:=h.new b k hb hk
  exact⟨H,h2⟩
def Wf.below (z:Wf o w) (h:Below (ν w) w w'):Wf o w':=z.BD (J.BW (D:=Θ) z h)
def Wf.alloc (z:Wf o w) (x):Wf o (w.alloc x):=z.below ((Zj _ _).alloc (Zc _) _)
def J.BN (h:J D o w o' w') {b k} (hb:w.heap.size≤b) (A:b < w'.heap.size) (E:k < w'.heap.size) (hk:D k∨w.heap.size≤k):J D o w (o'.set b (some k)) w':=by
 refine⟨h.fr,fun x hx=>?_,fun x q hx hq=>?_⟩
 ·rw[ab.BG _ _ ω];exact h.old x hx
 ·by_cases e:x=b
  ·subst e
   rw[ab.BT] at hq;cases hq
   exact⟨A,E,hk⟩
  ·rw[ab.BG _ _ e] at hq
   exact h.new x q hx hq
def J.again (h:J D o w o' w') {b k} (hb:o' b=some k):J D o w (o'.set b (some k)) w':=by
 have:o'.set b (some k)=o':=by
  funext x
  unfold ab.set
  split
  ·next e=>rw[e,hb]
  ·rfl
 rw[this];exact h
def J.et (h:J D o w o' w') (hd:∀k,K k→¬D k):aM K o w o' w':=by
 intro b hb hk;refine⟨h.fr.block b hb ?_,?_⟩
 ·rintro ⟨k,e,hD⟩;exact hd k (hk k e) hD
 ·rcases h.old b hb with e | ⟨_,k,e,hD⟩
  ·exact e
  ·exact absurd hD (hd k (hk k e))
def aM.fz (h:aM K o w o' w') (hs:w.heap.size≤w'.heap.size) {g} (hg:Fz o w g):Fz o' w' g∧w'.heap[g]? =w.heap[g]? :=by obtain⟨H,h2⟩:=h g hg.2 (fun k hk=>by rw[hg.1] at hk;cases hk);exact⟨⟨h2.trans hg.1,Za hg.2 hs⟩,H⟩
def aM.cell (h:aM K o w o' w') {g} (hg:Fz o w g) (j):w'.cell? (κ g j)=w.cell? (κ g j):=Zd (w:=w) (h g hg.2 (fun k hk=>by rw[hg.1] at hk;cases hk)).1
def aM.blk (h:aM K o w o' w') {g t cs} (hb:A w g t cs) {k} (M:o g=some k) (hk:K k):A w' g t cs∧o' g=some k:=by obtain⟨H,h2⟩:=h g hb.lt (fun q hq=>by rw[M] at hq;cases hq;exact hk);exact⟨H.trans hb,h2.trans M⟩
def aG.kept {t v} (hv:aG (Fz o w) w t v) (h:aM K o w o' w') (hs:w.heap.size≤w'.heap.size):aG (Fz o' w') w' t v:=(hv.et fun _ hg j=>h.cell hg j).more fun _ hg=>(h.fz hs hg).1
def ap.kept {l a i} (hv:ap (Fz o w) w l a i) (h:aM K o w o' w') (hs:w.heap.size≤w'.heap.size):ap (Fz o' w') w' l a i:=(hv.et fun _ hg j=>h.cell hg j).more fun _ hg=>(h.fz hs hg).1
def O.kept {l a} (hv:O (Fz o w) w l a) (h:aM K o w o' w') (hs:w.heap.size≤w'.heap.size):O (Fz o' w') w' l a:=(hv.et fun _ hg j=>h.cell hg j).more fun _ hg=>(h.fz hs hg).1
def cD.kept {l a} (hv:cD (Fz o w) w l a) (h:aM K o w o' w') (hs:w.heap.size≤w'.heap.size):cD (Fz o' w') w' l a:=(hv.et fun _ hg j=>h.cell hg j).more fun _ hg=>(h.fz hs hg).1
def aG.lt {t v} (hv:aG (Fz o w) w t v):aG (ο w) w t v:=hv.more fun _ h=>h.2
end
structure cj (o:ab) (w:World) (k:Nat) (an:TypeId) (sz:Nat) (v:Value) (n:Nat) (xs:List Value):Prop where
 row:w.ownsRow 0 an sz v n xs
 own:∀g,v.ownBlock=some g→o g=some k
section
variable {K:Nat→Prop} {o o':ab} {w w':World} {k:Nat} {an:TypeId} {sz n m:Nat} {v:Value} {xs ys:List Value}
def cj.kept (h:cj o w k an sz v n xs) (I:aM K o w o' w') (hk:K k):cj o' w' k an sz v n xs:=by
 have hh:∀g,v.ownBlock=some g→g < w.heap.size→w'.heap[g]? =w.heap[g]? ∧o' g=o g:=fun g hg ad=>I g ad fun q hq=>by rw[h.own g hg] at hq;cases hq;exact hk
 exact⟨gg h.row fun g hg ad=>(hh g hg ad).1,fun g hg=>(hh g hg (h.row.lt g hg).2).2.trans (h.own g hg)⟩
def cj.nil (o w k an sz):cj o w k an sz (.slice none 0 0) 0 []:=⟨oh _ _ _ _,fun g h=>by cases h⟩
def cj.BM (h:cj o w k an sz v n xs) (z:Wf o w) (E:k < w.heap.size) {g cap} (hr:w'.ownsRow 0 an sz (.slice (Γ g) m cap) m ys) (hg:w.grownBy w' v.ownBlock) (ha:v.ownBlock=some g∨g=w.heap.size) :
  J (·=k) o w (o.set g (some k)) w'∧cj (o.set g (some k)) w' k an sz (.slice (Γ g) m cap) m ys:=by
 have ad:=(hr.lt g rfl).2;have h0:J (·=k) o w o w':=J.Cj z (Yj (S:=fun b=>v.ownBlock=some b) hg fun q hq=>.inl hq) fun b _ hb=>⟨k,h.own b hb,rfl⟩;refine⟨?_,hr,fun q hq=>?_⟩
 ·rcases ha with e | e
  ·exact h0.again (h.own g e)
  ·exact h0.BN ω ad (Za E hg.size) (.inl rfl)
 ·have A:g=q:=by simpa [Value.ownBlock] using hq
  subst A;exact ab.BT _ _ _
end
def J.CJ {D o w b k} (z:Wf o w) (hb:o b=some k) (hk:D k) (i u):J D o w o (σ w b i u):=
 J.Cj z (Z4 (S:=(·=b)) (.inl rfl)) fun q _ hq=>⟨k,by rw[hq];exact hb,hk⟩
def dw {w g B sz n T an cs xs v} (hb:A w g T cs) (hr:w.ownsRow B an sz v n xs) (U:T≠an):v.ownBlock≠some g:=by
 intro e;rcases hr.2 with ⟨rfl,-⟩ | ⟨g',cap,L,rfl,-,hg,-⟩
 ·cases e
 ·obtain rfl:g'=g:=by simpa [Value.ownBlock] using e
  unfold A at hb;rw[hb] at hg;injection hg with hg;injection hg with _ h2 _;exact U h2
def hA {w:World} {lo lo' n O sz E T T' v v' xs I} (h:w.ownsRow lo T sz v n xs) (V:w.ownsRow lo' T' E v' O I) (U:T≠T'):∀q,v.ownBlock=some q→¬v'.ownBlock=some q:=by
 intro q hq A;rcases h.2 with ⟨rfl,-⟩ | ⟨g,c,cu,rfl,-,hg,-⟩
 ·cases hq
 ·rcases V.2 with ⟨rfl,-⟩ | ⟨g',c',z,rfl,-,aa,-⟩
  ·cases A
  ·obtain rfl:g=q:=by simpa [Value.ownBlock] using hq
   obtain rfl:g'=g:=by simpa [Value.ownBlock] using A
   rw[hg] at aa;injection aa with aa;injection aa with _ h2 _;exact U h2
def cj.BH {o w k b an sz n v xs} (h:cj o w k an sz v n xs) (hb:v.ownBlock≠some b) (i u):cj o (σ w b i u) k an sz v n xs:=
 ⟨gg h.row fun g hg _=>Z0 _ _ _ _ (fun e=>hb (by rw[hg,e])),h.own⟩
def tB {o:ab} {w w':World} (z:Wf o w) (h:Below w.heap.size w w'):J (fun _=>False) o w o w':=J.BW z h
def J.kp {o o':ab} {w w':World} (h:J (fun _=>False) o w o' w'):aM (fun _=>True) o w o' w':=h.et fun _ _=>id
def kB {o:ab} {w w':World} (z:Wf o w) (h:Below w.heap.size w w'):aM (fun _=>True) o w o w':=(tB z h).kp
def Zb:=@J.BW
def Zw:=@ab.BT
def Z3:=@J.CJ
def Z9:=@J.Cj
def ZM:=@J.refl
def ZO:=@J.et
def Y2:=@ab.BG
end
def iT {ok w}:∀{l:List VT} {a:Option Addr} {i:Nat},ap ok w l a i↔∀(j:Nat) (t:VT),l[j]? =some t→∃(g o:Nat) (v0 v1 v2:Value),a=some ⟨g,o,none⟩∧ok g ∧
  w.cell? (κ g (o+(i+j)*3))=some v0∧w.cell? (κ g (o+(i+j)*3+1))=some v1∧w.cell? (κ g (o+(i+j)*3+2))=some v2∧aG ok w t (.agg #[v0,v1,v2])
 | [],a,i=>by
   rw[ap]
   exact⟨fun _ j t h=>by simp at h,fun _=>Zk⟩
 | t :: r,a,i=>by
   rw[ap,iT (l:=r)]
   constructor
   ·rintro ⟨⟨g,o,v0,v1,v2,h⟩,h2⟩ j u hj
    cases j with
    | zero=>
      obtain rfl:t=u:=by simpa using hj
      exact⟨g,o,v0,v1,v2,h⟩
    | succ j=>
      have:=h2 j u (by simpa using hj)
      rwa [show i+1+j=i+(j+1) by omega] at this
   ·intro h
    refine⟨h 0 t rfl,fun j u hj=>?_⟩
    have:=h (j+1) u (by simpa using hj)
    rwa [show i+(j+1)=i+1+j by omega] at this
def VT.n:VT→Int | .mk _ n _=>n
def VT.l:VT→List VT | .mk _ _ l=>l
def aG.three {ok w t v} (h:aG ok w t v):∃(a:Option Addr) (cap:Nat),v= .agg #[ι t.kd,ι t.n,.slice a t.l.length cap]∧t.l.length≤cap∧cap≤maxLen:=by obtain⟨k,n,l⟩:=t;rw[aG] at h;obtain⟨a,cap,rfl,_,_,H,h2,_⟩:=h;exact⟨a,cap,rfl,H,h2⟩
def υ (_:VT) (_:Option Addr) (_:Nat):Qi:=.a
instance (t a c):CoeDep Qi (υ t a c) (Array Value):=⟨#[.int .i64 t.kd,.int .i64 t.n,.slice a t.l.length c]⟩
instance (t a c):CoeDep Qi (υ t a c) Obj:=⟨.cells #[.int .i64 t.kd,.int .i64 t.n,.slice a t.l.length c] 86⟩
def ε (_ _ _ _:Int) (_:VT) (_:Option Addr) (_:Nat):Qi:=.a
instance (x y O u t a c):CoeDep Qi (ε x y O u t a c) (Array Value):=⟨#[.int .i64 x,.int .i64 y,.int .i64 O,.int .i64 u,.int .i64 t.kd,.int .i64 t.n,.slice a t.l.length c]⟩
instance (x y O u t a c):CoeDep Qi (ε x y O u t a c) Obj:=⟨.cells #[.int .i64 x,.int .i64 y,.int .i64 O,.int .i64 u,.int .i64 t.kd,.int .i64 t.n,.slice a t.l.length c] 307⟩
end Go.Proofs.YtmchabopafimeaaGreatDoor
