import Derived.Test.YtmchabopafimeaaGreatDoorQae
import Derived.ScopeJumps
import Derived.WalkMore
import Derived.Test.YtmchabopafimeaaGreatDoorQaf
import Derived.BigRegion
import Derived.Maps.Own
namespace Go.Proofs.YtmchabopafimeaaGreatDoor
set_option maxRecDepth 100000
set_option maxHeartbeats 16000000
set_option linter.all false
open Go.RowKit Go.Sort Tryz
def uB (o Y most cells cnt i w) (z:Wf o w) (h:an o w Y most cells cnt) (hi:i < cells.length) :
  Calls prog 327 #[.agg #[π Y],ι (i:Nat),.agg #[]] w fun e w'=>e= .returned (.tuple #[.int .u64 (cells[i]:Nat),ι 0])∧E Y most cells cnt o w w':=by have hb:=(am w (.cells #[π Y] 449)).alloc ξ (.cells #[] 223);have hA:=mi o Y most cells cnt i _ (z.below hb) (h.below z hb) hi;refine xT ?_;intro x hx;rw[hx] at hA ⊢;clear hx;go_enter func327,ntmps327;go_wp2_with (go_at_call 378;refine δ hA ?_;intro w1 U);go_ret2;exact⟨rfl,Yt z hb U⟩
def u3 (o Y most cells cnt i new) (hv:new≤2) (w) (z:Wf o w) (h:an o w Y most cells cnt) (hi:i < cells.length) (hc:cells[i]≤2) :
  Calls prog 440 #[.func (.func 441) #[.agg #[π Y]] #[],ι (i:Nat),ι (new:Nat)] w fun e w'=>e= .returned (.tuple #[ι (cells[i]:Nat),ι 0])∧E Y most (cells.set i (if cells[i]=0 then new else cells[i])) cnt o w w':=by have hA:=pU o Y most cells cnt i new hv w z h hi;refine xT ?_;intro x hx;rw[hx] at hA hc ⊢;obtain⟨cs,I⟩:∃cs,cells.set i (if x=0 then new else x)=cs:=⟨_,rfl⟩;rw[I] at hA ⊢;clear hx I;have hd:decide ((2:Int) < (x:Int))=false:=Zn ω;have aE:IntKind.i64.wrap (x:Int)=x:=IntWalk.i64_in _ ω;go_enter func440,ntmps440;go_wp2_with fail;go_step3;go_wp2_with (go_at_call 441;refine δ hA ?_;intro w1 U);go_step3;go_wp2_with fail;rw[Exit.noGoto_ret];go_ret2;exact⟨rfl,U⟩
def xK (o Y most cells cnt i w) (z:Wf o w) (h:an o w Y most cells cnt) (hi:i < cells.length) (hc:cells[i]≤2) :
  Calls prog 326 #[.func (.func 327) #[.agg #[π Y]] #[],ι (i:Nat),.agg #[]] w fun e w'=>e= .returned (.tuple #[ι (cells[i]:Nat),ι 0])∧E Y most cells cnt o w w':=by have hb:=am w (.cells #[] 223);have hA:=uB o Y most cells cnt i _ (z.below hb) (h.below z hb) hi;refine xT ?_;intro x hx;rw[hx] at hA hc ⊢;clear hx;have hd:decide ((2:Int) < (x:Int))=false:=Zn ω;have aE:IntKind.i64.wrap (x:Int)=x:=IntWalk.i64_in _ ω;go_enter func326,ntmps326;go_wp2_with fail;go_step3;go_wp2_with (go_at_call 327;refine δ hA ?_;intro w1 U);go_step3;go_wp2_with fail;rw[Exit.noGoto_ret];go_ret2;exact⟨rfl,Yt z hb U⟩
def rY (o Y most cells cnt i w) (z:Wf o w) (h:an o w Y most cells cnt) (hi:i < cells.length) (hc:cells[i]≤2) :
  Calls prog 398 #[π Y,ι (i:Nat)] w fun e w'=>e= .returned (.tuple #[ι (cells[i]:Nat),ι 0])∧E Y most (cells.set i (if cells[i]=0 then 2 else cells[i])) cnt o w w':=by have hA:=u3 o Y most cells cnt i 2 ω w z h hi hc;refine xT ?_;intro x hx;rw[hx] at hA ⊢;obtain⟨cs,I⟩:∃cs,cells.set i (if x=0 then 2 else x)=cs:=⟨_,rfl⟩;rw[I] at hA ⊢;clear hx I;go_enter func398,ntmps398;go_wp2_with (go_at_call 440;refine δ hA ?_;intro w1 U);go_ret2;exact⟨rfl,U⟩
def rg (o Y most cells cnt i w) (z:Wf o w) (h:an o w Y most cells cnt) (hi:i < cells.length) (hc:cells[i]≤2) :
  Calls prog 296 #[π Y,ι (i:Nat)] w fun e w'=>e= .returned (.tuple #[ι (cells[i]:Nat),ι 0])∧E Y most cells cnt o w w':=by have hA:=xK o Y most cells cnt i w z h hi hc;refine xT ?_;intro x hx;rw[hx] at hA ⊢;clear hx;go_enter func296,ntmps296;go_wp2_with (go_at_call 326;refine δ hA ?_;intro w1 U);go_ret2;exact⟨rfl,U⟩
def wD (o Y most cells cnt i w) (z:Wf o w) (h:an o w Y most cells cnt) (hi:i < cells.length) :
  Calls prog 408 #[π Y,ι (i:Nat)] w fun e w'=>e= .returned (ι 0)∧E Y most (cells.set i 2) cnt o w w':=by have hA:=ru o Y most cells cnt i 2 φ w z h hi;go_enter func408,ntmps408;go_wp2_with (go_at_call 447;refine δ hA ?_;intro w1 U);go_ret;exact⟨rfl,U⟩
def ca (Y most:Nat) (cells:List Nat) (cnt n:Nat) (o:ab) (w:World) (e:Ending) (w':World):Prop:=
 if most - cells.length < n then e= .returned (.tuple #[.int .i64 0,.int .i64 6])∧Below w.heap.size w w'
 else e= .returned (.tuple #[.int .i64 (cells.length:Nat),.int .i64 0])∧∃o',J (·=Y) o w o' w'∧an o' w' Y most (cells ++ List.replicate n 0) cnt
def ca.no {Y most cnt n cells o w w'} (h:most - cells.length < n) (hb:Below (ν w) w w'):ca Y most cells cnt n o w (.returned (.tuple #[ι 0,ι 6])) w':=by unfold ca;rw[if_pos h];exact⟨rfl,hb⟩
def ca.yes {Y most cnt n cells o o' w w'} (h:¬most - cells.length < n) (U:J (·=Y) o w o' w') (hI:an o' w' Y most (cells ++ List.replicate n 0) cnt):ca Y most cells cnt n o w (.returned (.tuple #[ι (cells.length:Nat),ι 0])) w':=by unfold ca;rw[if_neg h];exact⟨rfl,o',U,hI⟩
section
def Exit.fwd (P:Program) (l:Nat) (rest:Code) (Q:Exit→Act→World→Prop):Exit→Act→World→Prop
 | .goto l',a,w=>l'=l∧rest.wp P (Exit.noGoto Q) a w
 | e,a,w=>Q e a w
section
variable {P:Program} {l:Nat} {rest c:Code} {Q:Exit→Act→World→Prop} {a:Act} {w:World}
@[go_sem] theorem Exit.CR:Exit.fwd P l rest Q .normal a w=Q .normal a w:=rfl
@[go_sem] theorem Exit.CZ (id):Exit.fwd P l rest Q (.exit id) a w=Q (.exit id) a w:=rfl
def Exit.BS:Exit.fwd P l rest Q .ret a w=Q .ret a w:=rfl
@[go_sem] theorem Exit.CW (ch:List PanicEntry):Exit.fwd P l rest Q (.panic ch) a w=Q (.panic ch) a w:=rfl
def fV (l) (hf:findLabel c l=some rest) (h:c.wp P (Exit.fwd P l rest Q) a w):(Code.scope c).wp P Q a w:=by
 refine wp_scope_jumps l (fun a w=>rest.wp P (Exit.noGoto Q) a w) (fun _ _=>0) hf ?_ ?_
 ·refine wp_mono h fun e a' w' he=>?_
  cases e <;> exact he
 ·intro a' w' hj
  refine wp_mono hj fun e a2 G he=>?_;cases e
  case goto=>exact he.elim
  all_goals exact he
end
def xp (l n):dr l ++ b5 n=dr (l ++ List.replicate n 0):=by simp[dr,b5]
def ac.CK {o w Y most cnt nl n cells vl vc xs} (h:ac o w Y most cells cnt vl vc nl xs) (z:Wf o w) {w' g cap} (hr:w'.ownsRow 0 22 1 (.slice (Γ g) (cells.length+n) cap) (cells.length+n) (dr cells ++ b5 n)) (hg:w.grownBy w' vc.ownBlock) (ha:vc.ownBlock=some g∨g=w.heap.size) (hm:¬most - cells.length < n) :
  J (·=Y) o w (o.set g (some Y)) (σ w' Y 3 (.slice (Γ g) (cells.length+n) cap):World)∧ac (o.set g (some Y)) (σ w' Y 3 (.slice (Γ g) (cells.length+n) cap)) Y most (cells ++ List.replicate n 0) cnt vl (.slice (Γ g) (cells.length+n) cap) nl xs:=by
 obtain⟨H,h2⟩:=h.cs.BM z h.blk.lt hr hg ha;have E:g≠Y:=by
  rintro rfl;rcases ha with e | e
  ·exact dw h.blk h.cs.row φ e
  ·have:=h.blk.lt;omega
 have G:(o.set g (some Y)) Y=some Y:=by rw[ab.BG _ _ (Ne.symm E)];exact h.own
 have aQ:A w' Y 171 _:=h.blk.fr (S:=fun q=>vc.ownBlock=some q) (Yj hg fun q hq=>.inl hq) (dw h.blk h.cs.row φ);have ak:cj (o.set g (some Y)) w' Y 175 5 vl nl xs:=by
  have ay:∀q,vl.ownBlock=some q→¬vc.ownBlock=some q:=hA h.last.row h.cs.row φ;refine⟨gg h.last.row fun q hq ad=>hg.block q ad (fun e=>ay q hq e.symm),fun q hq=>?_⟩
  by_cases e:q=g
  ·subst e;exact Zw _ _ _
  ·rw[ab.BG _ _ e];exact h.last.own q hq
 have h3:=h2.BH (fun e=>E (by simpa [Value.ownBlock] using e)) 3 (.slice (Γ g) (cells.length+n) cap);rw[xp] at h3;have bu:=h.len
 exact⟨H.same z (Z3 (D:=(·=Y)) (z.BD H) G rfl _ _),aQ.set 3 _,G,ak.BH (dw aQ ak.row φ) _ _,h.nl,by rw[List.length_append,List.length_replicate];exact h3,h.most1,h.most2,
   by rw[List.length_append,List.length_replicate];omega,fun x hx=>by
    rcases Zv.1 hx with hx | hx
    ·exact h.small x hx
    ·rw[List.eq_of_mem_replicate hx];decide⟩
def oi (o Y most cells cnt n) (h0:0 < n) (hn:n≤1000) (w) (z:Wf o w) (h:an o w Y most cells cnt) :
  Calls prog 224 #[π Y,ι (n:Nat)] w (ca Y most cells cnt n o w):=by
 have hM:=nH o Y most cells cnt w h;obtain⟨vl,vc,nl,xs,h⟩:=h;have bu:=h.len;have bq:=h.most2;have bv:=h.most1;obtain⟨va,V,rfl,aA,aS,-⟩:=hQ h.cs.row;obtain⟨i0,ay,aH,ax,aw⟩:=cq lJ;obtain⟨-,-,c2,c3,-⟩:=kc3 h.blk;obtain⟨L,hL⟩:∃L,cells.length=L:=⟨_,rfl⟩;have E:=hL;rw[hL] at c3 bu aA;have q1:decide ((n:Int) < 0)=false:=Zn ω;have af:IntKind.i64.wrap ((most:Int) - (L:Int))=((most - L:Nat):Int):=(IntWalk.i64_in _ ω).trans ω;rcases ZN (most - L) n with ah | ah
 ·have HR:Hid (most - cells.length < n):=by show _;rw[E];exact ah
  clear E;have q3:decide (most - L < n)=true:=Zy ω;generalize most - L=R at *;clear hL;go_enter func224,ntmps224;go_upto_region 5 with (go_at_call 77;refine γ hM ?_);go_quiet (fail);go_wp2_with fail;go_ret2;exact ca.no HR.out ⟨rfl,rfl,rfl,Zc _,fun _ _=>rfl⟩
 ·have HR:Hid (¬most - cells.length < n):=by show ¬most - cells.length < n;rw[E];omega
  have q3:decide (most - L < n)=false:=Zn ω;have H1:=χ h;have A:=χ E;clear E h;generalize most - L=R at *;clear hL;go_enter func224,ntmps224;go_upto_region 5 with (go_at_call 77;refine γ hM ?_);go_quiet (fail);have aM:Below (ν w) w (w.drewN nq):=⟨rfl,rfl,rfl,Zc _,fun _ _=>rfl⟩;have H:=H1.out.below z aM;have ae:=z.below aM;have ak:J (·=Y) o w o _:=Zb z aM;clear aM c2 c3;generalize w.drewN nq=w1 at *;have aE:=H.cs.row;rw[A.out] at aE;obtain⟨g,cap,G,bi,aK,ap,M⟩:=tO (P:=prog) w1 68 3 68 22 i0 .i64 .i64 underlying68 underlying3 ay aH ax aw _ L n _ aE h0 ω ω;have aB:=H.blk.c 3 rfl;rw[A.out] at aB;have aO:(Value.slice va L V).ownBlock≠some Y:=dw H.blk aE φ;have hc2:G.cell? (κ Y 3)=some (.slice va L V):=(ap.cell_far ⟨Y,3,none⟩ H.blk.lt (Yv aO)).trans aB;have bo:G.frozen? (κ Y 3)=false:=(ap.frozen_far ⟨Y,3,none⟩ H.blk.lt (Yv aO)).trans (H.blk.fz 3);have h2:=H.CK (n:=n) (cap:=cap) (g:=g) (w':=G) ae (by rw[A.out];exact aK) (by rw[A.out];exact ap) (by rw[A.out];exact M) HR.out;rw[A.out] at h2;obtain⟨aq,h2⟩:=h2;have Z:=ca.yes (cnt:=cnt) HR.out (ak.same z aq) ⟨_,_,_,_,h2⟩;rw[A.out] at Z;have I:=χ Z;clear aE aK ap M aq h2 Z ak H;go_wp2_with (at_builtin;refine Lib.wpList_append_run _ rfl _ _ _ _ rfl _ _ rfl rfl _ _ bi ?_);go_ret2;exact I.out
def tc (o Y most cells cnt w) (z:Wf o w) (h:an o w Y most cells cnt):Calls prog 216 #[π Y] w (ca Y most cells cnt 1 o w):=by
 have hA:=oi o Y most cells cnt 1 ω ω w z h
 by_cases ah:most - cells.length < 1
 all_goals
  unfold ca at hA ⊢;simp only[ah,if_true,if_false] at hA ⊢;obtain⟨L,hL⟩:∃L:Int,(cells.length:Int)=L:=⟨_,rfl⟩;try rw[hL] at hA ⊢
  clear hL ah;go_enter func216,ntmps216;go_wp2_with (go_at_call 224;refine δ hA ?_;intro w1 U);go_ret2;exact⟨rfl,U⟩
def lQ (o Y most cells cnt w) (z:Wf o w) (h:an o w Y most cells cnt):Calls prog 230 #[π Y] w (ca Y most cells cnt 1 o w):=by
 have hA:=oi o Y most cells cnt 1 ω ω w z h
 by_cases ah:most - cells.length < 1
 ·unfold ca at hA ⊢
  simp only[ah,if_true] at hA ⊢;obtain⟨L,hL⟩:∃L:Int,(cells.length:Int)=L:=⟨_,rfl⟩;try rw[hL] at hA ⊢
  clear hL ah;go_enter func230,ntmps230;go_wp2_with fail;refine fV 0 rfl ?_;go_wp2_with (go_at_call 224;refine δ hA ?_;intro w1 U);go_step3;refine⟨rfl,?_⟩;go_wp2_with fail;rw[Exit.noGoto_ret];go_ret2;exact⟨rfl,U⟩
 ·unfold ca at hA ⊢
  simp only[ah,if_false] at hA ⊢;obtain⟨L,hL⟩:∃L:Int,(cells.length:Int)=L:=⟨_,rfl⟩;try rw[hL] at hA ⊢
  clear hL ah;go_enter func230,ntmps230;go_wp2_with fail;refine fV 0 rfl ?_;go_wp2_with (go_at_call 224;refine δ hA ?_;intro w1 U);rw[Exit.BS];go_ret2;exact⟨rfl,U⟩
def an.new {o w} (z:Wf o w) (most) (H:1≤most) (h2:most≤65536) :
  J Θ o w (o.set (ν w) (some w.heap.size)) (w.alloc (.cells #[.int .u64 0,ζ,ι (most:Nat),ζ] 171)) ∧
  an (o.set (ν w) (some w.heap.size)) (w.alloc (.cells #[.int .u64 0,ζ,ι (most:Nat),ζ] 171)) (ν w) most [] 0:=
 ⟨(Zb z (am w _)).BN (Zc _) ξ ξ (.inr (Zc _)),.slice none 0 0,.slice none 0 0,0,[],Zh w _ [.int .u64 0,ζ,ι (most:Nat),ζ],Zw _ _ _,cj.nil _ _ _ _ _,ω,cj.nil _ _ _ _ _,H,h2,by simp,fun n hn=>by simp at hn⟩
def pA (o most) (H:1≤most) (h2:most≤65536) (w) (z:Wf o w) :
  Calls prog 89 #[ι (most:Nat)] w fun e w'=>∃Y o',e= .returned (.tuple #[π Y,ι 0])∧w.heap.size≤Y∧J Θ o w o' w'∧an o' w' Y most [] 0:=by have hI:=an.new z most H h2;have q1:decide ((most:Int) < 1)=false:=Zn ω;have q2:decide ((65536:Int) < (most:Int))=false:=Zn ω;go_enter func89,ntmps89;go_wp2_with fail;go_ret2;exact⟨_,_,rfl,Zc _,hI.1,hI.2⟩
def zy {p:Prop} (h:p:=by
 intro q hq A;rcases h.2 with ⟨rfl,-⟩ | ⟨g,c,cu,rfl,hg,-⟩
 ·cases hq
 ·rcases V.2 with ⟨rfl,-⟩ | ⟨g',c',z,rfl,aa,-⟩
  ·cases A
  ·obtain rfl:g=q:=by simpa [Value.ownBlock] using hq
   obtain rfl:g'=g:=by simpa [Value.ownBlock] using A
   rw[hg] at aa;injection aa with aa;injection aa with _ h2 _
   exact U h2):p:=h
end
section
def bu (e:V) (a:Option Addr) (cap:Nat):List Value:=[.int .i64 e.sy,.int .i64 e.th,.int .i64 e.br,.int .i64 e.fl,.int .i64 e.v.kd,.int .i64 e.v.n,.slice a e.v.l.length cap]
def a4 (ok:Nat→Prop) (w:World) (e:V) (cs:List Value):Prop:=∃(a:Option Addr) (cap:Nat),cs=bu e a cap∧aG ok w e.v (.agg #[.int .i64 e.v.kd,.int .i64 e.v.n,.slice a e.v.l.length cap])∧ag e.sy∧ag e.th∧ag e.br∧ag e.fl
section
variable {ok ok':Nat→Prop} {w w':World} {e:V} {cs:List Value}
def a4.et (h:a4 ok w e cs) (hc:∀g,ok g→∀q,w'.cell? (κ g q)=w.cell? (κ g q)) (az:∀g,ok g→ok' g):a4 ok' w' e cs:=by obtain⟨a,cap,H,h2,h3⟩:=h;exact⟨a,cap,H,(h2.et hc).more az,h3⟩
end
def i0:(prog.info? 307).map (fun i=>(i.zero,i.size,i.bytes))=some (some (.agg #[ι 0,ι 0,ι 0,ι 0,ι 0,ι 0,ζ]),7,72):=by kernel_rfl
abbrev dp (w:World) (b:Nat) (v0 v1 v2 v3 I v5 v6:Value):World:=((((((w.setCell ⟨b,0,none⟩ v0).setCell ⟨b,1,none⟩ v1).setCell ⟨b,2,none⟩ v2).setCell ⟨b,3,none⟩ v3).setCell ⟨b,4,none⟩ I).setCell ⟨b,5,none⟩ v5).setCell ⟨b,6,none⟩ v6
section
variable {w w1:World} {b B:Nat} {T:TypeId} {x0 x1 x2 x3 x4 x5 x6:Value} (v0 v1 v2 v3 I v5 v6:Value)
def b6 (h:A w b T [x0,x1,x2,x3,x4,x5,x6]):A (dp w b v0 v1 v2 v3 I v5 v6) b T [v0,v1,v2,v3,I,v5,v6]:=((((((h.set 0 v0).set 1 v1).set 2 v2).set 3 v3).set 4 I).set 5 v5).set 6 v6
def e9 (h:Below B w w1) (hb:B≤b):Below B w (dp w1 b v0 v1 v2 v3 I v5 v6):=((((((h.setCell hb _).setCell hb _).setCell hb _).setCell hb _).setCell hb _).setCell hb _).setCell hb _
def jm:(dp w b v0 v1 v2 v3 I v5 v6).heap.size=w.heap.size:=by simp[World.setCell]
def jH {g} (hg:g≠b) (q):(dp w b v0 v1 v2 v3 I v5 v6).cell? (κ g q)=w.cell? (κ g q):=
 Zd (by rw[Below.heap_setCell _ _ _ _ hg,Below.heap_setCell _ _ _ _ hg,Below.heap_setCell _ _ _ _ hg,Below.heap_setCell _ _ _ _ hg,Below.heap_setCell _ _ _ _ hg,Below.heap_setCell _ _ _ _ hg,Below.heap_setCell _ _ _ _ hg])
end
def lS (e0 cs w) (h:a4 (ο w) w e0 cs) (hs:small e0.v=true) :
  Calls prog 159 #[.agg cs.toArray] w fun e w'=>∃ba,e= .returned (.agg ba.toArray)∧Below (ν w) w w'∧a4 (Nw (ν w) w') w' e0 ba:=by
 obtain⟨a,cap,rfl,hv,hr⟩:=h;obtain⟨sy,th,br,fl,t⟩:=e0;unfold bu;dsimp only at hv hr hs ⊢;have aa:=(am w (.cells #[ι sy,ι th,ι br,ι fl,ι t.kd,ι t.n,.slice a t.l.length cap] 307)).alloc ξ (.cells #[ι 0,ι 0,ι 0,ι 0,ι 0,ι 0,ζ] 307);have O:=(Zh w 307 [ι sy,ι th,ι br,ι fl,ι t.kd,ι t.n,.slice a t.l.length cap]).alloc θ;have Z:=Zh (w.alloc (ε sy th br fl t a cap)) 307 [ι 0,ι 0,ι 0,ι 0,ι 0,ι 0,ζ];rw[show (w.alloc (ε sy th br fl t a cap)).heap.size=w.heap.size+1 by simp] at Z;have ab:=hv.later aa;have a8:w.heap.size+1 < ((w.alloc (ε sy th br fl t a cap)).alloc θ).heap.size:=by simp
 have HS:=χ hs;clear hs hv;go_enter func159,ntmps159;go_upto_region 1 with fail;generalize (w.alloc (ε sy th br fl t a cap)).alloc θ=G at *;obtain⟨-,-,-,-,c4,c5,c6,-⟩:=kc6 O;go_wp2_with fail;refine (ce t _ _ HS.out ab).mono ?_;rintro e E ⟨v3,rfl,ac,ai⟩;obtain⟨a3,U,rfl,bz,b'⟩:=ai.three;have ao:=aa.trans (ac.mono aa.size);have j0:=O.BE ac;have j1:=Z.BE ac;clear O Z c4 c5 c6 ab;obtain⟨-,-,-,-,-,-,-,-,c4,f4,c5,f5,c6,f6,-⟩:=kb6 j0;go_upto_region 2 with fail;have i0:=((j0.set 4 (ι t.kd)).set 5 (ι t.n)).set 6 (.slice a3 t.l.length U);have H:=((j1.BJ (q:=κ (ν w) 4) Ω (ι t.kd)).BJ (q:=κ (ν w) 5) Ω (ι t.n)).BJ (q:=κ (ν w) 6) Ω (.slice a3 t.l.length U);have af:=((ao.setCell (p:=κ (ν w) 4) (Zc _) (ι t.kd)).setCell (p:=κ (ν w) 5) (Zc _) (ι t.n)).setCell (p:=κ (ν w) 6) (Zc _) (.slice a3 t.l.length U);have aJ:∀g,g≠w.heap.size→∀o,(σ (σ (σ E (ν w) 4 (ι t.kd)) (ν w) 5 (ι t.n)) (ν w) 6 (.slice a3 t.l.length U):World).cell? (κ g o)=E.cell? (κ g o):=fun g ay o=>
  Zd (by rw[Below.heap_setCell _ _ _ _ ay,Below.heap_setCell _ _ _ _ ay,Below.heap_setCell _ _ _ _ ay])
 have an:aG (Nw (w.heap.size+1+1) (σ (σ (σ E (ν w) 4 (ι t.kd)) (ν w) 5 (ι t.n)) (ν w) 6 (.slice a3 t.l.length U))) _ t (.agg (υ t a3 U)):=(ai.et fun g hg o=>aJ g (by have:=hg.1;omega) o).more fun g hg=>⟨by have:=hg.1;omega,by simpa [World.setCell] using hg.2⟩;clear c4 c5 c6 f4 f5 f6 ai ao j0 j1 aJ ac aa;generalize (σ (σ (σ E (ν w) 4 (ι t.kd)) (ν w) 5 (ι t.n)) (ν w) 6 (.slice a3 t.l.length U):World)=M at *;obtain⟨c0,c1,c2,c3,c4,c5,c6,-⟩:=kc6 i0;obtain⟨d0,f0,d1,f1,d2,f2,d3,f3,d4,f4,d5,f5,d6,f6,-⟩:=kb6 H;go_wp2_with fail;have hp:=b6 (ι sy) (ι th) (ι br) (ι fl) (ι t.kd) (ι t.n) (.slice a3 t.l.length U) H;refine Zl (v:= .agg (ε sy th br fl t a3 U)) (by simp[results,results159,go_sem,hp.c 0 rfl,hp.c 1 rfl,hp.c 2 rfl,hp.c 3 rfl,hp.c 4 rfl,hp.c 5 rfl,hp.c 6 rfl]) rfl
   ⟨bu ⟨sy,th,br,fl,t⟩ a3 U,rfl,e9 _ _ _ _ _ _ _ af ω,a3,U,rfl,?_,hr⟩
 exact (an.et fun g hg o=>jH _ _ _ _ _ _ _ (by have:=hg.1;omega) o).more fun g hg=>⟨by have:=hg.1;omega,by rw[jm];exact hg.2⟩
end
def s8 (e0:V) (a cap w) :
  Calls prog 464 #[.agg (ε e0.sy e0.th e0.br e0.fl e0.v a cap)] w fun e w'=>
   e= .returned (.agg #[ι e0.sy,ι e0.th,ι e0.br,ι e0.fl])∧Below (ν w) w w':=by
 obtain⟨sy,th,br,fl,t⟩:=e0;dsimp only;have aa:=(am w (.cells #[ι sy,ι th,ι br,ι fl,ι t.kd,ι t.n,.slice a t.l.length cap] 307)).alloc ξ (.cells #[ι 0,ι 0,ι 0,ι 0] 519);have O:=(Zh w 307 [ι sy,ι th,ι br,ι fl,ι t.kd,ι t.n,.slice a t.l.length cap]).alloc (.cells #[ι 0,ι 0,ι 0,ι 0] 519);have Z:=Zh (w.alloc (ε sy th br fl t a cap)) 519 [ι 0,ι 0,ι 0,ι 0];rw[show (w.alloc (ε sy th br fl t a cap)).heap.size=w.heap.size+1 by simp] at Z;go_enter func464,ntmps464;go_upto_region 1 with fail;generalize (w.alloc (ε sy th br fl t a cap)).alloc (.cells #[ι 0,ι 0,ι 0,ι 0] 519)=G at *;obtain⟨c0,c1,c2,c3,-⟩:=kc3 O;obtain⟨d0,f0,d1,f1,d2,f2,d3,f3,-⟩:=kb3 Z;go_wp2_with fail;have hr:=(((Z.set 0 (ι sy)).set 1 (ι th)).set 2 (ι br)).set 3 (ι fl);exact Zl (v:= .agg #[ι sy,ι th,ι br,ι fl]) (by simp[results,results464,go_sem,hr.c 0 rfl,hr.c 1 rfl,hr.c 2 rfl,hr.c 3 rfl]) rfl
   ⟨rfl,(((aa.setCell (p:=κ (η w) 0) Ω _).setCell (p:=κ (η w) 1) Ω _).setCell (p:=κ (η w) 2) Ω _).setCell (p:=κ (η w) 3) Ω _⟩
def pI (x0 x1 x2 x3):∀w,(Instr.index 519 (.agg #[x0,x1,x2,x3]) (ι 0)).run prog w= .ok x0 w:=fun _=>by kernel_rfl
def sS (x0 x1 x2 x3):∀w,(Instr.index 519 (.agg #[x0,x1,x2,x3]) (ι 1)).run prog w= .ok x1 w:=fun _=>by kernel_rfl
def u5 (x0 x1 x2 x3):∀w,(Instr.index 519 (.agg #[x0,x1,x2,x3]) (ι 2)).run prog w= .ok x2 w:=fun _=>by kernel_rfl
def xO (x0 x1 x2 x3):∀w,(Instr.index 519 (.agg #[x0,x1,x2,x3]) (ι 3)).run prog w= .ok x3 w:=fun _=>by kernel_rfl
def pF (e0 cs w) (h:a4 (ο w) w e0 cs) :
  Calls prog 461 #[.agg cs.toArray] w (ϑ (.bool (eg e0)) w):=by
 obtain⟨a,cap,rfl,hv,hr⟩:=h;have hN:=s8 e0 a cap;have bD:∀(k:Nat),k < 4→∀w,(Instr.index 519 (.agg #[ι e0.sy,ι e0.th,ι e0.br,ι e0.fl]) (ι (k:Nat))).run prog w= .ok (ι ([e0.sy,e0.th,e0.br,e0.fl].getD k 0)) w:=by
  intro k hk w;have:k=0∨k=1∨k=2∨k=3:=ω;rcases this with rfl | rfl | rfl | rfl
  ·exact pI _ _ _ _ w
  ·exact sS _ _ _ _ w
  ·exact u5 _ _ _ _ w
  ·exact xO _ _ _ _ w
 obtain⟨y,hy⟩:∃y,right e0.v=y:=⟨_,rfl⟩;obtain⟨r,an⟩:∃r,eg e0=r:=⟨_,rfl⟩;rw[an];obtain⟨sy,th,br,fl,t⟩:=e0;unfold bu;dsimp only at hv hr hN bD hy ⊢;have af:=am w (.cells #[ι sy,ι th,ι br,ι fl,ι t.kd,ι t.n,.slice a t.l.length cap] 307);have O:=Zh w 307 [ι sy,ι th,ι br,ι fl,ι t.kd,ι t.n,.slice a t.l.length cap];have ab:=hv.later af;have V:=χ bD;have HR:=χ an;clear bD an hv hy;go_enter func461,ntmps461;go_upto_region 1 with fail;generalize w.alloc (ε sy th br fl t a cap)=G at *;obtain⟨c0,c1,c2,c3,c4,c5,c6,-⟩:=kc6 O;go_wp2_with (go_at_call 464;refine δ (hN _) ?_;intro E ac);have ao:=af.trans (ac.mono af.size);have ai:=ab.later ac;have k3:=O.BE ac;clear c0 c1 c2 c3 c4 c5 c6 ab O ac af hN;go_loop [4,7] (fun _ i=>∃k:Nat,k≤4∧i= .int .i64 (k:Nat)∧∀j,j < k→0≤[sy,th,br,fl].getD j 0) (fun _ i=>4 - (intOf i).toNat)
 case atStart=>exact⟨0,ω,rfl,fun j hj=>by omega⟩
 case round=>
  obtain⟨k,hk,rfl,a3⟩:=hrel;have I:=χ a3;clear a3
  by_cases ad:k < 4
  ·have Y:=V.out k ad
   obtain⟨x,hx⟩:∃x,[sy,th,br,fl].getD k 0=x:=⟨_,rfl⟩;rw[hx] at Y;have HX:=χ hx;clear hx;have L:decide ((k:Int) < 4)=true:=Zy ω
   by_cases J:x < 0
   ·have q:decide (x < 0)=true:=Zy J
    go_wp2_with fail;go_ret;refine⟨bY ?_,ao⟩;rw[←HR.out];have aK:k=0∨k=1∨k=2∨k=3:=ω;have hX:=HX.out;unfold eg;rcases aK with rfl | rfl | rfl | rfl <;> (simp at hX;subst hX;simp;omega)
   ·have q:decide (x < 0)=false:=Zn J
    go_wp2_with fail;go_round
    case rel=>exact⟨k+1,ω,by go_num,fun j hj=>by
      rcases ZN j k with H | H
      ·exact I.out j H
      ·obtain rfl:j=k:=ω
       rw[HX.out];omega⟩
    case measure=>simp[intOf];omega
  ·obtain rfl:k=4:=ω
   have L:decide (((4:Nat):Int) < 4)=false:=rfl;have h0:=I.out 0 ω;have H:=I.out 1 ω;have h2:=I.out 2 ω;have h3:=I.out 3 ω;obtain⟨-,-,-,-,c4,c5,c6,-⟩:=kc6 k3;simp only[List.getD_cons_zero,List.getD_cons_succ] at h0 H h2 h3;have aF:Hid ((if t.kd=0 then t.n == 0 && t.l.length == 0 else right t)=r):=by
    show _=_
    rw[←HR.out];unfold eg;simp[h0,H,h2,h3]
   clear h0 H h2 h3
   by_cases ak:t.kd=0
   ·have q:(t.kd == 0)=true:=by simpa using ak
    have z:Hid ((t.n == 0 && t.l.length == 0)=r):=by show _=_;rw[←aF.out,if_pos ak]
    clear ak
    by_cases aw:t.n=0
    ·have q2:(t.n == 0)=true:=by simpa using aw
     obtain⟨b,hb⟩:∃b,((t.l.length:Int) == 0)=b:=⟨_,rfl⟩;have U:Hid (b=r):=by
      show _=_
      rw[←z.out,←hb,q2,Bool.true_and,Bool.eq_iff_iff];simp
     clear aw;go_wp2_with fail;go_ret;refine⟨bY ?_,ao⟩;rw[←U.out,←hb]
    ·have q2:(t.n == 0)=false:=by simpa using aw
     have U:Hid (false=r):=by show _=_;rw[←z.out,q2];rfl
     clear aw;go_wp2_with fail;go_ret;exact⟨bY U.out,ao⟩
   ·have q:(t.kd == 0)=false:=by simpa using ak
    have z:Hid (right t=r):=by show _=_;rw[←aF.out,if_neg ak]
    have hC:=fQ t _ _ ai;rw[z.out] at hC;clear ak z;cases r
    all_goals
     simp only[Bool.false_eq_true,if_true,if_false] at hC;go_wp2_with (go_at_call 122;refine δ hC ?_;intro M ah);go_ret;exact⟨rfl,ao.trans (ah.mono ao.size)⟩
section
structure cC (o:ab) (w:World) (q:Nat) (l:List V) (v:Value):Prop where
 blk:A w q 239 [.bool true,v]
 own:o q=some q
 row:ax (a4 (Fz o w) w) o w q 307 7 v l
 le:l.length≤4096
 oks:∀e∈l,eg e=true
def M (o:ab) (w:World) (q:Nat) (l:List V):Prop:=∃v,cC o w q l v
section
variable {o o':ab} {w w':World} {q:Nat} {l:List V} {v:Value} {K:Nat→Prop}
def a4.kept {e cs} (h:a4 (Fz o w) w e cs) (I:aM K o w o' w') (hs:w.heap.size≤w'.heap.size):a4 (Fz o' w') w' e cs:=h.et (fun _ hg q=>I.cell hg q) fun _ hg=>(I.fz hs hg).1
def cC.kept (h:cC o w q l v) (I:aM K o w o' w') (hs:w.heap.size≤w'.heap.size) (hk:K q):cC o' w' q l v:=by obtain⟨H,h2⟩:=I.blk h.blk h.own hk;exact⟨H,h2,h.row.kept I hk fun _ _ hx=>hx.kept I hs,h.le,h.oks⟩
def M.kept (h:M o w q l) (I:aM K o w o' w') (hs:w.heap.size≤w'.heap.size) (hk:K q):M o' w' q l:=by obtain⟨v,h⟩:=h;exact⟨v,h.kept I hs hk⟩
def cC.below (h:cC o w q l v) (z:Wf o w) (hb:Below (ν w) w w'):cC o w' q l v:=
 h.kept (kB z hb) hb.size trivial
def a4.lt {e cs} (h:a4 (Fz o w) w e cs):a4 (ο w) w e cs:=h.et (fun _ _ _=>rfl) fun _ hg=>hg.2
def oH {e} (h:eg e=true):small e.v=true:=by
 unfold eg at h;rw[Bool.and_eq_true] at h;obtain⟨-,h⟩:=h
 split at h
 ·next hk=>obtain⟨sy,th,br,fl,k,n,l⟩:=e;simp only[Bool.and_eq_true,beq_iff_eq,VT.l,List.length_eq_zero_iff] at h;obtain⟨-,rfl⟩:=h;simp[small,cnt,cP]
 ·exact gR h
end
def iK (o w) (z:Wf o w):Calls prog 225 #[] w fun e w'=>∃q o',e= .returned (π q)∧w.heap.size≤q∧J Θ o w o' w'∧M o' w' q []∧Below (ν w) w w':=by have hb:=am w (.cells #[Υ,ζ] 239);have hI:M (o.set (ν w) (some w.heap.size)) (w.alloc (.cells #[Υ,ζ] 239)) (ν w) []:=⟨_,Zh w _ [Υ,ζ],Zw _ _ _,Yd _ _ _ _ _ _,Z2 _,fun e he=>by simp at he⟩;have U:J Θ o w (o.set (ν w) (some w.heap.size)) (w.alloc (.cells #[Υ,ζ] 239)):=(Zb z hb).BN (Zc _) ξ ξ (.inr (Zc _));go_enter func225,ntmps225;go_wp2_with fail;go_ret;exact⟨_,_,rfl,Zc _,U,hI,hb⟩
def jt (o q l v w) (h:cC o w q l v):Calls prog 115 #[π q] w (μ (.bool false) w):=by have c0:=h.blk.c 0 rfl;go_enter func115,ntmps115;go_wp2_with fail;go_ret;exact⟨rfl,rfl⟩
def sx (o q l v w) (h:cC o w q l v):Calls prog 462 #[π q] w (μ (ι (l.length:Nat)) w):=by obtain⟨a,cap,rfl,-,-,-⟩:=h.row.form;have c1:=h.blk.c 1 rfl;go_enter func462,ntmps462;go_wp2_with fail;go_ret;exact⟨rfl,rfl⟩
def n5 (o q l v i w) (h:cC o w q l v):Calls prog 458 #[π q,ι (i:Nat)] w (μ (.bool (decide (i < l.length))) w):=by obtain⟨a,cap,rfl,-,-,-⟩:=h.row.form;have c1:=h.blk.c 1 rfl;obtain⟨b,hb⟩:∃b,decide (i < l.length)=b:=⟨_,rfl⟩;rw[hb];go_enter func458,ntmps458;go_wp2_with fail;go_ret;exact⟨rfl,rfl⟩
def Y (r:Option V) (w:World) (e:Ending) (w':World):Prop:=Below w.heap.size w w'∧match r with
 | some x=>∃cs,e= .returned (.tuple #[.agg cs.toArray,.bool true])∧a4 (Nw w.heap.size w') w' x cs
 | none=>e= .returned (.tuple #[.agg #[.int .i64 0,.int .i64 0,.int .i64 0,.int .i64 0,.int .i64 0,.int .i64 0,.slice none 0 0],.bool false])
def xV {p q:Prop} (k:q) (h:Zq q→p:=by
 intro mq;have O:=Zh w 307 [ι 0,ι 0,ι 0,ι 0,ι 0,ι 0,ζ];revert O
 exact mq.u):p:=h ⟨k⟩
def xi (o q l i w) (z:Wf o w) (h:M o w q l):Calls prog 438 #[π q,ι (i:Nat)] w (Y l[i]? w):=by
 obtain⟨v,h⟩:=h;have af:=am w (.cells #[ι 0,ι 0,ι 0,ι 0,ι 0,ι 0,ζ] 307);refine xV ?_;intro O;have H:=h.below z af;obtain⟨r,hr⟩:∃r,l[i]? =r:=⟨_,rfl⟩;rw[hr];have ad:decide (i < l.length)=r.isSome:=by
  rw[←hr];cases hlo:l[i]? with
  | none=>simpa using hlo
  | some x=>simpa using (Ze.1 hlo).1
 have L:=n5 o q l v i _ H;have hN:=jt o q l v _ H;rw[ad] at L;have HR:=χ hr;clear ad;cases r with
 | none=>
   go_enter func438,ntmps438;go_upto_region 1 with fail;generalize w.alloc θ=G at *;obtain⟨e0,f0,e1,f1,e2,f2,e3,f3,e4,f4,e5,f5,e6,f6,-⟩:=kb6 O;dsimp only[Option.isSome] at L;go_wp2_with first
    | (go_at_call 115;refine γ hN ?_)
    | (go_at_call 458;refine γ L ?_)
   have hp:=b6 (ι 0) (ι 0) (ι 0) (ι 0) (ι 0) (ι 0) (.slice none 0 0) O;exact Zl (v:= .tuple #[.agg #[ι 0,ι 0,ι 0,ι 0,ι 0,ι 0,ζ],Δ]) (by simp[results,results438,go_sem,hp.c 0 rfl,hp.c 1 rfl,hp.c 2 rfl,hp.c 3 rfl,hp.c 4 rfl,hp.c 5 rfl,hp.c 6 rfl]) rfl ⟨e9 _ _ _ _ _ _ _ af (Zc _),rfl⟩
 | some x=>
   obtain⟨a,cap,rfl,bw,aS,aE⟩:=H.row.form;obtain⟨g,cs,rfl,hg,-,aq,aJ,aI,hE⟩:=aE i x hr;have az:=h.oks x (Zi hr);obtain⟨aD,cx,rfl,hv,aG⟩:=hE;have y0:=aJ 0 ω;have y1:=aJ 1 ω;have y2:=aJ 2 ω;have y3:=aJ 3 ω;have y4:=aJ 4 ω;have y5:=aJ 5 ω;have y6:=aJ 6 ω;have hC:=lS x _ _ ⟨aD,cx,rfl,hv.lt,aG⟩ (oH az);have hi:i < l.length:=(Ze.1 hr).1;have a0:(i:Int) < (l.length:Int):=ω;have c1:=H.blk.c 1 rfl;obtain⟨sy,th,br,fl,t⟩:=x;unfold bu at *;dsimp only at hC hv;simp only[List.getElem?_cons_zero,List.getElem?_cons_succ,Nat.add_zero] at y0 y1 y2 y3 y4 y5 y6;clear hr aJ aI aE;go_enter func438,ntmps438;go_upto_region 1 with fail;generalize w.alloc θ=G at *;dsimp only[Option.isSome] at L;go_wp2_with first
    | (go_at_call 115;refine γ hN ?_)
    | (go_at_call 458;refine γ L ?_)
   refine hC.mono ?_;rintro e E ⟨ba,rfl,ac,a3,c3,rfl,ai,I⟩;dsimp only at ai;have k3:=O.BE ac;clear y0 y1 y2 y3 y4 y5 y6 c1 hC hv;have aT:=O.lt;obtain⟨e0,f0,e1,f1,e2,f2,e3,f3,e4,f4,e5,f5,e6,f6,-⟩:=kb6 k3;unfold bu;dsimp only;go_wp2_with fail;have hp:=b6 (ι sy) (ι th) (ι br) (ι fl) (ι t.kd) (ι t.n) (.slice a3 t.l.length c3) k3;refine Zl (v:= .tuple #[.agg (ε sy th br fl t a3 c3),Υ]) (by simp[results,results438,go_sem,hp.c 0 rfl,hp.c 1 rfl,hp.c 2 rfl,hp.c 3 rfl,hp.c 4 rfl,hp.c 5 rfl,hp.c 6 rfl]) rfl
     ⟨e9 _ _ _ _ _ _ _ (af.trans (ac.mono af.size)) (Zc _),bu ⟨sy,th,br,fl,t⟩ a3 c3,rfl,a3,c3,rfl,?_,I⟩
   exact (ai.et fun g hg o=>jH _ _ _ _ _ _ _ (by have:=hg.1;omega) o).more fun g hg=>⟨by have:=hg.1;omega,by rw[jm];exact hg.2⟩
end
section
section
variable {α:Type} {P P':α→List Value→Prop} {o:ab} {w w':World} {k g cap:Nat} {an:TypeId} {sz:Nat} {v:Value} {l:List α} {xs cs:List Value} {x:α}
def J.frozen {D o o' w w'} (h:J D o w o' w'):aM Θ o w o' w':=h.et fun _ h=>h.elim
def ax.BM (aE:aw o w k an sz v l.length xs) (aX:aD P sz l xs) (z:Wf o w) (E:k < w.heap.size) (hr:aQ w' an sz (.slice (Γ g) (l.length+1) cap) (l.length+1) (xs ++ cs)) (hg:w.grownBy w' v.ownBlock) (ha:v.ownBlock=some g∨g=w.heap.size)
  (hx:P x cs) (hc:cs.length=sz) (hP:aM Θ o w (o.set g (some k)) w'→∀x cs,P x cs→P' x cs) :
  J (·=k) o w (o.set g (some k)) w'∧ax P' (o.set g (some k)) w' k an sz (.slice (Γ g) (l.length+1) cap) (l ++ [x]):=by obtain⟨H,h2⟩:=aE.BM z E hr hg ha;exact⟨H,xs ++ cs,by rw[List.length_append];exact h2,(aX.push hx hc).mono (hP H.frozen)⟩
def ax.BH (h:ax P o w k an sz v l) {b} (hb:v.ownBlock≠some b) (i u) (hP:∀x cs,P x cs→P' x cs):ax P' o (σ w b i u) k an sz v l:=by obtain⟨xs,H,h2⟩:=h;exact⟨xs,H.BH hb i u,h2.mono hP⟩
end
def cC.push {o w w' q g cap l v x xs cs} (h:cC o w q l v) (aE:aw o w q 307 7 v l.length xs) (aX:aD (a4 (Fz o w) w) 7 l xs) (z:Wf o w) (hr:aQ w' 307 7 (.slice (Γ g) (l.length+1) cap) (l.length+1) (xs ++ cs)) (hg:w.grownBy w' v.ownBlock) (ha:v.ownBlock=some g∨g=w.heap.size) (hx:a4 (Fz o w) w x cs) (a9:l.length < 4096) (az:eg x=true) :
  J (·=q) o w (o.set g (some q)) (σ w' q 1 (.slice (Γ g) (l.length+1) cap):World)∧cC (o.set g (some q)) (σ w' q 1 (.slice (Γ g) (l.length+1) cap)) q (l ++ [x]) (.slice (Γ g) (l.length+1) cap):=by
 obtain⟨a,cp,L,hv,aG⟩:=hx;obtain⟨H,h2⟩:=ax.BM (P:=a4 (Fz o w) w) (P':=a4 (Fz (o.set g (some q)) w') w') aE aX z h.blk.lt hr hg ha ⟨a,cp,L,hv,aG⟩ (by rw[L];rfl) fun I _ _ he=>he.kept I hg.size;have M:g≠q:=by
  rintro rfl;rcases ha with e | e
  ·exact bq h.blk aE.row φ e
  ·have:=h.blk.lt;omega
 have E:(o.set g (some q)) q=some q:=by rw[ab.BG _ _ (Ne.symm M)];exact h.own
 have G:A w' q 239 _:=h.blk.fr (S:=fun b=>v.ownBlock=some b) (Yj hg fun b hb=>.inl hb) (bq h.blk aE.row φ);have aq:=Z3 (D:=(·=q)) (z.BD H) E rfl 1 (.slice (Γ g) (l.length+1) cap)
 exact⟨H.same z aq,G.set 1 _,E,h2.BH (fun e=>M (by simpa [Value.ownBlock] using e)) _ _ fun _ _ he=>he.kept aq.frozen aq.size,by rw[List.length_append];exact a9,fun e he=>by
   rcases Zv.1 he with he | he
   ·exact h.oks e he
   ·obtain rfl:e=x:=by simpa using he
    exact az⟩
def cT (r:Except Int (List V)) (o:ab) (w:World) (q:Nat) (l:List V) (e:Ending) (w':World):Prop:=∃o',J (·=q) o w o' w'∧match r with
 | .ok l'=>e= .returned (.int .i64 0)∧M o' w' q l'
 | .error n=>e= .returned (.int .i64 n)∧M o' w' q l
def cT.no {r:Except Int (List V)} {o w w' q l n} (hr:Hid (r= .error n)) (z:Wf o w) (hb:Below (ν w) w w') (h:M o w q l):cT r o w q l (.returned (ι n)) w':=by obtain⟨v,h⟩:=h;rw[hr.out];exact⟨o,Zb z hb,rfl,v,h.below z hb⟩
def cT.yes {r:Except Int (List V)} {o o' w w' q l l'} (hr:Hid (r= .ok l')) (U:J (·=q) o w o' w') (h:M o' w' q l'):cT r o w q l (.returned (ι 0)) w':=by rw[hr.out];exact⟨o',U,rfl,h⟩
def ww (o q l x gx cs w) (z:Wf o w) (h:M o w q l) (aj:A w gx 307 cs) (hx:a4 (Fz o w) w x cs) :
  Calls prog 454 #[π q,.slice (Γ gx) 1 1] w (cT (bV l x) o w q l):=by
 have H0:=χ h;obtain⟨v,h⟩:=h;have hN:=jt o q l v w h;obtain⟨r,hr⟩:∃r,bV l x=r:=⟨_,rfl⟩;rw[hr];have HR:=χ hr;obtain⟨sy,th,br,fl,t⟩:=x;have HX:=χ hx;obtain⟨aD,cx,rfl,hv,aG⟩:=hx;unfold bu at aj;dsimp only at aj hv aG;obtain⟨y0,y1,y2,y3,y4,y5,y6,-⟩:=kc6 aj;obtain⟨ok,az⟩:∃ok,eg ⟨sy,th,br,fl,t⟩=ok:=⟨_,rfl⟩;have ay:=χ az;clear hr az;go_enter func454,ntmps454;go_wp2_with fail;refine fV 0 rfl ?_;go_wp2_with (go_at_call 115;refine γ hN ?_);go_loopw [5,7,12] (fun s5 _ ix wr=>s5= .int .i64 0∧((ix= .int .i64 0∧w=wr)∨(ix= .int .i64 1∧cT r o w q l (.returned (ι 0)) wr))) (fun _ _ ix _=>1 - (intOf ix).toNat)
 case atStart=>exact⟨rfl,.inl ⟨rfl,rfl⟩⟩
 case round=>
  obtain⟨rfl,hrel⟩:=hrel;rcases hrel with ⟨rfl,rfl⟩ | ⟨rfl,hE⟩
  ·have af:=am w (.cells #[ι sy,ι th,ι br,ι fl,ι t.kd,ι t.n,.slice aD t.l.length cx] 307)
   have O:=Zh w 307 [ι sy,ι th,ι br,ι fl,ι t.kd,ι t.n,.slice aD t.l.length cx];have H:=h.below z af;have ae:=z.below af;have ak:J (·=q) o w o _:=Zb z af;have aC:a4 (Fz o _) _ ⟨sy,th,br,fl,t⟩ (bu ⟨sy,th,br,fl,t⟩ aD cx):=HX.out.kept ak.frozen ak.size;have hV:=pF ⟨sy,th,br,fl,t⟩ _ _ aC.lt;unfold bu at hV;dsimp only at hV;rw[ay.out] at hV;go_upto_region 7 with fail;clear y0 y1 y2 y3 y4 y5 y6 aj;generalize w.alloc (ε sy th br fl t aD cx)=G at *;obtain⟨c0,c1,c2,c3,c4,c5,c6,-⟩:=kc6 O;cases ok with
   | false=>
     have HN:Hid (r= .error 2):=by show _=_;rw[←HR.out,bV,if_pos ay.out]
     go_wp2_with (go_at_call 461;refine δ hV ?_;intro E ac);go_step3;refine⟨rfl,?_⟩;go_wp2_with fail;rw[Exit.noGoto_ret];go_ret;exact cT.no HN z (af.trans (ac.mono af.size)) H0.out
   | true=>
     go_wp2_with (go_at_call 461;refine δ hV ?_;intro E ac);have h3:=H.below ae ac;have ax:=ae.below ac;have ag:J (·=q) o w o E:=ak.same z (Zb ae ac);have ao:=af.trans (ac.mono af.size);have aL:a4 (Fz o E) E ⟨sy,th,br,fl,t⟩ (bu ⟨sy,th,br,fl,t⟩ aD cx):=HX.out.kept ag.frozen ag.size;have k3:=O.BE ac;have hC:=sx o q l v E h3;clear c0 c1 c2 c3 c4 c5 c6 hV O H ak ac aC;obtain⟨L,hL⟩:∃L,l.length=L:=⟨_,rfl⟩;rw[hL] at hC;have HL:=χ hL
     by_cases aO:4096≤L
     ·have q1:decide ((4096:Int)≤(L:Int))=true:=Zy ω
      have HN:Hid (r= .error 6):=by
       show _=_
       rw[←HR.out,bV,if_neg (by rw[ay.out];simp),if_pos (by rw[hL];exact aO)]
      clear hL;go_wp2_with (go_at_call 462;refine γ hC ?_);go_step3;refine⟨rfl,?_⟩;go_wp2_with fail;rw[Exit.noGoto_ret];go_ret;exact cT.no HN z ao H0.out
     ·have q1:decide ((4096:Int)≤(L:Int))=false:=Zn ω
      have HN:Hid (r= .ok (l ++ [⟨sy,th,br,fl,t⟩])):=by
       show _=_
       rw[←HR.out,bV,if_neg (by rw[ay.out];simp),if_neg (by rw[hL];exact aO)]
      obtain⟨xs,aE,aX⟩:=h3.row;obtain⟨va,V,rfl,aA,aS,-⟩:=aE.row.form;have aY:=lS ⟨sy,th,br,fl,t⟩ _ E.drew (aL.lt.et (w':=E.drew) (ok':=(· < E.drew.heap.size)) (fun _ _ _=>rfl) fun _ hg=>hg) (oH ay.out);unfold bu at aY;dsimp only at aY;have c1:=h3.blk.c 1 rfl;rw[hL] at c1 aA;have aF:=χ aE;have bZ:=χ aX;have H3:=χ h3;clear hL aL aE aX h3 h;go_upto_region 11 with (go_at_call 462;refine γ hC ?_);obtain⟨d0,d1,d2,d3,d4,d5,d6,-⟩:=kc6 k3;go_region_law
       (first
         | (refine hT _ (by rfl) _ _ _ 307 _ 7 72 underlying234 i0 rfl φ φ (by rfl) (.slice va L V) L xs (by rfl) a1.row
             w9.heap.size [ι sy,ι th,ι br,ι fl,ι t.kd,ι t.n,.slice a9 t.l.length c9] (by rfl) (ZP w9 _) rfl (by simp[Value.oneCell']) ω ?_;intro gg aR w8 aH Z aV ad;have a':w8.frozen? (κ q 1)=false:=(Z.frozen_far ⟨q,1,none⟩ Ξ (Yv aq)).trans aB;have be:w8.cell? (κ q 1)=some (.slice va L V):=(Z.cell_far ⟨q,1,none⟩ Ξ (Yv aq)).trans aJ)
         | (go_simp;go_at_call 159;refine aY.mono ?_
            rintro e w9 ⟨aI,rfl,aT,a9,c9,rfl,ai,aZ⟩;have bb:Below (ν E) E w9:=(Zj _ _).drew.trans aT;have ap:aw o w9 q 307 7 (.slice va L V) L xs:=by have:=aF.out;rw[HL.out] at this;exact⟨this.row.et fun g _ hg=>bb.block g hg,this.own⟩
            have a1:aw o (w9.alloc (ε sy th br fl t a9 c9)) q 307 7 (.slice va L V) L xs:=⟨ap.row.et fun g _ hg=>Yl w9 _ g hg,ap.own⟩;have h9:=H3.out.below ax bb;rw[HL.out] at h9;have aW:=h9.blk.c 1 rfl;have a3:=h9.blk.lt;have aq:(Value.slice va L V).ownBlock≠some q:=bq h9.blk ap.row φ;have aQ:=h9.blk.alloc (ε sy th br fl t a9 c9);obtain⟨-,-,aJ,aB,-⟩:=kb1 aQ;unfold bu
            dsimp only))
      all_goals
       have e:=HL.out;subst e;have I:=ax.below bb;have Y:J (·=q) o w o w9:=ag.same z (Zb ax bb);have a6:=am w9 (.cells #[ι sy,ι th,ι br,ι fl,ι t.kd,ι t.n,.slice a9 t.l.length c9] 307);have aN:J (·=q) o w o _:=Y.same z (Zb I a6);have U:=h9.below I a6;have aM:=I.below a6;have aK:=(tB ax (bb.trans (a6.mono bb.size))).frozen;have a0:a4 (Fz o w9) w9 ⟨sy,th,br,fl,t⟩ (bu ⟨sy,th,br,fl,t⟩ a9 c9):=⟨a9,c9,rfl,ai.more fun g hg=>⟨ax.ge hg.1,hg.2⟩,aZ⟩;have aP:=a0.kept (tB I a6).frozen a6.size;obtain⟨aa,ah⟩:=U.push a1 (bZ.out.mono fun _ _ he=>he.kept aK (bb.trans (a6.mono bb.size)).size) aM aH Z aV aP ω ay.out;have HE:=cT.yes (l:=l) HN (aN.same z aa) ⟨_,ah⟩;have aU:=χ HE;clear I Y a6 aN U aM a1 aK aP aa ah HE aH Z aV aJ aB aQ aq ap h9 a' be aW d0 d1 d2 d3 d4 d5 d6 c1;go_wp2_with fail;go_roundw
       case' rel=>exact⟨rfl,.inr ⟨rfl,aU.out⟩⟩
       case' measure=>decide
  ·have HE:=χ hE
   clear hE;go_wp2_with fail;go_step3;go_wp2_with fail;rw[Exit.BS];go_ret;exact HE.out
end
section
def f' {P} (w) {E o a K Q an} (hgd:o.guard=none) (s x:Operand) (t tn) (M:o.op= .call {callee:= .builtin .append,args:=#[s,x],argTypes:=#[t,tn]}) (vs vx) (hs:a.eval s=vs) (hx:a.eval x=vx) (v' w') (hr:(Builtin.append_ #[t,tn] o.type #[vs,vx]).run P w= .ok v' w') (h:K (a.put o.dst v') w'):if Region.wanted o (yielded E a.tmps)=true then Oper.wp P o a w K Q else an:=by
 have z:Region.wanted o (yielded E a.tmps)=true:=by simp[Region.wanted,hgd]
 rw[if_pos z];exact Lib.wp_append_run w s x t tn M _ _ hs hx _ _ hr h
section
variable {P:Program} (w:World)
def rZ (t E e) (i:TypeInfo) (ht:P.underlying t=some (.slice e)) (hi:P.info? e=some i) (g U n m):(Builtin.append_ #[t,t] E #[.slice (Γ g) n n,.slice (some ⟨g,U,none⟩) 0 m]).run P w= .ok (.slice (Γ g) n n) w:=by simp[Builtin.append_,run_underlying ht,sizeOf,typeInfo,hi,Builtin.lenOf,Builtin.firstCells,loadCells,loadCellsFrom,storeCells]
def mA (t E e O sz by_) (ht:P.underlying t=some (.slice e)) (G:(P.info? e).map (fun i=>(i.zero,i.size,i.bytes))=some (some O,sz,by_)) (V:O.cells.size=sz) (h0:0 < sz) (bb:by_≤1000) (g n cap xs) (aE:aQ w e sz (.slice (Γ g) n cap) n xs) (i c U) (hi:i < n) (hl:n≤10000000000) (M:0 < n - (i+1)→U=(i+1)*sz) :
    ∃v' w',(Builtin.append_ #[t,t] E #[.slice (Γ g) i i,.slice (some ⟨g,U,none⟩) (n - (i+1)) c]).run P w= .ok v' w'∧aQ w' e sz v' (n - 1) (xs.take (i*sz) ++ xs.drop ((i+1)*sz))∧w.grownBy w' none∧(v'.ownBlock=some g∨v'.ownBlock=some w.heap.size):=by
  obtain⟨h,L,hz,hs,hb⟩:=cq G;subst hs;subst hb;have a8:=aE.1;have aZ:(i+1)*h.size≤n*h.size:=ZF _ hi;have Y:i*h.size≤(i+1)*h.size:=ZF _ ω
  by_cases hm:n - (i+1)=0
  ·rw[hm]
   refine⟨_,w,rZ w t E e h ht L g U i c,?_,⟨rfl,rfl,rfl,Zc _,fun _ _ _=>rfl⟩,.inl rfl⟩
   have hc:=aE.cut (m:=i) (c:=i) ω (Zc _) (by
    obtain⟨a,cp,H,h2,-⟩:=aE.form;injection H with _ _ h3
    omega)
   rw[show n - 1=i by omega,List.drop_of_length_le (by rw[a8,show n=i+1 by omega];exact Nat.le_refl _),List.append_nil];exact hc
  ·have aJ:∀j u,xs[j]? =some u→w.cell? (κ g j)=some u:=fun j u hu=>by
    obtain⟨a,cp,H,-,-,h2⟩:=aE.form;obtain⟨g',h3,-,h4,-⟩:=h2 j u hu;injection H with e1 _ _;rw[h3] at e1;injection e1 with e1;injection e1 with e1 _ _;subst e1;exact h4
   obtain rfl:=M ω;have J:∀b j,(⟨g,b,none⟩:Addr).add j=⟨g,b+j,none⟩:=fun b j=>by unfold Addr.add;split <;> simp_all
   have A:(xs.take (i*h.size)).length=i*h.size:=by rw[List.length_take,a8];omega
   have bc:(xs.drop ((i+1)*h.size)).length=(n - (i+1))*h.size:=by rw[List.length_drop,a8,Nat.sub_mul]
   have I:(i+(n - (i+1)))=n - 1:=ω;have z:(n - 1)*h.bytes≤140737488355328:=by
    calc (n - 1)*h.bytes≤10000000001*1000:=Nat.mul_le_mul ω bb
     _≤140737488355328:=by decide
   have hr:=run_append_grow (P:=P) w t E e h O ht L hz ⟨g,0,none⟩ i i (xs.take (i*h.size)) A
    (fun j u hu=>by rw[J,Nat.zero_add];rw[List.getElem?_take] at hu;split at hu;(exact aJ j u hu);cases hu) ⟨g,(i+1)*h.size,none⟩ (n - (i+1)) c (xs.drop ((i+1)*h.size)) bc
    (fun j u hu=>by rw[J];rw[List.getElem?_drop] at hu;exact aJ _ u hu) ω ω (by rw[I];exact growslice_fits ω z)
   rw[I] at hr;have Z:=grownCap_ge w (n - 1) i e;have aS:grownCap w (n - 1) i e≤maxLen:=ZQ w (n - 1) i e (by unfold maxLen;omega);have aI:(xs.take (i*h.size) ++ xs.drop ((i+1)*h.size)).length=(n - 1)*h.size:=by rw[List.length_append,A,bc,←Nat.add_mul,I]
   refine⟨_,_,hr,⟨aI,.inr ⟨w.heap.size,_,_,rfl,ZP w.drew _,Z,aS,?_,?_⟩⟩,⟨rfl,rfl,rfl,by simp,fun k hk _=>Yl w.drew _ k hk⟩,.inr rfl⟩
   ·simp only[Array.size_append,List.size_toArray,size_zeroCells,V,A,bc,←Nat.add_mul]
    exact ZF _ ω
   ·simp only[Array.toList_append,List.append_assoc]
    rw[←List.append_assoc,←aI];exact Yk
end
def cC.dropped {o w w' q i l v v' xs} (h:cC o w q l v) (aE:aw o w q 307 7 v l.length xs) (aX:aD (a4 (Fz o w) w) 7 l xs) (z:Wf o w) (hi:i < l.length) (hr:aQ w' 307 7 v' (l.length - 1) (xs.take (i*7) ++ xs.drop ((i+1)*7))) (hg:w.grownBy w' none) (ha:v'.ownBlock=v.ownBlock∨v'.ownBlock=some w.heap.size) :
  ∃o',J (·=q) o w o' (σ w' q 1 v':World)∧cC o' (σ w' q 1 v') q (l.eraseIdx i) v':=by
 have aR:Below (ν w) w w':=⟨hg.os,hg.tape,hg.output,hg.size,fun k hk=>hg.block k hk ξ⟩;have an:J (·=q) o w o w':=Zb z aR;have V:=h.blk.lt;have G:A w' q 239 _:=h.blk.BE aR;have I:v'.ownBlock≠some q:=bq G hr φ;obtain⟨o',ak,E,H⟩:∃o',J (·=q) o w o' w'∧o' q=some q∧∀g,v'.ownBlock=some g→o' g=some q:=by
  rcases ha with e | e
  ·exact⟨o,an,h.own,fun g hg=>aE.own g (by rw[←e];exact hg)⟩
  ·have ad:=hr.lt e
   exact⟨o.set (ν w) (some q),an.BN (Zc _) ad (by have:=aR.size;omega) (.inl rfl),by rw[ab.BG _ _ ω];exact h.own,fun g hg=>by rw[e] at hg;cases hg;exact Zw _ _ _⟩
 have aq:=Z3 (D:=(·=q)) (z.BD ak) E rfl 1 v';have U:=ak.same z aq;have L:aD (a4 (Fz o w) w) 7 (l.eraseIdx i) (xs.take (i*7) ++ xs.drop ((i+1)*7)):=by rw[List.eraseIdx_eq_take_drop_succ];exact (aX.take i).app (aX.drop (i+1))
 have a9:(l.eraseIdx i).length=l.length - 1:=by rw[List.length_eraseIdx,if_pos hi]
 refine⟨o',U,G.set 1 v',E,⟨_,⟨?_,H⟩,L.mono fun _ _ he=>he.kept U.frozen U.size⟩,by have:=h.le;omega,fun e he=>h.oks e (List.mem_of_mem_eraseIdx he)⟩;rw[a9];exact hr.et fun g hg _=>Z0 _ _ _ _ (fun e=>I (by rw[hg,e]))
def cz (r:Option V) (l':List V) (o:ab) (w:World) (q:Nat) (e:Ending) (w':World):Prop:=∃o',J (·=q) o w o' w'∧M o' w' q l'∧match r with
 | some x=>∃cs,e= .returned (.tuple #[.agg cs.toArray,.bool true])∧a4 (Fz o' w') w' x cs
 | none=>e= .returned (.tuple #[.agg #[.int .i64 0,.int .i64 0,.int .i64 0,.int .i64 0,.int .i64 0,.int .i64 0,.slice none 0 0],.bool false])
def Fr.CS {S w b} (hb:S b) (v0 v1 v2 v3 I v5 v6):Fr S w (dp w b v0 v1 v2 v3 I v5 v6):=by have h:∀(w1:World) (i:Nat) (u:Value),Fr S w1 (σ w1 b i u):=fun w1 i u=>Z4 (.inl hb);exact ((((((h w 0 v0).same (h _ 1 v1)).same (h _ 2 v2)).same (h _ 3 v3)).same (h _ 4 I)).same (h _ 5 v5)).same (h _ 6 v6)
def J.box {o w} (z:Wf o w) (x):J Θ o w (o.set (ν w) (some w.heap.size)) (w.alloc x):=(Zb z (am w x)).BN (Zc _) ξ ξ (.inr (Zc _))
def J.owned {D o o' w w'} (h:J D o w o' w') {b k} (hb:b < w.heap.size) (M:o b=some k) (hk:¬D k):o' b=some k:=by
 rcases h.old b hb with e | ⟨-,k',e,hd⟩
 ·rw[e];exact M
 ·rw[M] at e;cases e;exact absurd hd hk
def yb {p q:Prop} (k:q) (h:Zq q→p:=by
 intro mq;have an:=J.box z (.cells #[ι 0,ι 0,ι 0,ι 0,ι 0,ι 0,ζ] 307);revert an
 exact mq.u):p:=h ⟨k⟩
def zz {p:Prop} (h:p:=by
 have aO:=ax.below aV;obtain⟨o',V,aH⟩:=(h3.below ax aV).dropped (w':=w8) ⟨ai,aB.own⟩ (aP.mono fun _ _ he=>he.kept (tB ax aV).frozen aV.size) aO hi Z U (by rcases iq aM with e | e;(exact .inl e);exact .inr e);have aa:=(aL.kept (tB ax aV).frozen aV.size).kept V.frozen V.size;have aK:=V.fr.block (ν G) k6.lt (by rintro ⟨k,hk,-⟩;rw[ap.ge (Nat.le_refl _)] at hk;cases hk);have aN:=V.fr.block (ν w) I.lt (by rintro ⟨k,hk,bM⟩;rw[aU] at hk;cases hk;omega);have K6:A (σ w8 q 1 (.slice av (l.length - 1) cv)) (ν G) 307 _:=aK.trans k6;have K0:A (σ w8 q 1 (.slice av (l.length - 1) cv)) (ν w) 307 _:=aN.trans I;have az:=(an.more (D':=(·=q)) z fun _ _ h=>h.elim).same z ((Zb ap aA).same ap ((Zb ax aV).same ax V));have aj:=χ az;have aT:=χ aH;have aR:=χ aa;have aC:o' w.heap.size=some w.heap.size:=V.owned (b:=w.heap.size) I.lt aU ω;have ay:=χ aC;clear V aH aa az aC aK aN ai Z U aM k6 I aB aP aL aY;go_cut [26] from 26 to 47 (fun _ wx=>wx=w8.setCell ⟨q,1,none⟩ (.slice av (l.length - 1) cv))
 case first=>
  go_region_law (refine f' _ (by rfl) _ _ _ _ (by rfl) _ _ (by rfl) (by rfl) _ _ bi ?_)
  all_goals
   go_wp2_with fail;go_meet;rfl
 case rest=>
  subst hcut;clear bi a' be c1 f1 h3 ax aV aO;generalize (σ w8 q 1 (.slice av (l.length - 1) cv):World)=w9 at *;obtain⟨d0,d1,d2,d3,d4,d5,d6,-⟩:=kc6 K6;obtain⟨e0,f0,e1,f1,e2,f2,e3,f3,e4,f4,e5,f5,e6,f6,-⟩:=kb6 K0;go_wp2_with fail;clear aW;have hp:=b6 (ι sy) (ι th) (ι br) (ι fl) (ι t.kd) (ι t.n) (.slice aD t.l.length cx) K0;have aF:=z.BD aj.out;have ah:J (·=w.heap.size) o' w9 o' (dp w9 (ν w) (ι sy) (ι th) (ι br) (ι fl) (ι t.kd) (ι t.n) (.slice aD t.l.length cx)):=
   Z9 aF (Fr.CS (S:=(·=w.heap.size)) rfl _ _ _ _ _ _ _) fun b _ hb=>⟨w.heap.size,by rw[hb];exact ay.out,rfl⟩
  refine Zl (v:= .tuple #[.agg (ε sy th br fl t aD cx),Υ]) (by simp[results,results451,go_sem,hp.c 0 rfl,hp.c 1 rfl,hp.c 2 rfl,hp.c 3 rfl,hp.c 4 rfl,hp.c 5 rfl,hp.c 6 rfl]) rfl
    ⟨o',aj.out.trans z ah (fun k hk e=>by omega),⟨_,aT.out.kept (ah.et (K:=(·≠w.heap.size)) fun _ h=>h) ah.size ω⟩,_,rfl,aR.out.kept ah.frozen ah.size⟩):p:=h
def xl (o q l i w) (z:Wf o w) (h:M o w q l):Calls prog 451 #[π q,ι (i:Nat)] w (cz l[i]? (l.eraseIdx i) o w q):=by
 obtain⟨v,h⟩:=h;have af:=am w (.cells #[ι 0,ι 0,ι 0,ι 0,ι 0,ι 0,ζ] 307);refine xV ?_;intro O;refine yb ?_;intro an;have aU:(o.set (ν w) (some w.heap.size)) w.heap.size=some w.heap.size:=Zw _ _ _;have H:=h.kept (an.kp) an.size trivial;have ae:=z.BD an;generalize o.set (ν w) (some w.heap.size)=o1 at *;have a5:=h.blk.lt;obtain⟨r,hr⟩:∃r,l[i]? =r:=⟨_,rfl⟩;rw[hr];have ad:decide (i < l.length)=r.isSome:=by
  rw[←hr];cases hlo:l[i]? with
  | none=>simpa using hlo
  | some x=>simpa using (Ze.1 hlo).1
 have L:=n5 o1 q l v i _ H;have hN:=jt o1 q l v _ H;rw[ad] at L;have HL:=χ h.le;have HR:=χ hr;clear ad;cases r with
 | none=>
   have hE:Hid (l.eraseIdx i=l):=by
    show _=_
    exact List.eraseIdx_of_length_le (by simpa using hr)
   clear hr;go_enter func451,ntmps451;go_upto_region 1 with fail;generalize w.alloc θ=G at *;obtain⟨e0,f0,e1,f1,e2,f2,e3,f3,e4,f4,e5,f5,e6,f6,-⟩:=kb6 O;dsimp only[Option.isSome] at L;go_wp2_with first
    | (go_at_call 115;refine γ hN ?_)
    | (go_at_call 458;refine γ L ?_)
   have hp:=b6 (ι 0) (ι 0) (ι 0) (ι 0) (ι 0) (ι 0) (.slice none 0 0) O;have ao:=e9 (ι 0) (ι 0) (ι 0) (ι 0) (ι 0) (ι 0) (.slice none 0 0) af (Zc _);exact Zl (v:= .tuple #[.agg #[ι 0,ι 0,ι 0,ι 0,ι 0,ι 0,ζ],Δ]) (by simp[results,results451,go_sem,hp.c 0 rfl,hp.c 1 rfl,hp.c 2 rfl,hp.c 3 rfl,hp.c 4 rfl,hp.c 5 rfl,hp.c 6 rfl]) rfl ⟨o,Zb z ao,⟨v,by rw[hE.out];exact h.below z ao⟩,rfl⟩
 | some x=>
   obtain⟨xs,aE,aX⟩:=H.row;obtain⟨a,cap,rfl,bw,aS,bD⟩:=H.row.form;obtain⟨g,cs,rfl,hg,-,aq,aJ,aI,hE⟩:=bD i x hr;obtain⟨aD,cx,rfl,hv,aG⟩:=hE;have y0:=aJ 0 ω;have y1:=aJ 1 ω;have y2:=aJ 2 ω;have y3:=aJ 3 ω;have y4:=aJ 4 ω;have y5:=aJ 5 ω;have y6:=aJ 6 ω;have hi:i < l.length:=(Ze.1 hr).1;have a0:(i:Int) < (l.length:Int):=ω;have c1:=H.blk.c 1 rfl;obtain⟨sy,th,br,fl,t⟩:=x;unfold bu at *;dsimp only at hv;simp only[List.getElem?_cons_zero,List.getElem?_cons_succ,Nat.add_zero] at y0 y1 y2 y3 y4 y5 y6;have ak:=HL.out;unfold maxLen at aS;clear hr aJ aI bD;go_enter func451,ntmps451;go_upto_region 1 with fail;generalize a7:w.alloc θ=G at *;clear a7;dsimp only[Option.isSome] at L;go_upto_region 4 with first
    | (go_at_call 115;refine γ hN ?_)
    | (go_at_call 458;refine γ L ?_)
   have ac:=am G (.cells #[ι sy,ι th,ι br,ι fl,ι t.kd,ι t.n,.slice aD t.l.length cx] 307);have k6:=Zh G 307 [ι sy,ι th,ι br,ι fl,ι t.kd,ι t.n,.slice aD t.l.length cx];have I:=O.BE ac;have h3:=H.below ae ac;have ax:=ae.below ac;have aB:aw o1 (G.alloc (ε sy th br fl t aD cx)) q 307 7 (.slice (Γ g) l.length cap) l.length xs:=⟨aE.row.et fun g _ hg=>ac.block g hg,aE.own⟩;have ag:=(tB ae ac).frozen;have aP:=aX.mono fun _ _ he=>he.kept ag ac.size;have aL:a4 (Fz o1 (G.alloc (ε sy th br fl t aD cx))) (G.alloc (ε sy th br fl t aD cx)) ⟨sy,th,br,fl,t⟩ (bu ⟨sy,th,br,fl,t⟩ aD cx):=a4.kept ⟨aD,cx,rfl,hv,aG⟩ ag ac.size;have aA:=ac;have ap:=ae;clear y0 y1 y2 y3 y4 y5 y6 c1 ac H ae aE aX ag hN L O hv af;generalize G.alloc (ε sy th br fl t aD cx)=E at *;obtain⟨-,-,c1,f1,-⟩:=kb1 h3.blk;have aW:IntKind.i64.wrap ((i:Int)+1)=((i+1:Nat):Int):=(IntWalk.i64_in _ ω).trans ω;have a9:i≤cap:=ω;have a1:(i:Int)≤(cap:Int):=ω;have a3:(0:Int)≤(i:Int)+1:=ω;have a6:(i:Int)+1≤(l.length:Int):=ω;have ai:aQ E.drew 307 7 (.slice (Γ g) l.length cap) l.length xs:=aB.row.et fun _ _ _=>rfl;have aY:(Value.slice (Γ g) l.length cap).ownBlock≠some q:=bq h3.blk aB.row φ
   by_cases Y:cap=i+1
   ·subst Y
    have aZ:0 < l.length - (i+1)→0=(i+1)*7:=fun h=>by omega
    have a8:(i:Int)≤(i:Int)+1:=ω;obtain⟨v',w8,bi,Z,U,aM⟩:=mA (P:=prog) E.drew 234 234 307 _ 7 72 underlying234 i0 rfl φ φ g l.length (i+1) xs ai i 0 0 hi ω aZ;rw[show l.length - (i+1)=0 by omega] at bi;clear aZ;obtain⟨av,cv,rfl,-⟩:=Z.form;have a':w8.frozen? (κ q 1)=false:=(U.frozen_far ⟨q,1,none⟩ h3.blk.lt ξ).trans (h3.blk.fz 1);have be:w8.cell? (κ q 1)=some (.slice (Γ g) l.length (i+1)):=(U.cell_far ⟨q,1,none⟩ h3.blk.lt ξ).trans (h3.blk.c 1 rfl);have aV:Below (ν E) E E.drew:=(Zj _ _).drew;exact zz
   ·obtain⟨v',w8,bi,Z,U,aM⟩:=mA (P:=prog) E.drew 234 234 307 _ 7 72 underlying234 i0 rfl φ φ g l.length cap xs ai i (cap - (i+1)) ((i+1)*7) hi ω (fun _=>rfl)
    obtain⟨av,cv,rfl,-⟩:=Z.form;have a':w8.frozen? (κ q 1)=false:=(U.frozen_far ⟨q,1,none⟩ h3.blk.lt ξ).trans (h3.blk.fz 1);have be:w8.cell? (κ q 1)=some (.slice (Γ g) l.length cap):=(U.cell_far ⟨q,1,none⟩ h3.blk.lt ξ).trans (h3.blk.c 1 rfl);have aV:Below (ν E) E E.drew:=(Zj _ _).drew;exact zz
def ya {p q:Prop} (k:q) (h:Zq q→p:=by
 intro mq;refine xP ?_;intro K I;refine I _ _ _ Φ (fun h=>(ZR (h.symm.trans ψ)).elim) ?_;revert K I
 exact mq.u):p:=h ⟨k⟩
def xY {p q:Prop} (k:q) (h:Zq q→p:=by
 intro mq;refine ya ?_;intro K I;clear I K;try go_frame
 refine bn ?_
 exact mq.u):p:=h ⟨k⟩
def ZJ:=@J.box
end
section
section
variable {P:Program}
def lX {T} {Z:IntKind} (U:P.underlying T=some (.int Z)) (b n) (k:IntKind) (i w):(Instr.checkKey b (n+1) T (.int k i)).run P w= .ok () w:=by rw[Instr.checkKey];simp[run_underlying U]
def f3 {T K an} {Z:IntKind} (U:P.underlying T=some (.map K an)) (I:P.underlying K=some (.int Z)) {w m z j} {es:Array MapEntry} {i v} (M:w.heap[m]? =some (.map es z)) (hf:Instr.findNow (.int Z) (.int Z i) es.toList 0=some (some (j,v))) :
  (Instr.lookup T (.map (some m)) (.int Z i) false).run P w= .ok v w∧(Instr.lookup T (.map (some m)) (.int Z i) true).run P w= .ok (.tuple #[v,Υ]) w:=by
 have ck:∀b w,(Instr.checkKey b 10000 K (.int Z i)).run P w= .ok () w:=fun b w=>lX I b 9999 Z i w
 constructor <;> simp[Instr.lookup,run_underlying U,MapKept.run_getObj_map M,ck,Instr.findKey,run_underlying I,hf,Result.andThen]
def cm (w:World) (m:Nat) (o:Obj):World:={w with heap:=w.heap.setIfInBounds m o}
def kw {w m} (h:m < w.heap.size) (o):(cm w m o).heap[m]? =some o:=by simp[cm,h]
def n4 {w m g} (h:g≠m) (o):(cm w m o).heap[g]? =w.heap[g]? :=by simp[cm,Ne.symm h]
def j1 (w m o):(cm w m o).heap.size=w.heap.size:=by simp[cm]
def qU {B w w1} (h:Below B w w1) {m} (hm:B≤m) (o):Below B w (cm w1 m o):=⟨h.os,h.tape,h.output,by rw[j1];exact h.size,fun k hk=>(n4 ω o).trans (h.block k hk)⟩
def i8 {T K an} {Z:IntKind} (U:P.underlying T=some (.map K an)) (I:P.underlying K=some (.int Z)) {w m z} {es:Array MapEntry} {i v} (M:w.heap[m]? =some (.map es z)) (hf:Instr.findNow (.int Z) (.int Z i) es.toList 0=some none) :
  (Instr.mapUpdate T (.map (some m)) (.int Z i) v).run P w= .ok () (cm w m (.map (es.push ⟨.int Z i,v,z⟩) (z+1))):=by have ck:∀b w,(Instr.checkKey b 10000 K (.int Z i)).run P w= .ok () w:=fun b w=>lX I b 9999 Z i w;simp[Instr.mapUpdate,run_underlying U,MapKept.run_getObj_map M,ck,Instr.findKey,run_underlying I,hf,MapKept.run_setObj_map _ M,Result.andThen,cm]
end
def fM (w:World) (m sq rq:Nat):Prop:=∃b0 b1 z,w.heap[m]? =some (.map #[⟨.int .i64 1,.pointer (some ⟨sq,0,none⟩),b0⟩,⟨.int .i64 2,.pointer (some ⟨rq,0,none⟩),b1⟩] z)
def fM.CX {w m sq rq} (h:fM w m sq rq):(Instr.lookup 179 (.map (some m)) (ι 1) false).run prog w= .ok (π sq) w:=by obtain⟨b0,b1,z,h⟩:=h;exact (f3 underlying179 underlying182 h (j:=0) rfl).1
def fM.CT {w m sq rq} (h:fM w m sq rq):(Instr.lookup 179 (.map (some m)) (ι 2) false).run prog w= .ok (π rq) w:=by obtain⟨b0,b1,z,h⟩:=h;exact (f3 underlying179 underlying182 h (j:=1) rfl).1
def sd (send:Bool):Int:=if send then 1 else 2
def aZ (send:Bool) (sq rq:Nat):Nat:=if send then sq else rq
structure aq (o:ab) (w:World) (c:Nat) (x:dN) (m sq rq:Nat):Prop where
 blk:A w c 181 [.int .i64 (x.at_:Nat),.map (some m)]
 fc:o c=none
 map:fM w m sq rq
 fm:o m=none
 qs:M o w sq x.sq
 qr:M o w rq x.rq
 ne:sq≠rq
section
variable {o o':ab} {w w':World} {c m sq rq:Nat} {x:dN} {K:Nat→Prop}
def aM.map (I:aM K o w o' w') (h:fM w m sq rq) (hm:o m=none):fM w' m sq rq∧o' m=none:=by obtain⟨b0,b1,z,h⟩:=h;obtain⟨H,h2⟩:=I m (aO h) (fun k hk=>by rw[hm] at hk;cases hk);exact⟨⟨b0,b1,z,H.trans h⟩,h2.trans hm⟩
def aM.BF (I:aM K o w o' w') {g t cs} (hb:A w g t cs) (hg:o g=none):A w' g t cs∧o' g=none:=by obtain⟨H,h2⟩:=I g hb.lt (fun k hk=>by rw[hg] at hk;cases hk);exact⟨H.trans hb,h2.trans hg⟩
def aq.kept (h:aq o w c x m sq rq) (I:aM K o w o' w') (hs:w.heap.size≤w'.heap.size) (H:K sq) (h2:K rq):aq o' w' c x m sq rq:=by obtain⟨a1,a2⟩:=I.BF h.blk h.fc;obtain⟨b1,b2⟩:=I.map h.map h.fm;exact⟨a1,a2,b1,b2,h.qs.kept I hs H,h.qr.kept I hs h2,h.ne⟩
def aq.below (h:aq o w c x m sq rq) (z:Wf o w) (hb:Below (ν w) w w'):aq o w' c x m sq rq:=
 h.kept (kB z hb) hb.size trivial trivial
def aq.side (h:aq o w c x m sq rq) (send):M o w (aZ send sq rq) (aJ x send):=by
 cases send
 ·exact h.qr
 ·exact h.qs
def aq.Ch (h:aq o w c x m sq rq) (send) {l} (U:J (·=aZ send sq rq) o w o' w') (hq:M o' w' (aZ send sq rq) l):aq o' w' c (bZ x send l) m sq rq:=by
 obtain⟨a1,a2⟩:=U.frozen.BF h.blk h.fc;obtain⟨b1,b2⟩:=U.frozen.map h.map h.fm;have ay:=h.ne;cases send
 ·exact⟨a1,a2,b1,b2,h.qs.kept (U.et (K:=(·=sq)) fun k H h2=>by rw[H] at h2;exact ay h2) U.size rfl,hq,h.ne⟩
 ·exact⟨a1,a2,b1,b2,hq,h.qr.kept (U.et (K:=(·=rq)) fun k H h2=>by rw[H] at h2;exact ay h2.symm) U.size rfl,h.ne⟩
end
def hR (o c x m sq rq w) (h:aq o w c x m sq rq):Calls prog 80 #[π c] w (μ (.bool false) w):=by have c1:=h.blk.c 1 rfl;have z:=fun (w:World) (r:Option Nat)=>run_eql_map_nil (P:=prog) w 179 _ _ r underlying179;go_enter func80,ntmps80;go_wp2_with fail;go_ret;exact⟨rfl,rfl⟩
def iV (o c x m sq rq send w) (h:aq o w c x m sq rq):Calls prog 455 #[π c,ι (sd send)] w (μ (π (aZ send sq rq)) w):=by
 have hN:=hR o c x m sq rq w h;have c1:=h.blk.c 1 rfl;have Z:=h.map.CX;have k2:=h.map.CT;cases send
 ·unfold sd aZ
  simp only[Bool.false_eq_true,if_false];go_enter func455,ntmps455;go_wp2_with (go_at_call 80;refine γ hN ?_);go_ret;exact⟨rfl,rfl⟩
 ·unfold sd aZ
  simp only[if_true];go_enter func455,ntmps455;go_wp2_with (go_at_call 80;refine γ hN ?_);go_ret;exact⟨rfl,rfl⟩
end
def tz (o Y most cells cnt i w) (z:Wf o w) (h:an o w Y most cells cnt) (hi:i < cells.length) :
  Calls prog 434 #[.agg #[ι (i:Nat)],π Y] w fun e w'=>e= .returned (.tuple #[.bool (cells[i] == 0),ι 0])∧E Y most (cells.set i (if cells[i]=0 then 1 else cells[i])) cnt o w w':=by have hb:=am w (.cells #[ι (i:Nat)] 178);have hA:=wy o Y most cells cnt i _ (z.below hb) (h.below z hb) hi;refine xT ?_;intro x hx;rw[hx] at hA ⊢;obtain⟨cs,I⟩:∃cs,cells.set i (if x=0 then 1 else x)=cs:=⟨_,rfl⟩;rw[I] at hA ⊢;obtain⟨t,ht⟩:∃t,(x == 0)=t:=⟨_,rfl⟩;rw[ht] at hA ⊢;clear hx I ht;go_enter func434,ntmps434;go_wp2_with (go_at_call 448;refine δ hA ?_;intro w1 U);go_ret2;exact⟨rfl,Yt z hb U⟩
def tG (o Y most cells cnt i w) (z:Wf o w) (h:an o w Y most cells cnt) (hi:i < cells.length) :
  Calls prog 443 #[.agg #[ι (i:Nat)],π Y] w fun e w'=>e= .returned (ι (if cells[i]=1 then 0 else 30))∧E Y most (cells.set i (if cells[i]=1 then 0 else cells[i])) cnt o w w':=by have hb:=am w (.cells #[ι (i:Nat)] 178);have hA:=u0 o Y most cells cnt i _ (z.below hb) (h.below z hb) hi;refine xT ?_;intro x hx;rw[hx] at hA ⊢;obtain⟨cs,I⟩:∃cs,cells.set i (if x=1 then 0 else x)=cs:=⟨_,rfl⟩;rw[I] at hA ⊢;obtain⟨r,hr⟩:∃r:Int,(if x=1 then 0 else 30)=r:=⟨_,rfl⟩;rw[hr] at hA ⊢;clear hx I hr;go_enter func443,ntmps443;go_wp2_with (go_at_call 452;refine δ hA ?_;intro w1 U);go_ret;exact⟨rfl,Yt z hb U⟩
def ue (o c x m sq rq Y most cells cnt w) (z:Wf o w) (hc:aq o w c x m sq rq) (h:an o w Y most cells cnt) (hi:x.at_ < cells.length) :
  Calls prog 391 #[π c,π Y] w fun e w'=>e= .returned (.tuple #[.bool (cells[x.at_] == 0),ι 0])∧E Y most (cells.set x.at_ (if cells[x.at_]=0 then 1 else cells[x.at_])) cnt o w w':=by
 have hN:=hR o c x m sq rq w hc;have c0:=hc.blk.c 0 rfl;have hA:=tz o Y most cells cnt x.at_ w z h hi;obtain⟨i,O⟩:∃i,x.at_=i:=⟨_,rfl⟩;simp only[O] at *;obtain⟨y,hy⟩:∃y,cells[i]=y:=⟨_,rfl⟩;rw[hy] at hA ⊢;obtain⟨cs,I⟩:∃cs,cells.set i (if y=0 then 1 else y)=cs:=⟨_,rfl⟩;rw[I] at hA ⊢;obtain⟨t,ht⟩:∃t,(y == 0)=t:=⟨_,rfl⟩;rw[ht] at hA ⊢;clear hy I ht O;go_enter func391,ntmps391;go_wp2_with first
  | (go_at_call 80;refine γ hN ?_)
  | (go_at_call 434;refine δ hA ?_;intro w1 U)
 go_ret2;exact⟨rfl,U⟩
def w0 (o c x m sq rq Y most cells cnt w) (z:Wf o w) (hc:aq o w c x m sq rq) (h:an o w Y most cells cnt) (hi:x.at_ < cells.length) :
  Calls prog 403 #[π c,π Y] w fun e w'=>e= .returned (ι (if cells[x.at_]=1 then 0 else 30))∧E Y most (cells.set x.at_ (if cells[x.at_]=1 then 0 else cells[x.at_])) cnt o w w':=by
 have hN:=hR o c x m sq rq w hc;have c0:=hc.blk.c 0 rfl;have hA:=tG o Y most cells cnt x.at_ w z h hi;obtain⟨i,O⟩:∃i,x.at_=i:=⟨_,rfl⟩;simp only[O] at *;obtain⟨y,hy⟩:∃y,cells[i]=y:=⟨_,rfl⟩;rw[hy] at hA ⊢;obtain⟨cs,I⟩:∃cs,cells.set i (if y=1 then 0 else y)=cs:=⟨_,rfl⟩;rw[I] at hA ⊢;obtain⟨r,hr⟩:∃r:Int,(if y=1 then 0 else 30)=r:=⟨_,rfl⟩;rw[hr] at hA ⊢;clear hy I hr O;go_enter func403,ntmps403;go_wp2_with first
  | (go_at_call 80;refine γ hN ?_)
  | (go_at_call 443;refine δ hA ?_;intro w1 U)
 go_ret;exact⟨rfl,U⟩
end Go.Proofs.YtmchabopafimeaaGreatDoor
