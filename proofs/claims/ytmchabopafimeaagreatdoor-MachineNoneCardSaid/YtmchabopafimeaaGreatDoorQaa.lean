import Derived.Below
import Derived.KernelRfl
import Derived.Test.YtmchabopafimeaaGreatDoorProg
import GoSem.Claims
import GoSem.Claim
import GoSem.ClaimJoined
import GoSem.ClaimMapViews
import Derived.JoinedTies
import Derived.RowKit
import Derived.WalkKit
import Derived.WalkSpells
import Derived.WalkLawsBesides
import Derived.BigQuiet
import Derived.Lib.Hide
import Derived.BigGuardPart
import Derived.StillTailTactics
import Derived.WalkSmall
import Derived.Laws.Rows
import Derived.OneCell
import Derived.Deep.Cut
import Derived.Deep.CutBlock
import Derived.Deep.CutRange
import Derived.Deep.QuietTactic
import Derived.LoopTactic
import Derived.RegionTactic
import Derived.Lib.QuietBelow
namespace Go.Proofs.YtmchabopafimeaaGreatDoor
set_option maxRecDepth 100000
set_option maxHeartbeats 16000000
set_option linter.all false
open Tryz
structure Zq (q:Prop):Prop where
 u:q
theorem iq {p:Prop} (h:p):p:=h
theorem ω {p:Prop} (h:p:=by omega):p:=h
theorem ξ {p:Prop} (h:p:=by simp):p:=h
theorem ψ {p:Prop} (h:p:=by kernel_rfl):p:=h
theorem φ {p:Prop} (h:p:=by decide):p:=h
theorem Ψ {a b} {p:a→b→Prop} (h:∀x y,p x y:=by intro _ _;kernel_rfl):∀x y,p x y:=h
theorem Φ {a} {p:a→Prop}:∀x,p x→p x:=fun _ h=>h
theorem Ω {p:Prop} (h:p:=by dsimp only;omega):p:=h
theorem Ξ {p:Prop} (h:p:=by simp;omega):p:=h
def Za:=@Nat.lt_of_lt_of_le
def Zc:=@Nat.le_refl
def Ze:=@List.getElem?_eq_some_iff
def Zf:=@And.intro
def Zg:=@List.getElem?_eq_getElem
def Zi:=@List.mem_of_getElem?
def Zk:=@trivial
def Zm:=@List.mem_append_left
def Zn:=@decide_eq_false
def Zo:=@List.mem_cons_of_mem
def Zp:=@Nat.le_trans
def Zr:=@List.mem_cons_self
def Zs:=@Option.map_eq_some_iff
def Zt:=@Option.bind_eq_some_iff
def Zv:=@List.mem_append
def Zx:=@List.mem_append_right
def Zy:=@decide_eq_true
def Z1:=@List.mem_flatMap
def Z2:=@Nat.zero_le
def Z5:=@List.eq_nil_of_length_eq_zero
def Z7:=@Array.getElem?_eq_some_iff
def Z8:=@List.getElem_mem
def ZC:=@List.mem_map
def ZF:=@Nat.mul_le_mul_right
def ZG:=@List.mem_cons
def ZI:=@List.mem_iff_getElem?
def ZK:=@List.pairwise_append
def ZL:=@Int.eq_ofNat_of_zero_le
def ZN:=@Nat.lt_or_ge
def ZR:=@Bool.false_ne_true
def ZU:=@List.pairwise_singleton
def ZX:=@List.Sublist.append
def ZY:=@List.mem_or_eq_of_mem_set
def Yb:=@List.Sublist.refl
def Ye:=@List.ext_getElem?
def Yf:=@Nat.le_succ
def Yk:=@List.take_left
def Yo:=@List.mem_singleton
def Yr:=@List.Pairwise.nil
def Ys:=@List.nodup_append
def Yv:=@Ne.symm
def Yx:=@Nat.le_of_lt
def Yy:=@Nat.ne_of_lt
def Yz:=@List.pairwise_iff_getElem
def Y3:=@List.Sublist.trans
def Y4:=@List.suffix_cons
def Y5:=@Array.toList_inj
section
section
open Go.RowKit
inductive VT where
 | mk (k n:Int) (l:List VT)
def ag (n:Int):Prop:=-9223372036854775808≤n∧n≤9223372036854775807
mutual
def aG (ok:Nat→Prop) (w:World):VT→Value→Prop
 | .mk k n l,v=>∃(a:Option Addr) (cap:Nat),v= .agg #[.int .i64 k,.int .i64 n,.slice a l.length cap]∧ag k∧ag n∧l.length≤cap∧cap≤maxLen∧ap ok w l a 0
def ap (ok:Nat→Prop) (w:World):List VT→Option Addr→Nat→Prop
 | [],_,_=>True
 | t :: r,a,i=>(∃(g o:Nat) (v0 v1 v2:Value),a=some ⟨g,o,none⟩∧ok g∧w.cell? ⟨g,o+i*3,none⟩=some v0∧w.cell? ⟨g,o+i*3+1,none⟩=some v1∧w.cell? ⟨g,o+i*3+2,none⟩=some v2∧aG ok w t (.agg #[v0,v1,v2]))∧ap ok w r a (i+1)
end
mutual
def aG.et {ok:Nat→Prop} {w w':World} (h:∀g,ok g→∀o,w'.cell? ⟨g,o,none⟩=w.cell? ⟨g,o,none⟩):∀{t:VT} {v:Value},aG ok w t v→aG ok w' t v
 | .mk k n l,v,hv=>by
   rw[aG] at hv ⊢
   obtain⟨a,cap,hv,H,h2,h3,h4,h5⟩:=hv
   exact⟨a,cap,hv,H,h2,h3,h4,ap.et h h5⟩
def ap.et {ok:Nat→Prop} {w w':World} (h:∀g,ok g→∀o,w'.cell? ⟨g,o,none⟩=w.cell? ⟨g,o,none⟩):∀{l:List VT} {a:Option Addr} {i:Nat},ap ok w l a i→ap ok w' l a i
 | [],_,_,_=>by rw[ap];trivial
 | t :: r,a,i,hv=>by
   rw[ap] at hv ⊢
   obtain⟨⟨g,o,v0,v1,v2,H,h2,h3,h4,h5,h6⟩,h7⟩:=hv
   exact⟨⟨g,o,v0,v1,v2,H,h2,(h g h2 _).trans h3,(h g h2 _).trans h4,(h g h2 _).trans h5,aG.et h h6⟩,ap.et h h7⟩
end
mutual
def aG.more {ok ok':Nat→Prop} {w:World} (h:∀g,ok g→ok' g):∀{t:VT} {v:Value},aG ok w t v→aG ok' w t v
 | .mk k n l,v,hv=>by
   rw[aG] at hv ⊢
   obtain⟨a,cap,hv,H,h2,h3,h4,h5⟩:=hv
   exact⟨a,cap,hv,H,h2,h3,h4,ap.more h h5⟩
def ap.more {ok ok':Nat→Prop} {w:World} (h:∀g,ok g→ok' g):∀{l:List VT} {a:Option Addr} {i:Nat},ap ok w l a i→ap ok' w l a i
 | [],_,_,_=>by rw[ap];trivial
 | t :: r,a,i,hv=>by
   rw[ap] at hv ⊢
   obtain⟨⟨g,o,v0,v1,v2,H,h2,h3,h4,h5,h6⟩,h7⟩:=hv
   exact⟨⟨g,o,v0,v1,v2,H,h _ h2,h3,h4,h5,aG.more h h6⟩,ap.more h h7⟩
end
def ap.drop {ok w}:∀{l:List VT} {a:Option Addr} {i:Nat} (j:Nat),ap ok w l a i→ap ok w (l.drop j) a (i+j)
 | [],_,_,j,_=>by simp[ap]
 | _ :: _,_,_,0,h=>h
 | t :: r,a,i,j+1,h=>by
   rw[ap] at h
   have:=ap.drop j h.2
   rw[List.drop_succ_cons]
   rwa [show i+(j+1)=i+1+j from by omega]
def ap.at_ {ok w l a} (h:ap ok w l a 0) {j} (hj:j < l.length) :
  ∃(Z I:Int) (ll:List VT) (g o:Nat) (a':Option Addr) (aA:Nat),l[j]= .mk Z I ll∧a=some ⟨g,o,none⟩∧ok g∧w.cell? ⟨g,o+j*3,none⟩=some (.int .i64 Z)∧w.cell? ⟨g,o+j*3+1,none⟩=some (.int .i64 I)∧w.cell? ⟨g,o+j*3+2,none⟩=some (.slice a' ll.length aA) ∧
   aG ok w (.mk Z I ll) (.agg #[.int .i64 Z,.int .i64 I,.slice a' ll.length aA]):=by have h2:=ap.drop j h;rw[List.drop_eq_getElem_cons hj,ap,Nat.zero_add] at h2;obtain⟨⟨g,o,v0,v1,v2,H,h2,h3,h4,h5,h6⟩,_⟩:=h2;generalize J:l[j]=t at h6;obtain⟨Z,I,ll⟩:=t;have h7:=h6;rw[aG] at h7;obtain⟨a',aA,hv,_⟩:=h7;simp only[Value.agg.injEq,Array.mk.injEq,List.cons.injEq,and_true] at hv;obtain⟨rfl,rfl,rfl⟩:=hv;exact⟨Z,I,ll,g,o,a',aA,rfl,H,h2,h3,h4,h5,h6⟩
def aG.below {B w w' t v} (h:aG (· < B) w t v) (hb:Below B w w'):aG (· < B) w' t v:=
 h.et fun g hg o=>hb.cell (p:=⟨g,o,none⟩) hg
def ap.below {B w w' l a i} (h:ap (· < B) w l a i) (hb:Below B w w'):ap (· < B) w' l a i:=
 h.et fun g hg o=>hb.cell (p:=⟨g,o,none⟩) hg
def aG.lift {B B' w t v} (h:aG (· < B) w t v) (hB:B≤B'):aG (· < B') w t v:=h.more fun _ hg=>Nat.lt_of_lt_of_le hg hB
def hG {l t k n m} (h:t∈l) (hk:SizeOf.sizeOf (VT.mk k n l)≤m+1):SizeOf.sizeOf t≤m:=by have:=List.sizeOf_lt_of_mem h;simp at hk;omega
end
section
open Go.RowKit
mutual
def cnt:VT→Nat→Nat
 | .mk _ _ l,n=>cP l (n+1)
def cP:List VT→Nat→Nat
 | [],n=>n
 | t :: r,n=>if 256 < n then n else cP r (cnt t n)
end
mutual
def n8:∀(t:VT) (n:Nat),n≤256→cnt t n≤257
 | .mk _ _ l,n,h=>by rw[cnt];exact lh l (n+1) (by omega)
def lh:∀(l:List VT) (n:Nat),n≤257→cP l n≤257
 | [],n,h=>by rw[cP];exact h
 | t :: r,n,h=>by
   rw[cP]
   split
   ·exact h
   ·exact lh r _ (n8 t n (by omega))
end
def nh {k:IntKind} {a b} (h:a=b):Ending.returned (.int k a)= .returned (.int k b):=by rw[h]
def bY {a b} (h:a=b):Ending.returned (.bool a)= .returned (.bool b):=by rw[h]
def nU {W w1} (hb:Below W.heap.size W w1):(∀b o,b < W.heap.size→w1.cell? ⟨b,o,none⟩=W.cell? ⟨b,o,none⟩)∧(∀b o,b < W.heap.size→w1.frozen? ⟨b,o,none⟩=W.frozen? ⟨b,o,none⟩):=
 ⟨fun b o h=>hb.cell (p:=⟨b,o,none⟩) h,fun b o h=>hb.frozen (p:=⟨b,o,none⟩) h⟩
def yI {p q:Prop} (k:q) (h:Zq q→p:=by
 intro mq;have d0:=(hb.cell (p:=⟨g,o+j*3,none⟩) hg).trans c0;have d1:=(hb.cell (p:=⟨g,o+j*3+1,none⟩) hg).trans c1;have d2:=(hb.cell (p:=⟨g,o+j*3+2,none⟩) hg).trans c2;revert d0 d1 d2
 exact mq.u):p:=h ⟨k⟩
def tQ (k):∀(t:VT) (v:Value) (n:Nat) (w:World),SizeOf.sizeOf t≤k→n≤256→aG (· < w.heap.size) w t v →
  Calls prog 93 #[v,.int .i64 n] w fun e w'=>e= .returned (.int .i64 (cnt t n:Nat))∧Below w.heap.size w w':=by
 induction k with
 | zero=>intro t;cases t;simp
 | succ k z=>
   intro t v n w hk hn hv;obtain⟨kd,I,l⟩:=t;rw[aG] at hv;obtain⟨a,cap,rfl,ah,aj,hl,Y,aE⟩:=hv;unfold maxLen at Y;go_enter func93,ntmps93;go_wp2;go_loopw [1,12] (fun m i wr=>∃(j m':Nat),j≤l.length∧i= .int .i64 j∧m= .int .i64 m'∧m'≤257∧cP l (n+1)=cP (l.drop j) m'∧Below w.heap.size w wr∧w.heap.size+1≤wr.heap.size) (fun _ i _=>l.length - (intOf i).toNat)
   case atStart=>exact⟨0,n+1,by omega,rfl,by go_num,by omega,rfl,(Below.refl _ _).alloc (Nat.le_refl _) _,by simp⟩
   case round=>
    obtain⟨j,m',hj,rfl,rfl,hm,hc,hb⟩:=hrel;have HC:=Lib.hid hc;clear hc;have hb:=hb.1
    by_cases ad:j < l.length
    ·obtain⟨Z,n2,ll,g,o,a',aA,J,rfl,hg,c0,c1,c2,ht⟩:=aE.at_ ad
     refine yI ?_;intro d0 d1 d2;clear c0 c1 c2;have HL:=Lib.hid J;clear J
     by_cases bq:256 < m'
     ·go_wp2_with fail
      go_ret;refine⟨nh ?_,(hb.alloc (by omega) _)⟩;rw[cnt,HC.out,List.drop_eq_getElem_cons ad,cP,if_pos bq]
     ·go_wp2_with fail
      refine (z (.mk Z n2 ll) _ m' _ (hG (HL.out ▸ List.getElem_mem ad) hk) (by omega) ?_).mono ?_
      ·exact (ht.below (hb.alloc (by omega) _)).lift (by simp;omega)
      rintro e w1 ⟨rfl,af⟩;go_wp2_with fail;go_roundw
      case rel=>
       refine⟨j+1,_,by omega,by go_num,rfl,n8 _ _ (by omega),?_,?_,?_⟩
       ·rw[HC.out,List.drop_eq_getElem_cons ad,cP,if_neg bq,HL.out]
       ·exact (hb.alloc (by omega) _).trans (af.mono (by simp;omega))
       ·have:=af.size;simp at this;omega
      case measure=>simp[intOf];omega
    ·go_wp2_with fail
     go_ret;obtain rfl:j=l.length:=by omega
     refine⟨nh ?_,hb⟩;rw[cnt,HC.out,List.drop_length,cP]
end
section
open Go.RowKit
def small (t:VT):Bool:=decide (cnt t 0≤256)
def cZ (k:Int):Bool:=decide (5≤k) && decide (k≤13)
def VT.kd:VT→Int | .mk k _ _=>k
def kf (l:List VT):Int:=match l with | t :: _=>t.kd | []=>0
def fR (k n:Int) (len:Nat) (z:Int) (O:Bool):Bool:=
 if k=1∨k=8 then decide (n=0) && decide (len=0)
 else if k=2 then decide (len=0)
 else if k=3 then decide (n=0) && decide (len=2)
 else if k=4∨k=13 then decide (0≤n) && decide (len=0)
 else if k=5 then decide (n=0) && decide (len=2) && decide (z=4)
 else if k=6 then decide (n=0) && decide (len=1) && decide (z=4)
 else if k=7 then decide (n=0) && decide (len=1)
 else if k=9 then O && decide (n=0) && decide (len≤16)
 else if k=10 then decide (0≤n) && decide (n≤63) && decide (1≤len) && decide (len≤9) && cZ z
 else if k=11∨k=12 then decide (0≤n) && decide (n≤63) && decide (len≤8)
 else false
def dh (k n:Int) (l:List VT):Bool:=fR k n l.length (kf l) (l.all fun t=>cZ t.kd)
mutual
def fu:VT→Bool
 | .mk k n l=>dh k n l && gp l
def gp:List VT→Bool
 | []=>true
 | t :: r=>fu t && gp r
end
def right (t:VT):Bool:=small t && fu t
mutual
def l2:VT→VT→Bool
 | .mk k n l,.mk k' O l'=>decide (k=k') && decide (n=O) && decide (l.length=l'.length) && nj l l'
def nj:List VT→List VT→Bool
 | t :: r,t' :: V=>l2 t t' && nj r V
 | [],_=>true
 | _ :: _,[]=>true
end
def jp (t v w) (hv:aG (· < w.heap.size) w t v) :
  Calls prog 66 #[v] w fun e w'=>e= .returned (.bool (small t))∧Below w.heap.size w w':=by obtain⟨kd,I,l⟩:=t;have ae:=hv;rw[aG] at hv;obtain⟨a,cap,rfl,-⟩:=hv;go_enter func66,ntmps66;go_wp2_with fail;refine (tQ _ _ _ 0 _ (Nat.le_refl _) (by omega) ((ae.below ((Below.refl _ _).alloc (Nat.le_refl _) _)).lift (by simp))).mono ?_;rintro e w1 ⟨rfl,af⟩;go_wp2_with fail;go_ret;refine⟨bY ?_,((Below.refl _ _).alloc (Nat.le_refl _) _).trans (af.mono (by simp))⟩;unfold small;rw[decide_eq_decide];omega
def iG (k w) (f:Nat) (hf:f=242∨False) :
  Calls prog f #[.int .i64 k] w fun e w'=>e= .returned (.bool (cZ k))∧w=w':=by
 rcases hf with rfl | hf
 ·by_cases h5:5≤k
  ·go_enter func242,ntmps242
   go_wp2_with fail;go_ret;exact⟨bY (by simp[cZ,h5]),rfl⟩
  ·go_enter func242,ntmps242
   go_wp2_with fail;go_ret;exact⟨bY (by simp[cZ];omega),rfl⟩
 ·exact hf.elim
def xA (n w) :
  Calls prog 134 #[.int .i64 n] w fun e w'=>e= .returned (.agg #[.int .i64 2,.int .i64 n,.slice none 0 0])∧Below w.heap.size w w':=by go_enter func134,ntmps134;go_wp2_with fail;exact bodyPost_ret (v:= .agg #[.int .i64 2,.int .i64 n,.slice none 0 0]) (by simp[results,results134,go_sem]) rfl ⟨rfl,(Below.refl _ _).alloc (Nat.le_refl _) _⟩
end
section
open Go.RowKit
def lE {l:List VT} {f j} (h:j < l.length):(l.drop j).all f=(f l[j] && (l.drop (j+1)).all f):=by rw[List.drop_eq_getElem_cons h,List.all_cons]
def qc (k n l a cap w) (A:l.length≤cap) (h:cap≤maxLen) (hk:∀i:Int,1≤i→i≤13→k≠i) :
  Calls prog 245 #[.agg #[.int .i64 k,.int .i64 n,.slice a l.length cap]] w fun e w'=>e= .returned (.bool (dh k n l))∧Below w.heap.size w w':=by
 unfold maxLen at h;have e1:(k == 1)=false:=beq_eq_false_iff_ne.2 (hk 1 (by omega) (by omega));have e2:(k == 2)=false:=beq_eq_false_iff_ne.2 (hk 2 (by omega) (by omega));have e3:(k == 3)=false:=beq_eq_false_iff_ne.2 (hk 3 (by omega) (by omega));have e4:(k == 4)=false:=beq_eq_false_iff_ne.2 (hk 4 (by omega) (by omega));have e5:(k == 5)=false:=beq_eq_false_iff_ne.2 (hk 5 (by omega) (by omega));have e6:(k == 6)=false:=beq_eq_false_iff_ne.2 (hk 6 (by omega) (by omega));have e7:(k == 7)=false:=beq_eq_false_iff_ne.2 (hk 7 (by omega) (by omega));have aA:(k == 8)=false:=beq_eq_false_iff_ne.2 (hk 8 (by omega) (by omega));have e9:(k == 9)=false:=beq_eq_false_iff_ne.2 (hk 9 (by omega) (by omega));have bi:(k == 10)=false:=beq_eq_false_iff_ne.2 (hk 10 (by omega) (by omega));have ao:(k == 11)=false:=beq_eq_false_iff_ne.2 (hk 11 (by omega) (by omega));have bZ:(k == 12)=false:=beq_eq_false_iff_ne.2 (hk 12 (by omega) (by omega));have Z:(k == 13)=false:=beq_eq_false_iff_ne.2 (hk 13 (by omega) (by omega));have HE:Hid (false=dh k n l):=by
  unfold dh fR;rw[if_neg,if_neg,if_neg,if_neg,if_neg,if_neg,if_neg,if_neg,if_neg,if_neg]
  ·exact rfl
  all_goals (have:=hk 1 (by omega) (by omega);have:=hk 2 (by omega) (by omega);have:=hk 3 (by omega) (by omega);have:=hk 4 (by omega) (by omega);have:=hk 5 (by omega) (by omega);have:=hk 6 (by omega) (by omega);have:=hk 7 (by omega) (by omega);have:=hk 8 (by omega) (by omega);have:=hk 9 (by omega) (by omega);have:=hk 10 (by omega) (by omega);have:=hk 11 (by omega) (by omega);have:=hk 12 (by omega) (by omega);have:=hk 13 (by omega) (by omega);omega)
 clear hk;go_enter func245,ntmps245;go_wp2_with fail;go_ret;exact⟨bY HE.out,(Below.refl _ _).alloc (Nat.le_refl _) _⟩
def sF (k n l a cap w) (A:l.length≤cap) (h:cap≤maxLen) (hk:k=1∨k=8∨k=2∨k=3∨k=4∨k=13∨k=7∨k=11∨k=12) :
  Calls prog 245 #[.agg #[.int .i64 k,.int .i64 n,.slice a l.length cap]] w fun e w'=>e= .returned (.bool (dh k n l))∧Below w.heap.size w w':=by
 unfold maxLen at h;unfold dh;generalize kf l=z;generalize (l.all fun t=>cZ t.kd)=O;generalize l.length=len at *;rcases hk with rfl | rfl | rfl | rfl | rfl | rfl | rfl | rfl | rfl
 all_goals
  go_enter func245,ntmps245;go_wp2_with fail
  all_goals go_ret
  all_goals refine⟨bY ?_,(Below.refl _ _).alloc (Nat.le_refl _) _⟩
  all_goals (rw[Bool.eq_iff_iff];simp[fR];try omega)
def wT {l t k n ll} (h:0 < l.length) (hl:l[0]=t) (ht:t= .mk k n ll):kf l=k:=by
 cases l with
 | nil=>simp at h
 | cons x r=>simp at hl;subst hl;subst ht;rfl
def vG (k n l a cap w) (A:l.length≤cap) (h:cap≤maxLen) (aE:ap (· < w.heap.size) w l a 0) (hk:k=5∨k=6∨k=10) :
  Calls prog 245 #[.agg #[.int .i64 k,.int .i64 n,.slice a l.length cap]] w fun e w'=>e= .returned (.bool (dh k n l))∧Below w.heap.size w w':=by
 unfold maxLen at h;unfold dh;generalize (l.all fun t=>cZ t.kd)=O
 by_cases h0:0 < l.length
 ·obtain⟨Z,n2,ll,g,o,a',aA,J,rfl,hg,c0,c1,c2,ht⟩:=aE.at_ h0
  have hf:=wT h0 rfl J;rw[hf];clear hf J c1 c2 ht;rw[Nat.zero_mul,Nat.add_zero] at c0;have ax:∀o',(w.alloc o').cell? ⟨g,o,none⟩=some (.int .i64 Z):=fun o'=>(World.cell?_alloc_lt w o' ⟨g,o,none⟩ hg).trans c0;generalize l.length=len at *;rcases hk with rfl | rfl | rfl
  all_goals
   go_enter func245,ntmps245;go_wp2_with (go_at_call 242;refine (iG _ _ _ (.inl rfl)).mono ?_;rintro e w' ⟨rfl,rfl⟩)
   all_goals go_ret
   all_goals refine⟨bY ?_,(Below.refl _ _).alloc (Nat.le_refl _) _⟩
   all_goals (rw[Bool.eq_iff_iff];simp[fR];try omega)
 ·have H:l.length=0:=by omega
  rw[H] at *;rcases hk with rfl | rfl | rfl
  all_goals
   go_enter func245,ntmps245;go_wp2_with fail
   all_goals go_ret
   all_goals refine⟨bY ?_,(Below.refl _ _).alloc (Nat.le_refl _) _⟩
   all_goals (rw[Bool.eq_iff_iff];simp[fR])
end
section
open Go.RowKit
def tY (n l a cap w) (hl:l.length≤cap) (Y:cap≤maxLen) (aE:ap (· < w.heap.size) w l a 0) :
  Calls prog 245 #[.agg #[.int .i64 9,.int .i64 n,.slice a l.length cap]] w fun e w'=>e= .returned (.bool (dh 9 n l))∧Below w.heap.size w w':=by
 unfold maxLen at Y;go_enter func245,ntmps245;go_wp2_with fail;go_loopw [92] (fun i wr=>∃(j:Nat),j≤l.length∧i= .int .i64 j∧(l.all fun t=>cZ t.kd)=((l.drop j).all fun t=>cZ t.kd)∧Below w.heap.size w wr∧w.heap.size+1≤wr.heap.size∧wr.cell? ⟨w.heap.size,1,none⟩=some (.int .i64 n)) (fun i _=>l.length - (intOf i).toNat)
 case atStart=>exact⟨0,by omega,rfl,rfl,(Below.refl _ _).alloc (Nat.le_refl _) _,by simp,by simp[go_sem]⟩
 case round=>
  obtain⟨j,hj,rfl,hc,hb,a8,aJ⟩:=hrel;have HC:=Lib.hid hc;clear hc
  by_cases ad:j < l.length
  ·obtain⟨Z,n2,ll,g,o,a',aA,J,rfl,hg,c0,c1,c2,ht⟩:=aE.at_ ad
   refine yI ?_;intro d0 d1 d2;have HL:=Lib.hid J;clear J c0 c1 c2 ht;cases ag:cZ Z
   ·go_wp2_with (go_at_call 242;refine (iG _ _ _ (.inl rfl)).mono ?_;rintro e w' ⟨rfl,rfl⟩)
    go_ret;refine⟨bY ?_,hb.alloc (by omega) _⟩;have:(l.all fun t=>cZ t.kd)=false:=by rw[HC.out,lE ad,HL.out,VT.kd,ag,Bool.false_and]
    simp[dh,fR,this]
   ·go_wp2_with (go_at_call 242;refine (iG _ _ _ (.inl rfl)).mono ?_;rintro e w' ⟨rfl,rfl⟩)
    go_roundw
    case rel=>
     refine⟨j+1,by omega,by go_num,?_,hb.alloc (by omega) _,by simp;omega,?_⟩
     ·rw[HC.out,lE ad,HL.out,VT.kd,ag,Bool.true_and]
     ·rw[World.cell?_alloc_lt _ _ _ (by simp;omega)];exact aJ
    case measure=>simp[intOf];omega
  ·have ag:(l.all fun t=>cZ t.kd)=true:=by rw[HC.out,List.drop_of_length_le (by omega)];rfl
   have HV:=Lib.hid ag;clear ag;go_wp2_with fail
   all_goals go_ret
   all_goals refine⟨bY ?_,hb⟩
   all_goals (rw[Bool.eq_iff_iff];simp only[dh,HV.out];simp[fR];try omega)
def qG (k n l a cap w) (hl:l.length≤cap) (Y:cap≤maxLen) (aE:ap (· < w.heap.size) w l a 0) :
  Calls prog 245 #[.agg #[.int .i64 k,.int .i64 n,.slice a l.length cap]] w fun e w'=>e= .returned (.bool (dh k n l))∧Below w.heap.size w w':=by
 by_cases H:1≤k∧k≤13
 ·have:(k=1∨k=8∨k=2∨k=3∨k=4∨k=13∨k=7∨k=11∨k=12)∨(k=5∨k=6∨k=10)∨k=9:=by omega
  rcases this with h | h | rfl
  ·exact sF k n l a cap w hl Y h
  ·exact vG k n l a cap w hl Y aE h
  ·exact tY n l a cap w hl Y aE
 ·exact qc k n l a cap w hl Y (fun i h2 h3 h4=>H (by omega))
def qu (m):∀(t:VT) (v:Value) (w:World),SizeOf.sizeOf t≤m→aG (· < w.heap.size) w t v →
  Calls prog 206 #[v] w fun e w'=>e= .returned (.bool (fu t))∧Below w.heap.size w w':=by
 induction m with
 | zero=>intro t;cases t;simp
 | succ m z=>
   intro t v w hk hv;obtain⟨kd,I,l⟩:=t;rw[aG] at hv;obtain⟨a,cap,rfl,ah,aj,hl,Y,aE⟩:=hv;have A:=Y;unfold maxLen at Y;have h:=fun (W:World) (hb:Below w.heap.size w W)=>qG kd I l a cap W hl A ((aE.below hb).more fun _ hg=>Nat.lt_of_lt_of_le hg hb.size);have HS:=Lib.hid h;clear h;have HI:=Lib.hid z;clear z;cases hs:dh kd I l
   ·have HX:=Lib.hid hs
    clear hs;go_enter func206,ntmps206;go_wp2_with fail;refine (HS.out _ ((Below.refl _ _).alloc (Nat.le_refl _) _)).mono ?_;rintro e w1 ⟨rfl,af⟩;rw[HX.out];go_wp2_with fail;go_ret;refine⟨bY (by rw[fu,HX.out];rfl),((Below.refl _ _).alloc (Nat.le_refl _) _).trans (af.mono (by simp))⟩
   ·have HX:=Lib.hid hs
    clear hs;go_enter func206,ntmps206;go_wp2_with fail;refine (HS.out _ ((Below.refl _ _).alloc (Nat.le_refl _) _)).mono ?_;rintro e w1 ⟨rfl,af⟩;rw[HX.out];obtain⟨hc,hf⟩:=nU af;have hc2:=(hc w.heap.size 2 (by simp)).trans (by simp[go_sem]:_=some (Value.slice a l.length cap));have ao:Below w.heap.size w w1:=((Below.refl _ _).alloc (Nat.le_refl _) _).trans (af.mono (by simp));have E:w.heap.size+1≤w1.heap.size:=by have:=af.size;simpa using this
    clear hc hf af;go_wp2_with fail;go_loopw [11] (fun i wr=>∃(j:Nat),j≤l.length∧i= .int .i64 j∧gp l=gp (l.drop j)∧Below w.heap.size w wr∧w.heap.size+1≤wr.heap.size) (fun i _=>l.length - (intOf i).toNat)
    case atStart=>exact⟨0,by omega,rfl,rfl,ao,E⟩
    case round=>
     obtain⟨j,hj,rfl,hc,hb,a8⟩:=hrel;have HC:=Lib.hid hc;clear hc
     by_cases ad:j < l.length
     ·obtain⟨Z,n2,ll,g,o,a',aA,J,rfl,hg,c0,c1,c2,ht⟩:=aE.at_ ad
      refine yI ?_;intro d0 d1 d2;have HL:=Lib.hid J;clear J c0 c1 c2;cases ag:fu (.mk Z n2 ll)
      ·have HV:=Lib.hid ag
       clear ag;go_wp2_with fail;refine (HI.out (.mk Z n2 ll) _ _ (hG (HL.out ▸ List.getElem_mem ad) hk) ?_).mono ?_
       ·exact (ht.below (hb.alloc (by omega) _)).lift (by simp;omega)
       rintro e G ⟨rfl,aa⟩;rw[HV.out];go_wp2_with fail;go_ret;refine⟨bY ?_,(hb.alloc (by omega) _).trans (aa.mono (by simp;omega))⟩;rw[fu,HX.out,HC.out,List.drop_eq_getElem_cons ad,gp,HL.out,HV.out];rfl
      ·have HV:=Lib.hid ag
       clear ag;go_wp2_with fail;refine (HI.out (.mk Z n2 ll) _ _ (hG (HL.out ▸ List.getElem_mem ad) hk) ?_).mono ?_
       ·exact (ht.below (hb.alloc (by omega) _)).lift (by simp;omega)
       rintro e G ⟨rfl,aa⟩;rw[HV.out];go_wp2_with fail;go_roundw
       case rel=>
        refine⟨j+1,by omega,by go_num,?_,(hb.alloc (by omega) _).trans (aa.mono (by simp;omega)),?_⟩
        ·rw[HC.out,List.drop_eq_getElem_cons ad,gp,HL.out,HV.out];rfl
        ·have:=aa.size;simp at this;omega
       case measure=>simp[intOf];omega
     ·go_wp2_with fail
      go_ret;refine⟨bY ?_,hb⟩;rw[fu,HX.out,HC.out,List.drop_of_length_le (by omega)];rfl
end
section
open Go.RowKit
def aG.form {ok w t v} (h:aG ok w t v):∃(k n:Int) (a:Option Addr) (len cap:Nat),v= .agg #[.int .i64 k,.int .i64 n,.slice a len cap]:=by obtain⟨kd,I,l⟩:=t;rw[aG] at h;obtain⟨a,cap,rfl,-⟩:=h;exact⟨kd,I,a,l.length,cap,rfl⟩
def aG.later {w w' t v} (h:aG (· < w.heap.size) w t v) (hb:Below w.heap.size w w'):aG (· < w'.heap.size) w' t v:=
 (h.below hb).lift hb.size
def dF (w o):Below w.heap.size w (w.alloc o):=(Below.refl _ _).alloc (Nat.le_refl _) _
def kl (t v w) (hv:aG (· < w.heap.size) w t v) :
  Calls prog 163 #[v] w fun e w'=>e= .returned (.bool (right t))∧Below w.heap.size w w':=by
 obtain⟨k,n,a,len,cap,rfl⟩:=hv.form;cases hs:small t
 ·have HX:=Lib.hid hs
  clear hs;go_enter func163,ntmps163;go_wp2_with fail;refine (jp t _ _ (hv.later (dF _ _))).mono ?_;rintro e w1 ⟨rfl,af⟩;rw[HX.out];go_wp2_with fail;go_ret;exact⟨bY (by rw[right,HX.out];rfl),(dF _ _).trans (af.mono (by simp))⟩
 ·have HX:=Lib.hid hs
  clear hs;go_enter func163,ntmps163;go_wp2_with fail;refine (jp t _ _ (hv.later (dF _ _))).mono ?_;rintro e w1 ⟨rfl,af⟩;rw[HX.out];obtain⟨hc,hf⟩:=nU af;have c0:=(hc w.heap.size 0 (by simp)).trans (by simp[go_sem]:_=some (Value.int .i64 k));have c1:=(hc w.heap.size 1 (by simp)).trans (by simp[go_sem]:_=some (Value.int .i64 n));have c2:=(hc w.heap.size 2 (by simp)).trans (by simp[go_sem]:_=some (Value.slice a len cap));have ao:Below w.heap.size w w1:=(dF _ _).trans (af.mono (by simp));clear hc hf af;go_wp2_with fail;refine (qu _ t _ _ (Nat.le_refl _) (hv.later ao)).mono ?_;rintro e G ⟨rfl,aa⟩;go_wp2_with fail;go_ret;exact⟨bY (by rw[right,HX.out];rfl),ao.trans (aa.mono ao.size)⟩
def fQ (t v w) (hv:aG (· < w.heap.size) w t v) :
  Calls prog 122 #[v] w fun e w'=>e= .returned (.int .i64 (if right t then 0 else 40))∧Below w.heap.size w w':=by
 obtain⟨k,n,a,len,cap,rfl⟩:=hv.form;cases hs:right t
 all_goals
  have HX:=Lib.hid hs;clear hs;go_enter func122,ntmps122;go_wp2_with fail;refine (kl t _ _ (hv.later (dF _ _))).mono ?_;rintro e w1 ⟨rfl,af⟩;rw[HX.out];go_wp2_with fail;go_ret;exact⟨rfl,(dF _ _).trans (af.mono (by simp))⟩
end
end
section
section
structure Nd where
 op:Int
 n:Int
 l:List Int
structure Fn where
 ps:Int
 ns:List Nd
def eq (op:Int) (m:Nat):Bool:=
 if op=1∨op=2∨op=3∨op=15∨op=19 then m == 0
 else if op=4∨op=6∨op=7∨op=8∨op=9∨op=10∨op=16 then m == 2
 else if op=5 then m == 3
 else if op=11∨op=12∨op=17∨op=18∨op=24 then m == 1
 else if op=13∨op=14∨op=22∨op=23 then decide (m≤8)
 else if op=20 then decide (m≤16)
 else if op=21 then decide (1≤m∧m≤9)
 else false
def d' (op:Int):Bool:=decide (op=13∨op=14∨op=21∨op=22∨op=23)
def ez (op n d:Int):Bool:=
 if op=1 then true else if op=3 then decide (0≤n∧n < d) else if d' op then decide (0≤n∧n≤63) else n == 0
abbrev Pl:=List (Int×Int)
def pl (p:Pl) (i:Nat):Int×Int:=p.getD i (0,0)
def cQ (n i:Nat) (d:Int) (lt:Bool):Nat→List Int→Pl→Option Pl
 | _,[],p=>some p
 | k,c :: r,p=>if c≤(i:Int)∨(n:Int)≤c∨0≤(pl p c.toNat).1 then none
   else cQ n i d lt (k+1) r (p.set c.toNat ((i:Int),if lt=true∧k=1 then d+1 else d))
def d2 (i:Nat) (x:Nd) (p:Pl):Prop:=(0 < i∧(pl p i).1 < 0)∨64 < (pl p i).2∨eq x.op x.l.length=false∨ez x.op x.n (pl p i).2=false
instance (i:Nat) (x:Nd) (p:Pl):Decidable (d2 i x p):=by unfold d2;infer_instance
def dz (n i:Nat) (x:Nd) (p:Pl):Option Pl:=if d2 i x p then none else cQ n i (pl p i).2 (x.op == 4) 0 x.l p
def fC (n:Nat):Nat→List Nd→Pl→Option Pl
 | _,[],p=>some p
 | i,x :: r,p=>match dz n i x p with
   | some q=>fC n (i+1) r q
   | none=>none
def c' (n:Nat) (d:Int):Pl:=(List.replicate n ((-1:Int),(0:Int))).set 0 (-1,d)
def b2 (f:Fn):Bool:=decide (0≤f.ps∧f.ps≤9∧1≤f.ns.length∧f.ns.length≤200) && (fC f.ns.length 0 f.ns (c' f.ns.length f.ps)).isSome
def gL (x:Nd) (ps:Int):Bool:=if x.op=23 then ps == (x.l.length:Int)+1 else ps == (x.l.length:Int)
def e3 (p:List Fn) (x:Nd):Bool:=if d' x.op then (match p[x.n.toNat]? with
  | some g=>decide (x.n < p.length) && gL x g.ps
  | none=>false) else true
def bS (p:List Fn):Bool:=decide (1≤p.length∧p.length≤64) && p.all b2 && (match p with
  | f :: _=>f.ps == 0
  | []=>false) && p.all fun f=>f.ns.all (e3 p)
def du (p i j v) (hi:i < p.length):pl (p.set i v) j=if i=j then v else pl p j:=by
 unfold pl;simp only[List.getD_eq_getElem?_getD,List.getElem?_set]
 by_cases h:i=j
 ·subst h;simp[hi]
 ·simp[h]
def iR (n i d lt):∀(l:List Int) (k:Nat) (p q:Pl),cQ n i d lt k l p=some q→p.length=n →
  q.length=n∧l.Nodup∧(∀c∈l,(i:Int) < c∧c < n∧(pl p c.toNat).1 < 0) ∧
  (∀(m:Nat) (c:Int),l[m]? =some c→pl q c.toNat=((i:Int),if lt=true∧k+m=1 then d+1 else d)) ∧
  (∀j:Nat,(j:Int)∉l→pl q j=pl p j)
 | [],k,p,q,h,hp=>by
   simp only[cQ,Option.some.injEq] at h
   subst h
   exact⟨hp,List.nodup_nil,by simp,by simp,fun _ _=>rfl⟩
 | c :: r,k,p,q,h,hp=>by
   rw[cQ] at h
   by_cases hb:c≤(i:Int)∨(n:Int)≤c∨0≤(pl p c.toNat).1
   ·rw[if_pos hb] at h;cases h
   rw[if_neg hb] at h
   have H:(i:Int) < c:=by omega
   have h2:c < n:=by omega
   have h3:(pl p c.toNat).1 < 0:=by omega
   have z:((c.toNat:Nat):Int)=c:=Int.toNat_of_nonneg (by omega)
   have aq:c.toNat < p.length:=by omega
   obtain⟨q1,q2,q3,q4,q5⟩:=iR n i d lt r (k+1) _ q h (by simpa using hp)
   have bF:c∉r:=by
    intro hm;have:=(q3 c hm).2.2;rw[du _ _ _ _ aq,if_pos rfl] at this;simp only at this;omega
   refine⟨q1,List.nodup_cons.2 ⟨bF,q2⟩,?_,?_,?_⟩
   ·intro e he
    rcases List.mem_cons.1 he with rfl | he
    ·exact⟨H,h2,h3⟩
    ·obtain⟨e1,e2,e3⟩:=q3 e he
     refine⟨e1,e2,?_⟩
     rw[du _ _ _ _ aq,if_neg (by intro e4;apply bF;have:e=c:=by omega
                                 rw[←this];exact he)] at e3
     exact e3
   ·intro m e he
    cases m with
    | zero=>
      obtain rfl:c=e:=by simpa using he
      have:=q5 c.toNat (by rw[z];exact bF);rw[this,du _ _ _ _ aq,if_pos rfl];rfl
    | succ m=>
      have:=q4 m e (by simpa using he);rw[this];have e5:k+1+m=k+(m+1):=by omega
      rw[e5]
   ·intro j hj
    rw[List.mem_cons,not_or] at hj;rw[q5 j hj.2,du _ _ _ _ aq,if_neg (by intro e;apply hj.1;omega)]
structure gY (ns:List Nd) (n:Nat) (i:Nat) (q:Pl):Prop where
 len:q.length=n
 fit:∀(j:Nat) (x:Nd),j < i→ns[j]? =some x→eq x.op x.l.length=true∧ez x.op x.n (pl q j).2=true∧(pl q j).2≤64∧(0 < j→0≤(pl q j).1)
 kid:∀(j:Nat) (x:Nd),j < i→ns[j]? =some x→∀(m:Nat) (c:Int),x.l[m]? =some c→(j:Int) < c∧c < n∧pl q c.toNat=((j:Int),if x.op=4∧m=1 then (pl q j).2+1 else (pl q j).2)
 nodup:∀(j:Nat) (x:Nd),j < i→ns[j]? =some x→x.l.Nodup
 top:∀c:Nat,c < n→0≤(pl q c).1→∃(j:Nat) (x:Nd),j < i∧j < c∧ns[j]? =some x∧(c:Int)∈x.l
 root:pl q 0=pl q 0
def qW {ns n i x p q} (hx:ns[i]? =some x) (hi:i < n) (hg:gY ns n i p) (h:dz n i x p=some q):gY ns n (i+1) q∧∀j,j≤i→pl q j=pl p j:=by
 unfold dz at h
 by_cases hb:d2 i x p
 ·rw[if_pos hb] at h;cases h
 rw[if_neg hb] at h;obtain⟨q1,q2,q3,q4,q5⟩:=iR _ _ _ _ _ _ _ _ h hg.len;have A:∀j,j≤i→pl q j=pl p j:=fun j hj=>q5 j fun hm=>by have:=(q3 _ hm).1;omega
 have E:∀c:Nat,0≤(pl p c).1→pl q c=pl p c:=fun c hc=>q5 c fun hm=>by have:=(q3 _ hm).2.2;simp at this;omega
 unfold d2 at hb;simp only[not_or,Bool.not_eq_false,not_and,Int.not_lt] at hb;obtain⟨b1,b2,b3,b4⟩:=hb;refine⟨⟨q1,?_,?_,?_,?_,rfl⟩,A⟩
 ·intro j y hj hy
  rcases Nat.lt_or_ge j i with z | z
  ·rw[A j (by omega)];exact hg.fit j y z hy
  ·obtain rfl:j=i:=by omega
   rw[hx] at hy;injection hy with hy;subst hy;rw[A j (Nat.le_refl _)];exact⟨b3,b4,by omega,b1⟩
 ·intro j y hj hy m c hc
  rcases Nat.lt_or_ge j i with z | z
  ·obtain⟨Z,k2,k3⟩:=hg.kid j y z hy m c hc
   refine⟨Z,k2,?_⟩;rw[A j (by omega),E c.toNat (by rw[k3];simp),k3]
  ·obtain rfl:j=i:=by omega
   rw[hx] at hy;injection hy with hy;subst hy;have hm:c∈x.l:=List.mem_of_getElem? hc;obtain⟨Z,k2,_⟩:=q3 c hm;refine⟨Z,k2,?_⟩;rw[q4 m c hc,A j (Nat.le_refl _)];simp
 ·intro j y hj hy
  rcases Nat.lt_or_ge j i with z | z
  ·exact hg.nodup j y z hy
  ·obtain rfl:j=i:=by omega
   rw[hx] at hy;injection hy with hy;subst hy;exact q2
 ·intro c hc h0
  by_cases hm:(c:Int)∈x.l
  ·exact⟨i,x,by omega,by have:=(q3 _ hm).1;omega,hx,hm⟩
  ·rw[q5 c hm] at h0
   obtain⟨j,y,j1,j2,j3,Y⟩:=hg.top c hc h0;exact⟨j,y,by omega,j2,j3,Y⟩
def l9 {ns n} (hn:n=ns.length):∀(r:List Nd) (i:Nat) (p q:Pl),ns.drop i=r→i≤n→gY ns n i p→fC n i r p=some q→gY ns n n q∧pl q 0=pl p 0
 | [],i,p,q,hr,hi,hg,h=>by
   rw[List.drop_eq_nil_iff] at hr
   rw[fC] at h
   injection h with h
   subst h
   have:i=n:=by omega
   subst this
   exact⟨hg,rfl⟩
 | x :: r,i,p,q,hr,hi,hg,h=>by
   have z:i < ns.length:=by
    rcases Nat.lt_or_ge i ns.length with hl | hl
    ·exact hl
    ·rw[List.drop_eq_nil_of_le hl] at hr;cases hr
   rw[List.drop_eq_getElem_cons z] at hr;injection hr with ay aK;have hx:ns[i]? =some x:=by rw[List.getElem?_eq_getElem z,ay]
   rw[fC] at h
   split at h
   ·rename_i p1 a9
    obtain⟨H,h2⟩:=qW hx (by omega) hg a9;obtain⟨h3,h4⟩:=l9 hn r (i+1) p1 q aK (by omega) H h;exact⟨h3,h4.trans (h2 0 (by omega))⟩
   ·cases h
structure vC (f:Fn) (q:Pl):Prop where
 ps0:0≤f.ps
 ps9:f.ps≤9
 one:1≤f.ns.length
 most:f.ns.length≤200
 to_:gY f.ns f.ns.length f.ns.length q
 root:pl q 0=(-1,f.ps)
def kL {f} (h:b2 f=true):∃q,vC f q:=by
 unfold b2 at h;rw[Bool.and_eq_true,decide_eq_true_eq,Option.isSome_iff_exists] at h;obtain⟨⟨H,h2,h3,h4⟩,q,hq⟩:=h;have aY:∀j,pl (c' f.ns.length f.ps) j=if 0=j then (-1,f.ps) else pl (List.replicate f.ns.length (-1,0)) j:=fun j=>du _ 0 j _ (by simp;omega)
 obtain⟨g1,g2⟩:=l9 rfl f.ns 0 (c' f.ns.length f.ps) q rfl (by omega) ⟨by simp[c'],fun j x hj=>by omega,fun j x hj=>by omega,fun j x hj=>by omega,fun c hc h0=>by
   exfalso
   rw[aY] at h0
   by_cases hz:0=c
   ·rw[if_pos hz] at h0;simp at h0
   ·rw[if_neg hz] at h0
    unfold pl at h0
    simp[List.getD_eq_getElem?_getD,hc] at h0,rfl⟩ hq
 refine⟨q,H,h2,h3,h4,g1,?_⟩;rw[g2,aY,if_pos rfl]
end
section
open Go.RowKit
def aO {w:World} {b o} (h:w.heap[b]? =some o):b < w.heap.size:=by
 rcases Nat.lt_or_ge b w.heap.size with V | V
 ·exact V
 ·simp[Array.getElem?_eq_none V] at h
structure Fr (S:Nat→Prop) (w w':World):Prop where
 os:w'.os=w.os
 tape:w'.tape=w.tape
 output:w'.output=w.output
 size:w.heap.size≤w'.heap.size
 block:∀k,k < w.heap.size→¬S k→w'.heap[k]? =w.heap[k]?
section
variable {S J:Nat→Prop} {w w1 G:World}
def Fr.refl (S w):Fr S w w:=⟨rfl,rfl,rfl,Nat.le_refl _,fun _ _ _=>rfl⟩
def Fr.trans (h:Fr S w w1) (V:Fr J w1 G) (hS:∀k,k < w.heap.size→J k→S k):Fr S w G:=
 ⟨V.os.trans h.os,V.tape.trans h.tape,V.output.trans h.output,Nat.le_trans h.size V.size,fun k H h2=>(V.block k (Nat.lt_of_lt_of_le H h.size) (fun e=>h2 (hS k H e))).trans (h.block k H h2)⟩
def Fr.same (h:Fr S w w1) (V:Fr S w1 G):Fr S w G:=h.trans V fun _ _ e=>e
def Fr.more (h:Fr S w w1) (hS:∀k,k < w.heap.size→S k→J k):Fr J w w1:=⟨h.os,h.tape,h.output,h.size,fun k H h2=>h.block k H fun e=>h2 (hS k H e)⟩
def Fr.alloc (o):Fr S w (w.alloc o):=⟨rfl,rfl,rfl,by simp,fun _ H _=>Below.heap_alloc _ _ _ H⟩
def Fr.set {q u} (hq:S q.block∨w.heap.size≤q.block):Fr S w (w.setCell q u):=
 ⟨rfl,rfl,rfl,by simp[World.setCell],fun k H h2=>Below.heap_setCell _ _ _ _ (by rcases hq with h | h;(intro e;subst e;exact h2 h);omega)⟩
def Fr.drew:Fr S w w.drew:=⟨rfl,rfl,rfl,Nat.le_refl _,fun _ _ _=>rfl⟩
def Fr.drewN (n):Fr S w (w.drewN n):=⟨rfl,rfl,rfl,Nat.le_refl _,fun _ _ _=>rfl⟩
def Fr.below {B} (h:Below B w w1) (hB:∀k,B≤k→k < w.heap.size→S k):Fr S w w1:=
 ⟨h.os,h.tape,h.output,h.size,fun k H h2=>h.block k (by rcases Nat.lt_or_ge k B with h3 | h3;(exact h3);exact absurd (hB k h3 H) h2)⟩
def Fr.BE (h:Below w.heap.size w w1):Fr S w w1:=Fr.below h fun k H h2=>by omega
def Fr.toBelow (h:Fr S w w1) (B) (hS:∀k,k < B→¬S k) (hB:B≤w.heap.size):Below B w w1:=⟨h.os,h.tape,h.output,h.size,fun k H=>h.block k (by omega) (hS k H)⟩
def Fr.grown {row} (h:w.grownBy w1 row) (hr:∀g,row=some g→S g∨w.heap.size≤g):Fr S w w1:=
 ⟨h.os,h.tape,h.output,h.size,fun k H h2=>h.block k H (fun e=>by rcases hr k e.symm with h3 | h3;(exact h2 h3);omega)⟩
def Fr.cell {k o} (h:Fr S w w1) (H:k < w.heap.size) (h2:¬S k):w1.cell? ⟨k,o,none⟩=w.cell? ⟨k,o,none⟩:=World.cell?_of_block (w:=w) (h.block k H h2)
end
def A (w:World) (g:Nat) (t:TypeId) (cs:List Value):Prop:=w.heap[g]? =some (.cells cs.toArray t (0,0))
section
variable {w w':World} {g:Nat} {t:TypeId} {cs:List Value}
def A.lt (h:A w g t cs):g < w.heap.size:=aO h
def A.new (w:World) (t cs):A (w.alloc (.cells cs.toArray t)) w.heap.size t cs:=heap_alloc_new w _
def A.c (h:A w g t cs) (i) {v} (hi:cs[i]? =some v):w.cell? ⟨g,i,none⟩=some v:=by unfold A at h;unfold World.cell?;simp only[h];simpa using hi
def A.fz (h:A w g t cs) (o):w.frozen? ⟨g,o,none⟩=false:=by unfold A at h;simp[World.frozen?,h]
def A.drew (h:A w g t cs):A w.drew g t cs:=h
def A.drewN (h:A w g t cs) (n):A (w.drewN n) g t cs:=h
def A.alloc (h:A w g t cs) (o):A (w.alloc o) g t cs:=(Below.heap_alloc w o g h.lt).trans h
def A.set (h:A w g t cs) (i u):A (w.setCell ⟨g,i,none⟩ u) g t (cs.set i u):=by unfold A at h ⊢;simp[World.setCell,Array.getElem?_modify,h]
def A.BJ (h:A w g t cs) {q} (hq:g≠q.block) (u):A (w.setCell q u) g t cs:=(Below.heap_setCell w q u g hq).trans h
def A.fr {S} (h:A w g t cs) (hf:Fr S w w') (hg:¬S g):A w' g t cs:=(hf.block g h.lt hg).trans h
def A.BE (h:A w g t cs) (hb:Below w.heap.size w w'):A w' g t cs:=(hb.block g h.lt).trans h
end
def O (ok:Nat→Prop) (w:World) (l:List Int) (a:Option Addr):Prop:=∀(j:Nat) (x:Int),l[j]? =some x→∃g o:Nat,a=some ⟨g,o,none⟩∧ok g∧w.cell? ⟨g,o+j,none⟩=some (.int .i64 x)∧ag x
def aV (ok:Nat→Prop) (w:World) (l:List Nd) (a:Option Addr):Prop:=∀(j:Nat) (x:Nd),l[j]? =some x→∃(g o:Nat) (la:Option Addr) (cap:Nat),a=some ⟨g,o,none⟩∧ok g ∧
 w.cell? ⟨g,o+j*3,none⟩=some (.int .i64 x.op)∧w.cell? ⟨g,o+j*3+1,none⟩=some (.int .i64 x.n)∧w.cell? ⟨g,o+j*3+2,none⟩=some (.slice la x.l.length cap) ∧
 x.l.length≤cap∧cap≤maxLen∧O ok w x.l la∧ag x.op∧ag x.n
def cD (ok:Nat→Prop) (w:World) (l:List Fn) (a:Option Addr):Prop:=∀(j:Nat) (f:Fn),l[j]? =some f→∃(g o:Nat) (Y:Option Addr) (cap:Nat),a=some ⟨g,o,none⟩∧ok g ∧
 w.cell? ⟨g,o+j*2,none⟩=some (.int .i64 f.ps)∧w.cell? ⟨g,o+j*2+1,none⟩=some (.slice Y f.ns.length cap) ∧
 f.ns.length≤cap∧cap≤maxLen∧aV ok w f.ns Y∧ag f.ps
section
variable {ok ok':Nat→Prop} {w w':World}
def O.et (h:∀g,ok g→∀o,w'.cell? ⟨g,o,none⟩=w.cell? ⟨g,o,none⟩) {l a} (hi:O ok w l a):O ok w' l a:=by intro j x hx;obtain⟨g,o,H,h2,h3,h4⟩:=hi j x hx;exact⟨g,o,H,h2,(h g h2 _).trans h3,h4⟩
def O.more (h:∀g,ok g→ok' g) {l a} (hi:O ok w l a):O ok' w l a:=by intro j x hx;obtain⟨g,o,H,h2,h3,h4⟩:=hi j x hx;exact⟨g,o,H,h g h2,h3,h4⟩
def aV.et (h:∀g,ok g→∀o,w'.cell? ⟨g,o,none⟩=w.cell? ⟨g,o,none⟩) {l a} (hi:aV ok w l a):aV ok w' l a:=by intro j x hx;obtain⟨g,o,la,cap,H,h2,h3,h4,h5,h6,h7,M,h9⟩:=hi j x hx;exact⟨g,o,la,cap,H,h2,(h g h2 _).trans h3,(h g h2 _).trans h4,(h g h2 _).trans h5,h6,h7,M.et h,h9⟩
def aV.more (h:∀g,ok g→ok' g) {l a} (hi:aV ok w l a):aV ok' w l a:=by intro j x hx;obtain⟨g,o,la,cap,H,h2,h3,h4,h5,h6,h7,M,h9⟩:=hi j x hx;exact⟨g,o,la,cap,H,h g h2,h3,h4,h5,h6,h7,M.more h,h9⟩
def cD.et (h:∀g,ok g→∀o,w'.cell? ⟨g,o,none⟩=w.cell? ⟨g,o,none⟩) {l a} (hi:cD ok w l a):cD ok w' l a:=by intro j x hx;obtain⟨g,o,la,cap,H,h2,h3,h4,h5,h6,h7,M⟩:=hi j x hx;exact⟨g,o,la,cap,H,h2,(h g h2 _).trans h3,(h g h2 _).trans h4,h5,h6,h7.et h,M⟩
def cD.more (h:∀g,ok g→ok' g) {l a} (hi:cD ok w l a):cD ok' w l a:=by intro j x hx;obtain⟨g,o,la,cap,H,h2,h3,h4,h5,h6,h7,M⟩:=hi j x hx;exact⟨g,o,la,cap,H,h g h2,h3,h4,h5,h6,h7.more h,M⟩
def aV.fr {S l a} (hi:aV ok w l a) (hf:Fr S w w') (h:∀g,ok g→g < w.heap.size∧¬S g):aV ok w' l a:=hi.et fun g hg _=>hf.cell (h g hg).1 (h g hg).2
def O.fr {S l a} (hi:O ok w l a) (hf:Fr S w w') (h:∀g,ok g→g < w.heap.size∧¬S g):O ok w' l a:=hi.et fun g hg _=>hf.cell (h g hg).1 (h g hg).2
def aV.below {B l a} (hi:aV (· < B) w l a) (hb:Below B w w'):aV (· < B) w' l a:=hi.et fun g hg o=>hb.cell (p:=⟨g,o,none⟩) hg
def O.below {B l a} (hi:O (· < B) w l a) (hb:Below B w w'):O (· < B) w' l a:=hi.et fun g hg o=>hb.cell (p:=⟨g,o,none⟩) hg
def cD.below {B l a} (hi:cD (· < B) w l a) (hb:Below B w w'):cD (· < B) w' l a:=hi.et fun g hg o=>hb.cell (p:=⟨g,o,none⟩) hg
end
end
section
open Go.RowKit
def dY (op:Int):Int×Int×Bool:=
 if op=1∨op=2∨op=15∨op=19∨op=3 then (0,0,true)
 else if op=11∨op=12∨op=17∨op=18∨op=24 then (1,1,true)
 else if op=4∨op=6∨op=7∨op=8∨op=9∨op=10∨op=16 then (2,2,true)
 else if op=5 then (3,3,true)
 else if op=13∨op=14∨op=22∨op=23 then (0,8,true)
 else if op=20 then (0,16,true)
 else if op=21 then (1,9,true)
 else (0,0,false)
def vr (op m):eq op m=((dY op).2.2 && decide ((dY op).1≤(m:Int)) && decide ((m:Int)≤(dY op).2.1)):=by
 unfold eq dY
 repeat' split
 all_goals first
  | omega
  | (rw[Bool.eq_iff_iff];simp;omega)
  | (rw[Bool.eq_iff_iff];simp)
def t4 (op w):Calls prog 243 #[.int .i64 op] w fun e w'=>e= .returned (.tuple #[.int .i64 (dY op).1,.int .i64 (dY op).2.1,.bool (dY op).2.2])∧w=w':=by
 go_enter func243,ntmps243;go_wp2_with fail
 all_goals go_ret3
 all_goals refine⟨?_,rfl⟩
 all_goals simp_all [dY]
def kA (op w):Calls prog 204 #[.int .i64 op] w fun e w'=>e= .returned (.bool (d' op))∧w=w':=by
 go_enter func204,ntmps204;go_wp2_with fail
 all_goals go_ret
 all_goals refine⟨bY ?_,rfl⟩
 all_goals (simp_all [d']) <;> first
   | omega
   | (rw[Bool.eq_iff_iff];simp;done)
   | (rw[Bool.eq_iff_iff];simp;omega)
def bT (x:Nd) (la:Option Addr) (cap:Nat):Value:= .agg #[.int .i64 x.op,.int .i64 x.n,.slice la x.l.length cap]
def zk {p q:Prop} (k:q) (h:Zq q→p:=by
 intro mq;have hb:=A.new w 141 [.int .i64 x.op,.int .i64 x.n,.slice la x.l.length cap];have c0:=hb.c 0 rfl;have c1:=hb.c 1 rfl;have c2:=hb.c 2 rfl;have aO:Below w.heap.size w (w.alloc (.cells #[.int .i64 x.op,.int .i64 x.n,.slice la x.l.length cap] 141)):=(Below.refl _ _).alloc (Nat.le_refl _) _;unfold bT;revert hb c0 c1 c2 aO
 exact mq.u):p:=h ⟨k⟩
def p' (x la cap d w):Calls prog 244 #[bT x la cap,.int .i64 d] w fun e w'=>e= .returned (.bool (ez x.op x.n d))∧Below w.heap.size w w':=by
 refine zk ?_;intro hb c0 c1 c2 aO;obtain⟨op,n,l⟩:=x;dsimp only at *;go_enter func244,ntmps244;go_wp2_with (go_at_call 204;refine (kA op _).mono ?_;rintro e w1 ⟨rfl,rfl⟩)
 all_goals go_ret
 all_goals refine⟨bY ?_,aO⟩
 all_goals (simp_all [ez]) <;> first
   | omega
   | (rw[Bool.eq_iff_iff];simp;done)
   | (rw[Bool.eq_iff_iff];simp;omega)
end
section
open Go.RowKit
def lZ {n} (H:-9223372036854775808≤n) (h2:n≤9223372036854775807):wrap64 n=n:=by unfold wrap64;omega
def vO (x) (hx:x.l.length≤1000000) (la cap ps w):Calls prog 162 #[bT x la cap,.int .i64 ps] w fun e w'=>e= .returned (.bool (gL x ps))∧Below w.heap.size w w':=by
 refine zk ?_;intro hb c0 c1 c2 aO;obtain⟨op,n,l⟩:=x;have aE:wrap64 ((l.length:Int)+1)=(l.length:Int)+1:=lZ (by omega) (by dsimp only at hx;omega);dsimp only at *;go_enter func162,ntmps162;go_wp2_with fail
 all_goals go_ret
 all_goals refine⟨bY ?_,aO⟩
 all_goals simp_all [gL]
end
end
end Go.Proofs.YtmchabopafimeaaGreatDoor
