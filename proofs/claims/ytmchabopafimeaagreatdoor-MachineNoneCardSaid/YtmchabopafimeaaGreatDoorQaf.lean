import Derived.Test.YtmchabopafimeaaGreatDoorQad
namespace Go.Proofs.YtmchabopafimeaaGreatDoor
set_option maxRecDepth 100000
set_option maxHeartbeats 16000000
set_option linter.all false
open Go.RowKit Go.Sort Tryz
def vZ:VT:= .mk 0 0 []
def dm:VT:= .mk 1 0 []
def iZ (n:Int):VT:= .mk 2 n []
def eX (v:VT):Bool:=cZ v.kd && right v
structure cW where
 fn:Nat
 nd:Nat
 vars:List VT
 dn:List VT
structure ba where
 st:Int
 val:VT
 fs:List cW
def f6 (p:List Fn) (f n:Nat):Nd:=((p.getD f ⟨0,[]⟩).ns).getD n ⟨0,0,[]⟩
def kid (x:Nd) (i:Nat):Nat:=(x.l.getD i 0).toNat
def c4:ba:=⟨4,vZ,[]⟩
def o2 (v:VT):Option Bool:=if right v=true∧v.kd=2 then some (v.n != 0) else none
def eJ (fs:List cW) (l:cW) (x:Nd):ba:=
 if x.op=24 then (if eX (l.dn.getD 0 vZ)=true then ⟨2,vZ,fs⟩ else c4)
 else if x.op=15∨x.op=14 then ⟨2,vZ,fs⟩ else ⟨1,vZ,fs⟩
def cJ (p:List Fn):Nat→List cW→ba
 | 0,_=>c4
 | f+1,fs=>match fs.getLast? with
   | none=>c4
   | some l=>
     let x:=f6 p l.fn l.nd
     if x.op=4∧l.dn.length=1 then cJ p f (fs.dropLast ++ [⟨l.fn,kid x 1,l.vars ++ l.dn,[]⟩])
     else if x.op=5∧l.dn.length=1 then match o2 (l.dn.getD 0 vZ) with
      | none=>c4
      | some t=>cJ p f (fs.dropLast ++ [⟨l.fn,kid x (if t then 1 else 2),l.vars,[]⟩])
     else if l.dn.length=x.l.length then eJ fs l x
     else if 256≤fs.length then c4
     else cJ p f (fs ++ [⟨l.fn,kid x l.dn.length,l.vars,[]⟩])
def dJ:Nat:=257*201
def d6 (op:Int):Int:=
 if op=2 then 1 else if op=1 then 2 else if op=10 then 3 else if op=16 then 5 else if op=17 then 6 else if op=18 then 7
 else if op=19 then 8 else if op=20 then 9 else if op=21 then 10 else if op=22 then 11 else if op=23 then 12 else 0
def gv (k n:Int) (l:List VT):Option VT:=if right (.mk k n l)=true then some (.mk k n l) else none
def ji (a b:VT) (f:Int→Int→Int):Option VT:=if right a=true∧right b=true∧a.kd=2∧b.kd=2 then some (iZ (f a.n b.n)) else none
def oa (b:Bool):Int:=if b then 1 else 0
def nX (v:VT) (i:Nat):Option VT:=if right v=true∧v.kd=3 then some (v.l.getD i vZ) else none
def ec (l:cW) (x:Nd):Option VT:=
 let a:=l.dn.getD 0 vZ
 let b:=l.dn.getD 1 vZ
 if x.op=3 then some (l.vars.getD x.n.toNat vZ)
 else if x.op=6 then ji a b fun i j=>wrap64 (i+j)
 else if x.op=7 then ji a b fun i j=>wrap64 (i - j)
 else if x.op=8 then (if right a=true∧right b=true then some (iZ (oa (l2 a b))) else none)
 else if x.op=9 then ji a b fun i j=>oa (decide (i < j))
 else if x.op=11 then nX a 0
 else if x.op=12 then nX a 1
 else gv (d6 x.op) x.n l.dn
def eQ (p:List Fn) (fs:List cW) (v:VT):ba:=
 match fs.dropLast.getLast? with
 | none=>⟨3,v,[]⟩
 | some l=>cJ p dJ (fs.dropLast.dropLast ++ [⟨l.fn,l.nd,l.vars,l.dn ++ [v]⟩])
def ja (p:List Fn) (F:ba):Option ba:=
 if F.st≠1 then none else match F.fs.getLast? with
 | none=>none
 | some l=>
   let x:=f6 p l.fn l.nd
   if x.op=13 then some (cJ p dJ (F.fs.dropLast ++ [⟨x.n.toNat,0,l.dn,[]⟩]))
   else match ec l x with
    | none=>some c4
    | some v=>some (eQ p F.fs v)
structure ih where
 kind:Int
 fn:Int
 args:List VT
def fP (p:List Fn) (F:ba):Option ih:=
 if F.st≠2 then none else match F.fs.getLast? with
 | none=>none
 | some l=>
   let x:=f6 p l.fn l.nd
   if x.op=14 then some ⟨2,x.n,l.dn⟩ else if x.op=24 then some ⟨3,0,l.dn⟩ else some ⟨1,0,[]⟩
structure f0 where
 fn:Int
 args:List VT
structure bI where
 kd:Int
 n:Int
 v:VT
 wr:List f0
 nk:List Int
structure V where
 sy:Int
 th:Int
 br:Int
 fl:Int
 v:VT
def bL:V:=⟨0,0,0,0,vZ⟩
structure dN where
 at_:Nat
 sq:List V
 rq:List V
structure fX where
 lk:Nat
 fd:Nat
 q:List V
structure cd where
 th:Int
 bases:List bI
 conds:List Int
 fl:Int
 parked:Bool
 done:Bool
 br:Int
 v:VT
 pa:Int
structure aH where
 most:Nat
 cells:List Nat
 cnt:Nat
 chs:List dN
 cos:List fX
 sys:List cd
abbrev Wm (α:Type):=aH→Except Int α×aH
def Wm.ret {α:Type} (x:α):Wm α:=fun w=>(.ok x,w)
def Wm.err {α:Type} (e:Int):Wm α:=fun w=>(.error e,w)
def Wm.bind {α β:Type} (x:Wm α) (f:α→Wm β):Wm β:=fun w=>match x w with
 | (.ok a,w')=>f a w'
 | (.error e,w')=>(.error e,w')
def Wm.get {α:Type} (f:aH→Wm α):Wm α:=fun w=>f w w
def ci (b:Bool) (e:Int):Wm Unit:=if b then Wm.ret () else Wm.err e
def eR (n:Nat):Wm Nat:=fun w=>if w.most - w.cells.length < n then (.error 6,w) else (.ok w.cells.length,{w with cells:=w.cells ++ List.replicate n 0})
def ff (i:Int) (f:Nat→Nat):Wm Nat:=fun w=>if i < 0∨(w.cells.length:Int)≤i then (.error 4,w)
 else (.ok (w.cells.getD i.toNat 0),{w with cells:=w.cells.set i.toNat (f (w.cells.getD i.toNat 0)),cnt:=w.cnt+1})
def fD (i:Int) (old new:Nat):Wm Nat:=ff i fun z=>if z=old then new else z
def jV (i:Nat):Wm Bool:=(fD i 0 1).bind fun z=>Wm.ret (z == 0)
def jk (i:Nat):Wm Unit:=(fD i 1 0).bind fun z=>ci (z == 1) 30
def gr (x:Wm Nat):Wm Int:=x.bind fun n=>if 2 < n then Wm.err 120 else Wm.ret (n:Int)
def eK (c:Int):Wm dN:=fun w=>if c < 0∨(w.chs.length:Int)≤c then (.error 4,w) else (.ok (w.chs.getD c.toNat ⟨0,[],[]⟩),w)
def eU (c:Int):Wm fX:=fun w=>if c < 0∨(w.cos.length:Int)≤c then (.error 4,w) else (.ok (w.cos.getD c.toNat ⟨0,0,[]⟩),w)
def az (s:Int):Wm cd:=fun w=>if s < 0∨(w.sys.length:Int)≤s then (.error 4,w) else (.ok (w.sys.getD s.toNat ⟨0,[],[],0,false,false,0,vZ,0⟩),w)
def iE (c:Int) (x:dN):Wm Unit:=fun w=>(.ok (),{w with chs:=w.chs.set c.toNat x})
def u7 (c:Int) (x:fX):Wm Unit:=fun w=>(.ok (),{w with cos:=w.cos.set c.toNat x})
def ge (s:Int) (x:cd):Wm Unit:=fun w=>(.ok (),{w with sys:=w.sys.set s.toNat x})
def cw:Wm Int:=(eR 1).bind fun i w=>(.ok (w.chs.length:Int),{w with chs:=w.chs ++ [⟨i,[],[]⟩]})
def cL (v:VT):Bool:=v.kd == 0 && v.n == 0 && v.l.length == 0
def dt (w:aH) (conds:List Int) (b:bI):Bool:=
 (if b.kd=5 then decide (0≤b.n∧b.n < w.chs.length) && right b.v
  else if b.kd=6 then decide (0≤b.n∧b.n < w.chs.length) && cL b.v
  else if b.kd=7 then b.n == 0 && right b.v
  else if b.kd=8 then b.n == 0 && cL b.v
  else if b.kd=13 then decide (0≤b.n∧b.n < w.cos.length) && cL b.v else false)
 && decide (b.wr.length≤32) && decide (b.nk.length≤32) && b.wr.all (fun c=>c.args.all right) && b.nk.all fun n=>conds.contains n
def eN (m:Int):Int→List Int→Bool
 | _,[]=>true
 | last,n :: r=>decide (last < n∧n < m) && eN m n r
def b3 (th:Int) (bases:List bI) (conds:List Int):Wm Int:=Wm.get fun w=>
 (ci (decide (0≤th) && eN w.cos.length (-1) conds) 2).bind fun _=>(ci (decide (bases.length≤32)) 2).bind fun _=>(ci (bases.all (dt w conds)) 2).bind fun _=>
 (eR 1).bind fun i w=>(.ok (w.sys.length:Int),{w with sys:=w.sys ++ [⟨th,bases,conds,i,false,false,0,vZ,0⟩]})
def cN (c:Int):Wm Bool:=(eK c).bind fun x=>jV x.at_
def b1 (c:Int):Wm Unit:=(eK c).bind fun x=>jk x.at_
def aJ (x:dN) (send:Bool):List V:=if send then x.sq else x.rq
def bZ (x:dN) (send:Bool) (l:List V):dN:=if send then ⟨x.at_,l,x.rq⟩ else ⟨x.at_,x.sq,l⟩
def eG (c:Int) (send:Bool) (i:Nat):Wm (Option V):=(eK c).bind fun x=>Wm.ret (aJ x send)[i]?
def e' (c:Int) (send:Bool) (i:Nat):Wm Unit:=(eK c).bind fun x=>iE c (bZ x send ((aJ x send).eraseIdx i))
def eg (e:V):Bool:=decide (0≤e.sy∧0≤e.th∧0≤e.br∧0≤e.fl) && (if e.v.kd=0 then e.v.n == 0 && e.v.l.length == 0 else right e.v)
def bV (q:List V) (e:V):Except Int (List V):=if eg e=false then .error 2 else if 4096≤q.length then .error 6 else .ok (q ++ [e])
def cS (c:Int) (send:Bool) (e:V):Wm Unit:=(eK c).bind fun x=>match bV (aJ x send) e with
 | .error n=>Wm.err n
 | .ok l=>iE c (bZ x send l)
def p4 (c:Int):Wm Bool:=(eU c).bind fun x=>jV x.lk
def sJ (c:Int):Wm Unit:=(eU c).bind fun x=>jk x.lk
def dg (c:Int):Wm Bool:=(eU c).bind fun x=>(ff x.fd id).bind fun n=>Wm.ret (n != 0)
def qw (c:Int) (e:V):Wm Unit:=(eU c).bind fun x=>match bV x.q e with
 | .error n=>Wm.err n
 | .ok l=>u7 c ⟨x.lk,x.fd,l⟩
def qY (s:Int):Wm Int:=(az s).bind fun x=>gr (fD x.fl 0 1)
def pS (s:Int):Wm Unit:=(az s).bind fun x=>(ff x.fl fun _=>0).bind fun _=>Wm.ret ()
def cR (s:Int):Wm Int:=(az s).bind fun x=>gr (fD x.fl 0 2)
def ct (s:Int):Wm Unit:=(az s).bind fun x=>(ff x.fl fun _=>2).bind fun _=>Wm.ret ()
def xB (s:Int):Wm Int:=(az s).bind fun x=>gr (ff x.fl id)
def dQ (s br:Int) (v:VT) (pa:Int):Wm Unit:=(az s).bind fun x=>(ci (decide (0≤br∧br < x.bases.length)) 2).bind fun _=>(ci (right v) 2).bind fun _=>
 (Wm.get fun w=>ci (decide (-1≤pa∧pa < w.sys.length)) 2).bind fun _=>(ci (!x.done) 160).bind fun _=>ge s ⟨x.th,x.bases,x.conds,x.fl,x.parked,true,br,v,pa⟩
def fa (s:Int):Wm Bool:=(az s).bind fun x=>(gr (ff x.fl id)).bind fun z=>(ge s ⟨x.th,x.bases,x.conds,x.fl,z != 2,x.done,x.br,x.v,x.pa⟩).bind fun _=>Wm.ret (z != 2)
def gX (s:Int):Wm Unit:=(az s).bind fun x=>ge s ⟨x.th,x.bases,x.conds,x.fl,false,x.done,x.br,x.v,x.pa⟩
def ic (s br:Int):Wm V:=(az s).bind fun x=>(ci (decide (0≤br∧br < x.bases.length)) 2).bind fun _=>Wm.ret ⟨s,x.th,br,x.fl,(x.bases.getD br.toNat ⟨0,0,vZ,[],[]⟩).v⟩
structure db where
 kind:Int
 sync:Int
 partner:Int
 cond:Int
structure bP where
 ent:V
 at_:Int
 own:Int
 br:Int
 kd:Int
 n:Int
 v:VT
 met:Bool
 pa:Int
def j6 (s br:Int):Wm bP:=(az s).bind fun x=>(ci (decide (0≤br∧br < x.bases.length)) 2).bind fun _=>(ci (!x.done) 160).bind fun _=>
 let b:=x.bases.getD br.toNat ⟨0,0,vZ,[],[]⟩
 Wm.ret ⟨bL,if b.kd=5∨b.kd=6 then 1 else if b.kd=7 then 9 else if b.kd=13 then 8 else 10,s,br,b.kd,b.n,b.v,false,0⟩
def nQ (p:bP):Wm (bP×Bool):=
 let other:=!(p.kd == 5)
 if p.at_=1 then (cN p.n).bind fun ok=>Wm.ret ({p with at_:=if ok then 2 else 1},false)
 else if p.at_=2 then (eG p.n other 0).bind fun x=>Wm.ret (match x with
  | some e=>({p with ent:=e,at_:=3},false)
  | none=>({p with ent:=bL,at_:=6},false))
 else if p.at_=3 then (cR p.ent.sy).bind fun f=>
  if f=1 then Wm.ret (p,false) else if f=2 then Wm.ret ({p with at_:=4},false)
  else (dQ p.own p.br (if p.kd=6 then p.ent.v else dm) p.ent.sy).bind fun _=>(dQ p.ent.sy p.ent.br (if p.kd=6 then dm else p.v) p.own).bind fun _=>
   Wm.ret ({p with met:=true,pa:=p.ent.sy,at_:=5},true)
 else if p.at_=4 then (e' p.n other 0).bind fun _=>Wm.ret ({p with at_:=2},false)
 else if p.at_=5 then (e' p.n other 0).bind fun _=>Wm.ret ({p with at_:=7},false)
 else if p.at_=6 then (b1 p.n).bind fun _=>Wm.ret ({p with at_:=10},false)
 else if p.at_=7 then (b1 p.n).bind fun _=>Wm.ret ({p with at_:=11},false)
 else if p.at_=8 then (dg p.n).bind fun f=>Wm.ret ({p with at_:=if f then 9 else 10},false)
 else if p.at_=9 then (ct p.own).bind fun _=>(dQ p.own p.br (if p.kd=7 then p.v else dm) (-1)).bind fun _=>Wm.ret ({p with at_:=11},true)
 else Wm.err 100
def nJ (p:bP):Wm (bP×db):=(nQ p).bind fun r=>Wm.ret (r.1,
 if r.2 && r.1.met then ⟨3,r.1.own,r.1.pa,0⟩ else if r.2 then ⟨3,r.1.own,-1,0⟩ else if r.1.at_=p.at_ then ⟨1,0,0,0⟩ else ⟨2,0,0,0⟩)
structure bR where
 ent:V
 at_:Int
 own:Int
 br:Int
 kd:Int
 n:Int
 v:VT
 place:Nat
 met:Bool
 pa:Int
def hy (s br:Int):Wm bR:=(az s).bind fun x=>(ci (decide (0≤br∧br < x.bases.length)) 2).bind fun _=>
 let b:=x.bases.getD br.toNat ⟨0,0,vZ,[],[]⟩
 Wm.ret ⟨bL,if b.kd=5∨b.kd=6∨b.kd=13 then 1 else if b.kd=7 then 17 else 18,s,br,b.kd,b.n,b.v,0,false,0⟩
def gA (at_:Int):Int:=
 if at_=5 then 6 else if at_=7 then 8 else if at_=8 then 2 else if at_=9 then 10 else if at_=10 then 11 else if at_=11 then 19 else if at_=12 then 20
 else if at_=13 then 14 else if at_=14 then 18 else if at_=16 then 17 else at_
def k3 (b:bR):Wm (bR×Bool):=
 let send:=b.kd == 5
 let cond:=b.kd == 13
 let k:=b.at_
 if k=1 then (if cond then p4 b.n else cN b.n).bind fun ok=>Wm.ret ({b with at_:=if ok then (if cond then 15 else 2) else 1},false)
 else if k=2 then (eG b.n (!send) b.place).bind fun x=>Wm.ret (match x with
  | none=>({b with at_:=13},false)
  | some e=>if e.sy=b.own then ({b with place:=b.place+1},false) else ({b with ent:=e,at_:=3},false))
 else if k=3 then (qY b.own).bind fun f=>Wm.ret ({b with at_:=if f=0 then 4 else if f=2 then 12 else 3},false)
 else if k=4 then (cR b.ent.sy).bind fun f=>
  if f=2 then Wm.ret ({b with at_:=7},false) else if f=1 then Wm.ret ({b with at_:=if b.ent.sy≤b.own then 5 else 4},false)
  else (dQ b.own b.br (if b.kd=6 then b.ent.v else dm) b.ent.sy).bind fun _=>(dQ b.ent.sy b.ent.br (if b.kd=6 then dm else b.v) b.own).bind fun _=>
   Wm.ret ({b with met:=true,pa:=b.ent.sy,at_:=9},true)
 else if k=5∨k=7 then (pS b.own).bind fun _=>Wm.ret ({b with at_:=gA k},false)
 else if k=6 then (xB b.ent.sy).bind fun f=>Wm.ret ({b with at_:=if f≠1 then 3 else 6},false)
 else if k=8∨k=10 then (e' b.n (!send) b.place).bind fun _=>Wm.ret ({b with at_:=gA k},false)
 else if k=9 then (ct b.own).bind fun _=>Wm.ret ({b with at_:=gA k},false)
 else if k=11∨k=12∨k=14∨k=16 then (if cond then sJ b.n else b1 b.n).bind fun _=>Wm.ret ({b with at_:=gA k},false)
 else if k=13 then (ic b.own b.br).bind fun e=>(if cond then qw b.n e else cS b.n send e).bind fun _=>Wm.ret ({b with at_:=gA k},false)
 else if k=15 then (dg b.n).bind fun f=>Wm.ret ({b with at_:=if f then 16 else 13},false)
 else if k=17 then (cR b.own).bind fun f=>if f≠0 then Wm.ret ({b with at_:=20},false)
  else (dQ b.own b.br (if b.kd=7 then b.v else dm) (-1)).bind fun _=>Wm.ret ({b with at_:=19},true)
 else Wm.err 100
def lU (b:bR):Wm (bR×db):=(k3 b).bind fun r=>Wm.ret (r.1,
 if r.2 && r.1.met then ⟨3,r.1.own,r.1.pa,0⟩ else if r.2 then ⟨3,r.1.own,-1,0⟩ else if r.1.at_=b.at_∧r.1.place=b.place then ⟨1,0,0,0⟩ else ⟨2,0,0,0⟩)
def ρ (_:bI) (_:Option Addr) (_:Nat) (_:Option Addr) (_:Nat) (_:Option Addr) (_:Nat):Qi:=.a
instance (b a c d e f g):CoeDep Qi (ρ b a c d e f g) (Array Value):=⟨#[.int .i64 b.kd,.int .i64 b.n,.int .i64 b.v.kd,.int .i64 b.v.n,.slice a b.v.l.length c,.slice d b.wr.length e,.slice f b.nk.length g]⟩
instance (b a c d e f g):CoeDep Qi (ρ b a c d e f g) Obj:=⟨.cells #[.int .i64 b.kd,.int .i64 b.n,.int .i64 b.v.kd,.int .i64 b.v.n,.slice a b.v.l.length c,.slice d b.wr.length e,.slice f b.nk.length g] 194⟩
def cA {w b T x0 x1 x2} (h:A w b T [x0,x1,x2]) (v0 v1 v2):A (σ3 w b v0 v1 v2) b T [v0,v1,v2]:=((h.set 0 v0).set 1 v1).set 2 v2
def cU {B b w w1} (h:Below B w w1) (hb:B≤b) (v0 v1 v2):Below B w (σ3 w1 b v0 v1 v2):=((h.setCell hb _).setCell hb _).setCell hb _
def vU {B b w t v} (h:aG (Nw B w) w t v) (hb:b < B) (v0 v1 v2):aG (Nw B (σ3 w b v0 v1 v2)) (σ3 w b v0 v1 v2) t v:=by
 have aJ:∀g,g≠b→∀o,(σ3 w b v0 v1 v2:World).cell? (κ g o)=w.cell? (κ g o):=fun g ay o=>
  Zd (by rw[Below.heap_setCell _ _ _ _ ay,Below.heap_setCell _ _ _ _ ay,Below.heap_setCell _ _ _ _ ay])
 exact (h.et fun g hg o=>aJ g (by have:=hg.1;omega) o).more fun g hg=>⟨hg.1,by simpa [World.setCell] using hg.2⟩
def aG.from {B B' w t v} (h:aG (Nw B' w) w t v) (hB:B≤B'):aG (Nw B w) w t v:=h.more fun _ hg=>⟨Zp hB hg.1,hg.2⟩
def ew (r:Option VT) (w:World) (e:Ending) (w':World):Prop:=Below w.heap.size w w'∧match r with
 | some t=>∃v,e= .returned (.tuple #[v,.int .i64 0])∧aG (Nw w.heap.size w') w' t v
 | none=>∃n:Int,n≠0∧e= .returned (.tuple #[.agg #[.int .i64 0,.int .i64 0,.slice none 0 0],.int .i64 n])
def ew.no {r w w' n} (hr:Hid (r=none)) (hn:n≠0) (hb:Below (ν w) w w'):ew r w (.returned (.tuple #[.agg #[ι 0,ι 0,ζ],ι n])) w':=by rw[hr.out];exact⟨hb,n,hn,rfl⟩
def ew.yes {r t w w' v} (hr:Hid (r=some t)) (hb:Below (ν w) w w') (hv:aG (Nw (ν w) w') w' t v):ew r w (.returned (.tuple #[v,ι 0])) w':=by rw[hr.out];exact⟨hb,v,rfl,hv⟩
def gR {t} (h:right t=true):small t=true:=by unfold right at h;simp only[Bool.and_eq_true] at h;exact h.1
def oU (k n l a cap w) (hv:aG (ο w) w (.mk k n l) (.agg #[ι k,ι n,.slice a l.length cap])) :
  Calls prog 213 #[ι k,ι n,.slice a l.length cap] w (ew (gv k n l) w):=by
 have aa:=(am w (.cells #[ι 0,ι 0,ζ] 86)).alloc ξ (.cells #[ι k,ι n,.slice a l.length cap] 86);have O:=(Zh w 86 [ι 0,ι 0,ζ]).alloc (.cells #[ι k,ι n,.slice a l.length cap] 86);have Z:=Zh (w.alloc θ1) 86 [ι k,ι n,.slice a l.length cap];rw[show (w.alloc θ1).heap.size=w.heap.size+1 by simp] at Z;have ab:=hv.later aa;have a8:w.heap.size+1 < ((w.alloc θ1).alloc (.cells #[ι k,ι n,.slice a l.length cap] 86)).heap.size:=by simp
 obtain⟨b,hb⟩:∃b,right (.mk k n l)=b:=⟨_,rfl⟩;have HM:Hid (gv k n l=if b=true then some (.mk k n l) else none):=by show _=_;unfold gv;rw[hb]
 have HB:=χ hb;clear hv hb;go_enter func213,ntmps213;go_upto_region 2 with fail;generalize (w.alloc θ1).alloc (.cells #[ι k,ι n,.slice a l.length cap] 86)=G at *;obtain⟨c0,c1,c2,-⟩:=kc2 Z;go_wp2_with fail;refine (kl _ _ _ ab).mono ?_;rw[HB.out];rintro e E ⟨rfl,ac⟩;have ao:=aa.trans (ac.mono aa.size);have ai:=ab.later ac;have h:=O.BE ac;have H:=Z.BE ac;have a5:=ac.size;clear O Z c0 c1 c2 ab;obtain⟨e0,f0,e1,f1,e2,f2,-⟩:=kb2 h;cases b with
 | false=>go_wp2_with fail;have hr:=cA h (ι 0) (ι 0) (.slice none 0 0);exact Zl (v:= .tuple #[.agg #[ι 0,ι 0,ζ],ι 40]) (by simp[results,results213,go_sem,hr.c 0 rfl,hr.c 1 rfl,hr.c 2 rfl]) rfl (ew.no HM ω (cU ao (Zc _) _ _ _))
 | true=>
   obtain⟨d0,d1,d2,-⟩:=kc2 H;go_wp2_with fail;refine (k0 _ _ _ (m3 (gR HB.out)) ai).mono ?_;rintro e M ⟨I,rfl,ah,an⟩;obtain⟨a4,z,rfl,aL,L⟩:=an.three;have J:=h.BE ah;clear f0 f1 f2 e0 e1 e2 d0 d1 d2 h H;obtain⟨e0,f0,e1,f1,e2,f2,-⟩:=kb2 J;dsimp only[VT.kd,VT.n,VT.l] at *;go_wp2_with fail;have hr:=cA J (ι k) (ι n) (.slice a4 l.length z);exact Zl (v:= .tuple #[.agg #[ι k,ι n,.slice a4 l.length z],ι 0]) (by simp[results,results213,go_sem,hr.c 0 rfl,hr.c 1 rfl,hr.c 2 rfl]) rfl
     (ew.yes HM (cU (ao.trans (ah.mono ao.size)) (Zc _) _ _ _) ((vU an ω _ _ _).from ω))
def l8 (t v w) (hv:aG (ο w) w t v) :
  Calls prog 195 #[v] w (ϑ (.bool (eX t)) w):=by
 obtain⟨a,cap,rfl,hl,hm⟩:=hv.three;have af:=am w (.cells #[ι t.kd,ι t.n,.slice a t.l.length cap] 86);have ab:=hv.later af;unfold eX;obtain⟨x,hx⟩:∃x,cZ t.kd=x:=⟨_,rfl⟩;obtain⟨y,hy⟩:∃y,right t=y:=⟨_,rfl⟩;rw[hx,hy];have HX:=χ hx;have Z:=χ hy;clear hx hy hv;cases x
 all_goals
  go_enter func195,ntmps195;go_wp2_with fail;refine (iG _ _ _ (.inl rfl)).mono ?_;rw[HX.out];rintro e w' ⟨rfl,rfl⟩;go_wp2_with fail
 ·go_ret
  exact⟨rfl,af⟩
 ·refine (kl _ _ _ ab).mono ?_
  rw[Z.out];rintro e E ⟨rfl,ac⟩;go_wp2_with fail;go_ret;exact⟨rfl,af.trans (ac.mono af.size)⟩

def fK (w):Calls prog 192 #[] w (ϑ (.agg #[ι 1,ι 0,ζ]) w):=by go_enter func192,ntmps192;go_wp2_with fail;exact Zl (v:= .agg #[ι 1,ι 0,ζ]) (by simp[results,results192,go_sem]) rfl ⟨rfl,am _ _⟩

section
section
variable {α:Type} {P:α→List Value→Prop} {ok:Nat→Prop} {w:World} {sz:Nat} {l:List α}
def aU.BZ {g U} (h:aU P ok w sz l (some ⟨g,U,none⟩)):∀n,n≤l.length→∃xs,aD P sz (l.take n) xs∧∀j u,xs[j]? =some u→w.cell? (κ g (U+j))=some u
 | 0,_=>⟨[],by rw[List.take_zero];exact Ya _ _,fun j u hu=>by simp at hu⟩
 | n+1,hn=>by
   obtain⟨xs,H,h2⟩:=aU.BZ h n ω
   obtain⟨x,hx⟩:∃x,l[n]? =some x:=⟨_,Zg ω⟩
   obtain⟨g',J,cs,e,-,h4,h5,h6⟩:=h n x hx
   injection e with e
   injection e with e1 e2 _
   subst e1
   subst e2
   have aI:xs.length=n*sz:=by rw[H.1,List.length_take,Nat.min_eq_left ω]
   have e3:l.take (n+1)=l.take n ++ [x]:=by
    rw[List.take_add_one,hx];rfl
   refine⟨xs ++ cs,by rw[e3];exact H.push h6 h4,fun j u hu=>?_⟩
   by_cases hj:j < xs.length
   ·rw[List.getElem?_append_left hj] at hu
    exact h2 j u hu
   ·rw[List.getElem?_append_right ω] at hu
    have ad:j - xs.length < sz:=by have:=(Ze.1 hu).1;omega
    have:=h5 (j - xs.length) ad;rw[show U+n*sz+(j - xs.length)=U+j by omega] at this;rw[this,hu]
def aU.cells {g U} (h:aU P ok w sz l (some ⟨g,U,none⟩)):∃xs,aD P sz l xs∧∀j u,xs[j]? =some u→w.cell? (κ g (U+j))=some u:=by obtain⟨xs,H,h2⟩:=h.BZ l.length (Zc _);rw[List.take_length] at H;exact⟨xs,H,h2⟩
def aU.Ce {g T xs zs} (hb:A w g T (xs ++ zs)) (hg:ok g) (h:aD P sz l xs):aU P ok w sz l (some ⟨g,0,none⟩):=by
 intro j x hx;obtain⟨cs,q1,q2,q3⟩:=h.at_ hx;refine⟨g,0,cs,rfl,hg,q1,fun i hi=>?_,q2⟩;rw[←q3 i hi,Nat.zero_add];have ad:j*sz+i < xs.length:=by have:=dH (sz:=sz) (Ze.1 hx).1;rw[h.1];omega
 rw[List.getElem?_eq_getElem ad];exact hb.c _ (by rw[List.getElem?_append_left ad];exact Zg ad)
end
def sk {o w} (z:Wf o w) {l va} (hl:l.length≤1000000) (h:ap (Fz o w) w l va 0) {t gx v0 v1 v2} (aW:w.heap[gx]? =some (.cells [v0,v1,v2].toArray 86 (0,0))) (hv:aG (Fz o w) w t (.agg #[v0,v1,v2])) :
  ∃cap w',(Builtin.append_ #[84,84] 84 #[.slice va l.length l.length,.slice (Γ gx) 1 1]).run prog w= .ok (.slice (Γ (ν w)) (l.length+1) cap) w' ∧
   Below (ν w) w w'∧w.heap.size < w'.heap.size∧l.length+1≤cap∧cap≤maxLen∧ap (Fz o w') w' (l ++ [t]) (some ⟨w.heap.size,0,none⟩) 0:=by
 obtain⟨i,hi,hz,a8,hb⟩:=cq jw;have ht:=underlying84;have aa:∀j u,[v0,v1,v2][j]? =some u→w.cell? ((⟨gx,0,none⟩:Addr).add j)=some u:=World.news_of_block (cs:=[v0,v1,v2].toArray) aW;have G:∀(xs:List Value) (cap old:Nat),aD (ak (Fz o w) w) 3 l xs→∀zs,Below (ν w) w (w.drew.alloc (.cells (xs ++ [v0,v1,v2] ++ zs).toArray 86))∧w.heap.size < (w.drew.alloc (.cells (xs ++ [v0,v1,v2] ++ zs).toArray 86)).heap.size ∧
   ap (Fz o (w.drew.alloc (.cells (xs ++ [v0,v1,v2] ++ zs).toArray 86))) (w.drew.alloc (.cells (xs ++ [v0,v1,v2] ++ zs).toArray 86)) (l ++ [t]) (some ⟨w.heap.size,0,none⟩) 0:=by
  intro xs cap old hr zs;have aO:Below (ν w) w (w.drew.alloc (.cells (xs ++ [v0,v1,v2] ++ zs).toArray 86)):=(Zj _ _).drew.alloc (Zc _) _;have I:=(tB z aO).kp;refine⟨aO,by simp,cE.2 (aU.Ce (zs:=zs) (Zh w.drew _ _) ⟨z.ge (Zc _),by simp⟩ ?_)⟩;have aK:=hr.push (x:=t) (cs:=[v0,v1,v2]) ⟨v0,v1,v2,rfl,hv⟩ rfl;refine aK.mono fun x cs hx=>?_;obtain⟨u0,u1,u2,e1,e2⟩:=hx;exact⟨u0,u1,u2,e1,e2.kept I aO.size⟩
 cases va with
 | none=>
   have O:l=[]:=by
    cases l with
    | nil=>rfl
    | cons x r=>obtain⟨g,U,cs,e,-⟩:=cE.1 h 0 x rfl;cases e
   subst O;have hr:=run_append_nil (P:=prog) w 84 84 86 i _ ht hi hz ⟨gx,0,none⟩ 1 1 [v0,v1,v2] (by rw[a8];rfl) aa ω ω ω;have h2:=G [] 0 0 (Ya _ _) (Builtin.zeroCells (Value.agg #[ι 0,ι 0,ζ]).cells (grownCap w 1 0 86 - 1)).toList;refine⟨_,_,hr,?_⟩;have e:[v0,v1,v2].toArray ++ Builtin.zeroCells (Value.agg #[ι 0,ι 0,ζ]).cells (grownCap w 1 0 86 - 1)=([] ++ [v0,v1,v2] ++ (Builtin.zeroCells (Value.agg #[ι 0,ι 0,ζ]).cells (grownCap w 1 0 86 - 1)).toList).toArray:=by apply Array.ext';simp
   rw[e];exact⟨h2.1,h2.2.1,grownCap_ge w 1 0 _,ZQ w 1 0 _ (by unfold maxLen;omega),h2.2.2⟩
 | some a=>
   obtain⟨xs,H,h2⟩:∃xs,aD (ak (Fz o w) w) 3 l xs∧∀j u,xs[j]? =some u→w.cell? (a.add j)=some u:=by
    cases l with
    | nil=>exact⟨[],Ya _ _,fun j u hu=>by simp at hu⟩
    | cons x r=>
      obtain⟨g,U,cs,e,-⟩:=cE.1 h 0 x rfl;injection e with e;subst e;obtain⟨xs,H,h2⟩:=(cE.1 h).cells;refine⟨xs,H,fun j u hu=>?_⟩;have ha:(⟨g,U,none⟩:Addr).add j=⟨g,U+j,none⟩:=by unfold Addr.add;split <;> simp_all
      rw[ha];exact h2 j u hu
   have hr:=run_append_grow (P:=prog) w 84 84 86 i _ ht hi hz a l.length l.length xs (by rw[a8];exact H.1) h2 ⟨gx,0,none⟩ 1 1 [v0,v1,v2] (by rw[a8];rfl) aa ω ω (growslice_fits ω (by rw[hb];omega));have h3:=G xs 0 0 H (Builtin.zeroCells (Value.agg #[ι 0,ι 0,ζ]).cells (grownCap w (l.length+1) l.length 86 - (l.length+1))).toList;refine⟨_,_,hr,?_⟩;have e:xs.toArray ++ [v0,v1,v2].toArray ++ Builtin.zeroCells (Value.agg #[ι 0,ι 0,ζ]).cells (grownCap w (l.length+1) l.length 86 - (l.length+1))=(xs ++ [v0,v1,v2] ++ (Builtin.zeroCells (Value.agg #[ι 0,ι 0,ζ]).cells (grownCap w (l.length+1) l.length 86 - (l.length+1))).toList).toArray:=by apply Array.ext';simp
   rw[e];exact⟨h3.1,h3.2.1,grownCap_ge w (l.length+1) l.length _,ZQ w (l.length+1) l.length _ (by unfold maxLen;omega),h3.2.2⟩
end
end Go.Proofs.YtmchabopafimeaaGreatDoor
