import Derived.Test.YtmchabopafimeaaGreatDoorQaa
import Derived.Deep.OwnRows
namespace Go.Proofs.YtmchabopafimeaaGreatDoor
set_option maxRecDepth 100000
set_option maxHeartbeats 16000000
set_option linter.all false
open Tryz
section
inductive Qi | a
def ι (_:Int):Qi:=.a
def π (_:Nat):Qi:=.a
def ζ:Qi:=.a
instance (n:Int):CoeDep Qi (ι n) Value:=⟨.int .i64 n⟩
instance (n:Nat):CoeDep Qi (π n) Value:=⟨.pointer (some ⟨n,0,none⟩)⟩
instance:CoeDep Qi ζ Value:=⟨.slice none 0 0⟩
instance:CoeDep Qi ζ (Option Value):=⟨some (.slice none 0 0)⟩
def ν (_:World):Qi:=.a
instance (w):CoeDep Qi (ν w) Nat:=⟨w.heap.size⟩
def η (_:World):Qi:=.a
instance (w):CoeDep Qi (η w) Nat:=⟨w.heap.size+1⟩
def ϖ (_:World):Qi:=.a
instance (w):CoeDep Qi (ϖ w) Value:=⟨.pointer (some ⟨w.heap.size,0,none⟩)⟩
instance (w):CoeDep Qi (ϖ w) (Option Value):=⟨some (.pointer (some ⟨w.heap.size,0,none⟩))⟩
instance (n:Int):CoeDep Qi (ι n) (Option Value):=⟨some (.int .i64 n)⟩
instance (n:Nat):CoeDep Qi (π n) (Option Value):=⟨some (.pointer (some ⟨n,0,none⟩))⟩
def σ (_:World) (_ _:Nat) (_:Value):Qi:=.a
instance (w b i v):CoeDep Qi (σ w b i v) World:=⟨w.setCell ⟨b,i,none⟩ v⟩
def σ2 (_:World) (_:Nat) (_ _:Value):Qi:=.a
instance (w b s t):CoeDep Qi (σ2 w b s t) World:=⟨(w.setCell ⟨b,0,none⟩ s).setCell ⟨b,1,none⟩ t⟩
def σ3 (_:World) (_:Nat) (_ _ _:Value):Qi:=.a
instance (w b s t o):CoeDep Qi (σ3 w b s t o) World:=⟨(σ2 w b s t:World).setCell ⟨b,2,none⟩ o⟩
def σ4 (_:World) (_:Nat) (_ _ _ _:Value):Qi:=.a
instance (w b s t u o):CoeDep Qi (σ4 w b s t u o) World:=⟨(σ3 w b s t u:World).setCell ⟨b,3,none⟩ o⟩
def σ5 (_:World) (_:Nat) (_ _ _ _ _:Value):Qi:=.a
instance (w b s t u v o):CoeDep Qi (σ5 w b s t u v o) World:=⟨(σ4 w b s t u v:World).setCell ⟨b,4,none⟩ o⟩
def σ6 (_:World) (_:Nat) (_ _ _ _ _ _:Value):Qi:=.a
instance (w b s t u v x o):CoeDep Qi (σ6 w b s t u v x o) World:=⟨(σ5 w b s t u v x:World).setCell ⟨b,5,none⟩ o⟩
def σ7 (_:World) (_:Nat) (_ _ _ _ _ _ _:Value):Qi:=.a
instance (w b s t u v x y o):CoeDep Qi (σ7 w b s t u v x y o) World:=⟨(σ6 w b s t u v x y:World).setCell ⟨b,6,none⟩ o⟩
def σ8 (_:World) (_:Nat) (_ _ _ _ _ _ _ _:Value):Qi:=.a
instance (w b s t u v x y O o):CoeDep Qi (σ8 w b s t u v x y O o) World:=⟨(σ7 w b s t u v x y O:World).setCell ⟨b,7,none⟩ o⟩
def σ9 (_:World) (_:Nat) (_ _ _ _ _ _ _ _ _:Value):Qi:=.a
instance (w b s t u v x y O p o):CoeDep Qi (σ9 w b s t u v x y O p o) World:=⟨(σ8 w b s t u v x y O p:World).setCell ⟨b,8,none⟩ o⟩
def σ10 (_:World) (_:Nat) (_ _ _ _ _ _ _ _ _ _:Value):Qi:=.a
instance (w b s t u v x y O p q o):CoeDep Qi (σ10 w b s t u v x y O p q o) World:=⟨(σ9 w b s t u v x y O p q:World).setCell ⟨b,9,none⟩ o⟩
def σ11 (_:World) (_:Nat) (_ _ _ _ _ _ _ _ _ _ _:Value):Qi:=.a
instance (w b s t u v x y O p q r o):CoeDep Qi (σ11 w b s t u v x y O p q r o) World:=⟨(σ10 w b s t u v x y O p q r:World).setCell ⟨b,10,none⟩ o⟩
def κ (_ _:Nat):Qi:=.a
instance (b i):CoeDep Qi (κ b i) Addr:=⟨⟨b,i,none⟩⟩
def θ:Qi:=.a
instance:CoeDep Qi θ Obj:=⟨.cells #[.int .i64 0,.int .i64 0,.int .i64 0,.int .i64 0,.int .i64 0,.int .i64 0,.slice none 0 0] 307⟩
def θ1:Qi:=.a
instance:CoeDep Qi θ1 Obj:=⟨.cells #[.int .i64 0,.int .i64 0,.slice none 0 0] 86⟩
def θ2:Qi:=.a
instance:CoeDep Qi θ2 Obj:=⟨.cells #[.int .i64 0] 33⟩
def θ3:Qi:=.a
instance:CoeDep Qi θ3 Obj:=⟨.cells #[.int .i64 0,.int .i64 0,.int .i64 0,.int .i64 0,.int .i64 0,.int .i64 0,.slice none 0 0,.bool false] 475⟩
def θ4:Qi:=.a
instance:CoeDep Qi θ4 Obj:=⟨.cells #[.int .i64 0,.slice none 0 0,.slice none 0 0,.int .i64 0,.bool false,.bool false,.int .i64 0,.int .i64 0,.int .i64 0,.slice none 0 0,.int .i64 0] 126⟩
def θ5:Qi:=.a
instance:CoeDep Qi θ5 Obj:=⟨.cells #[.int .i64 0,.int .i64 0,.int .i64 0,.int .i64 0] 273⟩
def θ6:Qi:=.a
instance:CoeDep Qi θ6 Obj:=⟨.cells #[.int .i64 0,.int .i64 0,.int .i64 0,.int .i64 0,.int .i64 0,.int .i64 0,.slice none 0 0,.int .i64 0,.int .i64 0,.int .i64 0,.int .i64 0,.int .i64 0,.int .i64 0,.int .i64 0,.slice none 0 0,.slice none 0 0,.slice none 0 0,.int .i64 0,.bool false,.int .i64 0] 417⟩
def θ7:Qi:=.a
instance:CoeDep Qi θ7 Obj:=⟨.cells #[.int .i64 0,.int .i64 0,.int .i64 0,.int .i64 0,.int .i64 0,.int .i64 0,.slice none 0 0,.int .i64 0,.int .i64 0,.int .i64 0,.int .i64 0,.int .i64 0,.int .i64 0,.int .i64 0,.slice none 0 0,.slice none 0 0,.slice none 0 0,.bool false,.int .i64 0] 398⟩
section
open Go.RowKit Go.Sort
def Γ (_:Nat):Qi:=.a
instance (n):CoeDep Qi (Γ n) (Option Addr):=⟨some ⟨n,0,none⟩⟩
def Δ:Qi:=.a
instance:CoeDep Qi Δ Value:=⟨.bool false⟩
instance:CoeDep Qi Δ (Option Value):=⟨some (.bool false)⟩
def Υ:Qi:=.a
instance:CoeDep Qi Υ Value:=⟨.bool true⟩
instance:CoeDep Qi Υ (Option Value):=⟨some (.bool true)⟩
inductive Qf (F:Nat) | a
def Λ (F:Nat):Qf F:=.a
instance (F):CoeSort (Qf F) Prop:=⟨fun _=>∀(args:Array Value) (w:World),(callFunc F args).run Tryz.prog w= .ok (.enter F args) w⟩
def Θ:Qi:=.a
instance:CoeDep Qi Θ (Nat→Prop):=⟨fun _=>False⟩
def ς (_:World):Qi:=.a
instance (w):CoeDep Qi (ς w) Nat:=⟨w.heap.size+1+1⟩
def ο (_:World):Qi:=.a
instance (w):CoeDep Qi (ο w) (Nat→Prop):=⟨(·<w.heap.size)⟩
def μ (_:Value) (_:World):Qi:=.a
instance (x w):CoeDep Qi (μ x w) (Ending→World→Prop):=⟨fun e w'=>e= .returned x∧w=w'⟩
def ϑ (_:Value) (_:World):Qi:=.a
instance (x w):CoeDep Qi (ϑ x w) (Ending→World→Prop):=⟨fun e w'=>e= .returned x∧Below w.heap.size w w'⟩
theorem γ {P:Program} {F:Nat} {l:Array Value} {w u:World} {x:Ending} {Q:Ending→World→Prop} (h:Calls P F l w fun e w'=>e=x∧u=w') (k:Q x u):Calls P F l w Q:=h.mono fun _ _ h=>h.1 ▸ h.2 ▸ k
theorem δ {P:Program} {F:Nat} {l:Array Value} {w:World} {x:Ending} {Q:Ending→World→Prop} {R:World→Prop} (h:Calls P F l w fun e w'=>e=x∧R w') (k:∀w',R w'→Q x w'):Calls P F l w Q:=h.mono fun _ _ h=>h.1 ▸ k _ h.2
def χ:=@Lib.hid
def Zd:=@World.cell?_of_block
def Zj:=@Below.refl
def Zl:=@bodyPost_ret
def Z0:=@Below.heap_setCell
def ZB:=@callsD_of_wpS
def ZH:=@wpS_region
def ZP:=@heap_alloc_new
def ZQ:=@grownCap_le_maxLen
def ZV:=@wp_loop_rounds
def ZW:=@wpS_seq
def ZZ:=@cell_regrown
def Yl:=@Below.heap_alloc
def Yw:=@results_none
def Zh:=@A.new
def Zz:=@A.c
def Z4:=@Fr.set
def Z6:=@A.BE
def ZA:=@Fr.BE
def ZD:=@A.fz
def ZE:=@A.lt
def Yh:=@Fr.toBelow
def Yi:=@A.set
def Yj:=@Fr.grown
def Yn:=@Fr.drew
def Yp:=@Fr.alloc
def Y0:=@A.BJ
def Y1:=@Fr.same
def Y8:=@Fr.refl
def YC:=@A.drew
end
theorem kb0 {w:World} {g:Nat} {t:TypeId} {I:Value} {l:List Value} (h:A w g t (I :: l)):w.cell? ⟨g,0,none⟩=some I∧w.frozen? ⟨g,0,none⟩=false∧True:=⟨h.c 0 rfl,h.fz 0,trivial⟩
theorem kb1 {w:World} {g:Nat} {t:TypeId} {I a1:Value} {l:List Value} (h:A w g t (I :: a1 :: l)):w.cell? ⟨g,0,none⟩=some I∧w.frozen? ⟨g,0,none⟩=false∧w.cell? ⟨g,1,none⟩=some a1∧w.frozen? ⟨g,1,none⟩=false∧True:=⟨h.c 0 rfl,h.fz 0,h.c 1 rfl,h.fz 1,trivial⟩
theorem kb10 {w:World} {g:Nat} {t:TypeId} {I a1 a2 a3 a4 a5 a6 aa z a9 ak:Value} {l:List Value} (h:A w g t (I :: a1 :: a2 :: a3 :: a4 :: a5 :: a6 :: aa :: z :: a9 :: ak :: l)):w.cell? ⟨g,0,none⟩=some I∧w.frozen? ⟨g,0,none⟩=false∧w.cell? ⟨g,1,none⟩=some a1∧w.frozen? ⟨g,1,none⟩=false∧w.cell? ⟨g,2,none⟩=some a2∧w.frozen? ⟨g,2,none⟩=false∧w.cell? ⟨g,3,none⟩=some a3∧w.frozen? ⟨g,3,none⟩=false∧w.cell? ⟨g,4,none⟩=some a4∧w.frozen? ⟨g,4,none⟩=false∧w.cell? ⟨g,5,none⟩=some a5∧w.frozen? ⟨g,5,none⟩=false∧w.cell? ⟨g,6,none⟩=some a6∧w.frozen? ⟨g,6,none⟩=false∧w.cell? ⟨g,7,none⟩=some aa∧w.frozen? ⟨g,7,none⟩=false∧w.cell? ⟨g,8,none⟩=some z∧w.frozen? ⟨g,8,none⟩=false∧w.cell? ⟨g,9,none⟩=some a9∧w.frozen? ⟨g,9,none⟩=false∧w.cell? ⟨g,10,none⟩=some ak∧w.frozen? ⟨g,10,none⟩=false∧True:=⟨h.c 0 rfl,h.fz 0,h.c 1 rfl,h.fz 1,h.c 2 rfl,h.fz 2,h.c 3 rfl,h.fz 3,h.c 4 rfl,h.fz 4,h.c 5 rfl,h.fz 5,h.c 6 rfl,h.fz 6,h.c 7 rfl,h.fz 7,h.c 8 rfl,h.fz 8,h.c 9 rfl,h.fz 9,h.c 10 rfl,h.fz 10,trivial⟩
theorem kb2 {w:World} {g:Nat} {t:TypeId} {I a1 a2:Value} {l:List Value} (h:A w g t (I :: a1 :: a2 :: l)):w.cell? ⟨g,0,none⟩=some I∧w.frozen? ⟨g,0,none⟩=false∧w.cell? ⟨g,1,none⟩=some a1∧w.frozen? ⟨g,1,none⟩=false∧w.cell? ⟨g,2,none⟩=some a2∧w.frozen? ⟨g,2,none⟩=false∧True:=⟨h.c 0 rfl,h.fz 0,h.c 1 rfl,h.fz 1,h.c 2 rfl,h.fz 2,trivial⟩
theorem kb3 {w:World} {g:Nat} {t:TypeId} {I a1 a2 a3:Value} {l:List Value} (h:A w g t (I :: a1 :: a2 :: a3 :: l)):w.cell? ⟨g,0,none⟩=some I∧w.frozen? ⟨g,0,none⟩=false∧w.cell? ⟨g,1,none⟩=some a1∧w.frozen? ⟨g,1,none⟩=false∧w.cell? ⟨g,2,none⟩=some a2∧w.frozen? ⟨g,2,none⟩=false∧w.cell? ⟨g,3,none⟩=some a3∧w.frozen? ⟨g,3,none⟩=false∧True:=⟨h.c 0 rfl,h.fz 0,h.c 1 rfl,h.fz 1,h.c 2 rfl,h.fz 2,h.c 3 rfl,h.fz 3,trivial⟩
theorem kb4 {w:World} {g:Nat} {t:TypeId} {I a1 a2 a3 a4:Value} {l:List Value} (h:A w g t (I :: a1 :: a2 :: a3 :: a4 :: l)):w.cell? ⟨g,0,none⟩=some I∧w.frozen? ⟨g,0,none⟩=false∧w.cell? ⟨g,1,none⟩=some a1∧w.frozen? ⟨g,1,none⟩=false∧w.cell? ⟨g,2,none⟩=some a2∧w.frozen? ⟨g,2,none⟩=false∧w.cell? ⟨g,3,none⟩=some a3∧w.frozen? ⟨g,3,none⟩=false∧w.cell? ⟨g,4,none⟩=some a4∧w.frozen? ⟨g,4,none⟩=false∧True:=⟨h.c 0 rfl,h.fz 0,h.c 1 rfl,h.fz 1,h.c 2 rfl,h.fz 2,h.c 3 rfl,h.fz 3,h.c 4 rfl,h.fz 4,trivial⟩
theorem kb5 {w:World} {g:Nat} {t:TypeId} {I a1 a2 a3 a4 a5:Value} {l:List Value} (h:A w g t (I :: a1 :: a2 :: a3 :: a4 :: a5 :: l)):w.cell? ⟨g,0,none⟩=some I∧w.frozen? ⟨g,0,none⟩=false∧w.cell? ⟨g,1,none⟩=some a1∧w.frozen? ⟨g,1,none⟩=false∧w.cell? ⟨g,2,none⟩=some a2∧w.frozen? ⟨g,2,none⟩=false∧w.cell? ⟨g,3,none⟩=some a3∧w.frozen? ⟨g,3,none⟩=false∧w.cell? ⟨g,4,none⟩=some a4∧w.frozen? ⟨g,4,none⟩=false∧w.cell? ⟨g,5,none⟩=some a5∧w.frozen? ⟨g,5,none⟩=false∧True:=⟨h.c 0 rfl,h.fz 0,h.c 1 rfl,h.fz 1,h.c 2 rfl,h.fz 2,h.c 3 rfl,h.fz 3,h.c 4 rfl,h.fz 4,h.c 5 rfl,h.fz 5,trivial⟩
theorem kb6 {w:World} {g:Nat} {t:TypeId} {I a1 a2 a3 a4 a5 a6:Value} {l:List Value} (h:A w g t (I :: a1 :: a2 :: a3 :: a4 :: a5 :: a6 :: l)):w.cell? ⟨g,0,none⟩=some I∧w.frozen? ⟨g,0,none⟩=false∧w.cell? ⟨g,1,none⟩=some a1∧w.frozen? ⟨g,1,none⟩=false∧w.cell? ⟨g,2,none⟩=some a2∧w.frozen? ⟨g,2,none⟩=false∧w.cell? ⟨g,3,none⟩=some a3∧w.frozen? ⟨g,3,none⟩=false∧w.cell? ⟨g,4,none⟩=some a4∧w.frozen? ⟨g,4,none⟩=false∧w.cell? ⟨g,5,none⟩=some a5∧w.frozen? ⟨g,5,none⟩=false∧w.cell? ⟨g,6,none⟩=some a6∧w.frozen? ⟨g,6,none⟩=false∧True:=⟨h.c 0 rfl,h.fz 0,h.c 1 rfl,h.fz 1,h.c 2 rfl,h.fz 2,h.c 3 rfl,h.fz 3,h.c 4 rfl,h.fz 4,h.c 5 rfl,h.fz 5,h.c 6 rfl,h.fz 6,trivial⟩
theorem kb7 {w:World} {g:Nat} {t:TypeId} {I a1 a2 a3 a4 a5 a6 aa:Value} {l:List Value} (h:A w g t (I :: a1 :: a2 :: a3 :: a4 :: a5 :: a6 :: aa :: l)):w.cell? ⟨g,0,none⟩=some I∧w.frozen? ⟨g,0,none⟩=false∧w.cell? ⟨g,1,none⟩=some a1∧w.frozen? ⟨g,1,none⟩=false∧w.cell? ⟨g,2,none⟩=some a2∧w.frozen? ⟨g,2,none⟩=false∧w.cell? ⟨g,3,none⟩=some a3∧w.frozen? ⟨g,3,none⟩=false∧w.cell? ⟨g,4,none⟩=some a4∧w.frozen? ⟨g,4,none⟩=false∧w.cell? ⟨g,5,none⟩=some a5∧w.frozen? ⟨g,5,none⟩=false∧w.cell? ⟨g,6,none⟩=some a6∧w.frozen? ⟨g,6,none⟩=false∧w.cell? ⟨g,7,none⟩=some aa∧w.frozen? ⟨g,7,none⟩=false∧True:=⟨h.c 0 rfl,h.fz 0,h.c 1 rfl,h.fz 1,h.c 2 rfl,h.fz 2,h.c 3 rfl,h.fz 3,h.c 4 rfl,h.fz 4,h.c 5 rfl,h.fz 5,h.c 6 rfl,h.fz 6,h.c 7 rfl,h.fz 7,trivial⟩
theorem kb8 {w:World} {g:Nat} {t:TypeId} {I a1 a2 a3 a4 a5 a6 aa z:Value} {l:List Value} (h:A w g t (I :: a1 :: a2 :: a3 :: a4 :: a5 :: a6 :: aa :: z :: l)):w.cell? ⟨g,0,none⟩=some I∧w.frozen? ⟨g,0,none⟩=false∧w.cell? ⟨g,1,none⟩=some a1∧w.frozen? ⟨g,1,none⟩=false∧w.cell? ⟨g,2,none⟩=some a2∧w.frozen? ⟨g,2,none⟩=false∧w.cell? ⟨g,3,none⟩=some a3∧w.frozen? ⟨g,3,none⟩=false∧w.cell? ⟨g,4,none⟩=some a4∧w.frozen? ⟨g,4,none⟩=false∧w.cell? ⟨g,5,none⟩=some a5∧w.frozen? ⟨g,5,none⟩=false∧w.cell? ⟨g,6,none⟩=some a6∧w.frozen? ⟨g,6,none⟩=false∧w.cell? ⟨g,7,none⟩=some aa∧w.frozen? ⟨g,7,none⟩=false∧w.cell? ⟨g,8,none⟩=some z∧w.frozen? ⟨g,8,none⟩=false∧True:=⟨h.c 0 rfl,h.fz 0,h.c 1 rfl,h.fz 1,h.c 2 rfl,h.fz 2,h.c 3 rfl,h.fz 3,h.c 4 rfl,h.fz 4,h.c 5 rfl,h.fz 5,h.c 6 rfl,h.fz 6,h.c 7 rfl,h.fz 7,h.c 8 rfl,h.fz 8,trivial⟩
theorem kb9 {w:World} {g:Nat} {t:TypeId} {I a1 a2 a3 a4 a5 a6 aa z a9:Value} {l:List Value} (h:A w g t (I :: a1 :: a2 :: a3 :: a4 :: a5 :: a6 :: aa :: z :: a9 :: l)):w.cell? ⟨g,0,none⟩=some I∧w.frozen? ⟨g,0,none⟩=false∧w.cell? ⟨g,1,none⟩=some a1∧w.frozen? ⟨g,1,none⟩=false∧w.cell? ⟨g,2,none⟩=some a2∧w.frozen? ⟨g,2,none⟩=false∧w.cell? ⟨g,3,none⟩=some a3∧w.frozen? ⟨g,3,none⟩=false∧w.cell? ⟨g,4,none⟩=some a4∧w.frozen? ⟨g,4,none⟩=false∧w.cell? ⟨g,5,none⟩=some a5∧w.frozen? ⟨g,5,none⟩=false∧w.cell? ⟨g,6,none⟩=some a6∧w.frozen? ⟨g,6,none⟩=false∧w.cell? ⟨g,7,none⟩=some aa∧w.frozen? ⟨g,7,none⟩=false∧w.cell? ⟨g,8,none⟩=some z∧w.frozen? ⟨g,8,none⟩=false∧w.cell? ⟨g,9,none⟩=some a9∧w.frozen? ⟨g,9,none⟩=false∧True:=⟨h.c 0 rfl,h.fz 0,h.c 1 rfl,h.fz 1,h.c 2 rfl,h.fz 2,h.c 3 rfl,h.fz 3,h.c 4 rfl,h.fz 4,h.c 5 rfl,h.fz 5,h.c 6 rfl,h.fz 6,h.c 7 rfl,h.fz 7,h.c 8 rfl,h.fz 8,h.c 9 rfl,h.fz 9,trivial⟩
theorem kc1 {w:World} {g:Nat} {t:TypeId} {I a1:Value} {l:List Value} (h:A w g t (I :: a1 :: l)):w.cell? ⟨g,0,none⟩=some I∧w.cell? ⟨g,1,none⟩=some a1∧True:=⟨h.c 0 rfl,h.c 1 rfl,trivial⟩
theorem kc10 {w:World} {g:Nat} {t:TypeId} {I a1 a2 a3 a4 a5 a6 aa z a9 ak:Value} {l:List Value} (h:A w g t (I :: a1 :: a2 :: a3 :: a4 :: a5 :: a6 :: aa :: z :: a9 :: ak :: l)):w.cell? ⟨g,0,none⟩=some I∧w.cell? ⟨g,1,none⟩=some a1∧w.cell? ⟨g,2,none⟩=some a2∧w.cell? ⟨g,3,none⟩=some a3∧w.cell? ⟨g,4,none⟩=some a4∧w.cell? ⟨g,5,none⟩=some a5∧w.cell? ⟨g,6,none⟩=some a6∧w.cell? ⟨g,7,none⟩=some aa∧w.cell? ⟨g,8,none⟩=some z∧w.cell? ⟨g,9,none⟩=some a9∧w.cell? ⟨g,10,none⟩=some ak∧True:=⟨h.c 0 rfl,h.c 1 rfl,h.c 2 rfl,h.c 3 rfl,h.c 4 rfl,h.c 5 rfl,h.c 6 rfl,h.c 7 rfl,h.c 8 rfl,h.c 9 rfl,h.c 10 rfl,trivial⟩
theorem kc14 {w:World} {g:Nat} {t:TypeId} {I a1 a2 a3 a4 a5 a6 aa z a9 ak a11 aM a13 a14:Value} {l:List Value} (h:A w g t (I :: a1 :: a2 :: a3 :: a4 :: a5 :: a6 :: aa :: z :: a9 :: ak :: a11 :: aM :: a13 :: a14 :: l)):w.cell? ⟨g,0,none⟩=some I∧w.cell? ⟨g,1,none⟩=some a1∧w.cell? ⟨g,2,none⟩=some a2∧w.cell? ⟨g,3,none⟩=some a3∧w.cell? ⟨g,4,none⟩=some a4∧w.cell? ⟨g,5,none⟩=some a5∧w.cell? ⟨g,6,none⟩=some a6∧w.cell? ⟨g,7,none⟩=some aa∧w.cell? ⟨g,8,none⟩=some z∧w.cell? ⟨g,9,none⟩=some a9∧w.cell? ⟨g,10,none⟩=some ak∧w.cell? ⟨g,11,none⟩=some a11∧w.cell? ⟨g,12,none⟩=some aM∧w.cell? ⟨g,13,none⟩=some a13∧w.cell? ⟨g,14,none⟩=some a14∧True:=⟨h.c 0 rfl,h.c 1 rfl,h.c 2 rfl,h.c 3 rfl,h.c 4 rfl,h.c 5 rfl,h.c 6 rfl,h.c 7 rfl,h.c 8 rfl,h.c 9 rfl,h.c 10 rfl,h.c 11 rfl,h.c 12 rfl,h.c 13 rfl,h.c 14 rfl,trivial⟩
theorem kc18 {w:World} {g:Nat} {t:TypeId} {I a1 a2 a3 a4 a5 a6 aa z a9 ak a11 aM a13 a14 a15 az a17 ax:Value} {l:List Value} (h:A w g t (I :: a1 :: a2 :: a3 :: a4 :: a5 :: a6 :: aa :: z :: a9 :: ak :: a11 :: aM :: a13 :: a14 :: a15 :: az :: a17 :: ax :: l)):w.cell? ⟨g,0,none⟩=some I∧w.cell? ⟨g,1,none⟩=some a1∧w.cell? ⟨g,2,none⟩=some a2∧w.cell? ⟨g,3,none⟩=some a3∧w.cell? ⟨g,4,none⟩=some a4∧w.cell? ⟨g,5,none⟩=some a5∧w.cell? ⟨g,6,none⟩=some a6∧w.cell? ⟨g,7,none⟩=some aa∧w.cell? ⟨g,8,none⟩=some z∧w.cell? ⟨g,9,none⟩=some a9∧w.cell? ⟨g,10,none⟩=some ak∧w.cell? ⟨g,11,none⟩=some a11∧w.cell? ⟨g,12,none⟩=some aM∧w.cell? ⟨g,13,none⟩=some a13∧w.cell? ⟨g,14,none⟩=some a14∧w.cell? ⟨g,15,none⟩=some a15∧w.cell? ⟨g,16,none⟩=some az∧w.cell? ⟨g,17,none⟩=some a17∧w.cell? ⟨g,18,none⟩=some ax∧True:=⟨h.c 0 rfl,h.c 1 rfl,h.c 2 rfl,h.c 3 rfl,h.c 4 rfl,h.c 5 rfl,h.c 6 rfl,h.c 7 rfl,h.c 8 rfl,h.c 9 rfl,h.c 10 rfl,h.c 11 rfl,h.c 12 rfl,h.c 13 rfl,h.c 14 rfl,h.c 15 rfl,h.c 16 rfl,h.c 17 rfl,h.c 18 rfl,trivial⟩
theorem kc19 {w:World} {g:Nat} {t:TypeId} {I a1 a2 a3 a4 a5 a6 aa z a9 ak a11 aM a13 a14 a15 az a17 ax a19:Value} {l:List Value} (h:A w g t (I :: a1 :: a2 :: a3 :: a4 :: a5 :: a6 :: aa :: z :: a9 :: ak :: a11 :: aM :: a13 :: a14 :: a15 :: az :: a17 :: ax :: a19 :: l)):w.cell? ⟨g,0,none⟩=some I∧w.cell? ⟨g,1,none⟩=some a1∧w.cell? ⟨g,2,none⟩=some a2∧w.cell? ⟨g,3,none⟩=some a3∧w.cell? ⟨g,4,none⟩=some a4∧w.cell? ⟨g,5,none⟩=some a5∧w.cell? ⟨g,6,none⟩=some a6∧w.cell? ⟨g,7,none⟩=some aa∧w.cell? ⟨g,8,none⟩=some z∧w.cell? ⟨g,9,none⟩=some a9∧w.cell? ⟨g,10,none⟩=some ak∧w.cell? ⟨g,11,none⟩=some a11∧w.cell? ⟨g,12,none⟩=some aM∧w.cell? ⟨g,13,none⟩=some a13∧w.cell? ⟨g,14,none⟩=some a14∧w.cell? ⟨g,15,none⟩=some a15∧w.cell? ⟨g,16,none⟩=some az∧w.cell? ⟨g,17,none⟩=some a17∧w.cell? ⟨g,18,none⟩=some ax∧w.cell? ⟨g,19,none⟩=some a19∧True:=⟨h.c 0 rfl,h.c 1 rfl,h.c 2 rfl,h.c 3 rfl,h.c 4 rfl,h.c 5 rfl,h.c 6 rfl,h.c 7 rfl,h.c 8 rfl,h.c 9 rfl,h.c 10 rfl,h.c 11 rfl,h.c 12 rfl,h.c 13 rfl,h.c 14 rfl,h.c 15 rfl,h.c 16 rfl,h.c 17 rfl,h.c 18 rfl,h.c 19 rfl,trivial⟩
theorem kc2 {w:World} {g:Nat} {t:TypeId} {I a1 a2:Value} {l:List Value} (h:A w g t (I :: a1 :: a2 :: l)):w.cell? ⟨g,0,none⟩=some I∧w.cell? ⟨g,1,none⟩=some a1∧w.cell? ⟨g,2,none⟩=some a2∧True:=⟨h.c 0 rfl,h.c 1 rfl,h.c 2 rfl,trivial⟩
theorem kc3 {w:World} {g:Nat} {t:TypeId} {I a1 a2 a3:Value} {l:List Value} (h:A w g t (I :: a1 :: a2 :: a3 :: l)):w.cell? ⟨g,0,none⟩=some I∧w.cell? ⟨g,1,none⟩=some a1∧w.cell? ⟨g,2,none⟩=some a2∧w.cell? ⟨g,3,none⟩=some a3∧True:=⟨h.c 0 rfl,h.c 1 rfl,h.c 2 rfl,h.c 3 rfl,trivial⟩
theorem kc4 {w:World} {g:Nat} {t:TypeId} {I a1 a2 a3 a4:Value} {l:List Value} (h:A w g t (I :: a1 :: a2 :: a3 :: a4 :: l)):w.cell? ⟨g,0,none⟩=some I∧w.cell? ⟨g,1,none⟩=some a1∧w.cell? ⟨g,2,none⟩=some a2∧w.cell? ⟨g,3,none⟩=some a3∧w.cell? ⟨g,4,none⟩=some a4∧True:=⟨h.c 0 rfl,h.c 1 rfl,h.c 2 rfl,h.c 3 rfl,h.c 4 rfl,trivial⟩
theorem kc5 {w:World} {g:Nat} {t:TypeId} {I a1 a2 a3 a4 a5:Value} {l:List Value} (h:A w g t (I :: a1 :: a2 :: a3 :: a4 :: a5 :: l)):w.cell? ⟨g,0,none⟩=some I∧w.cell? ⟨g,1,none⟩=some a1∧w.cell? ⟨g,2,none⟩=some a2∧w.cell? ⟨g,3,none⟩=some a3∧w.cell? ⟨g,4,none⟩=some a4∧w.cell? ⟨g,5,none⟩=some a5∧True:=⟨h.c 0 rfl,h.c 1 rfl,h.c 2 rfl,h.c 3 rfl,h.c 4 rfl,h.c 5 rfl,trivial⟩
theorem kc6 {w:World} {g:Nat} {t:TypeId} {I a1 a2 a3 a4 a5 a6:Value} {l:List Value} (h:A w g t (I :: a1 :: a2 :: a3 :: a4 :: a5 :: a6 :: l)):w.cell? ⟨g,0,none⟩=some I∧w.cell? ⟨g,1,none⟩=some a1∧w.cell? ⟨g,2,none⟩=some a2∧w.cell? ⟨g,3,none⟩=some a3∧w.cell? ⟨g,4,none⟩=some a4∧w.cell? ⟨g,5,none⟩=some a5∧w.cell? ⟨g,6,none⟩=some a6∧True:=⟨h.c 0 rfl,h.c 1 rfl,h.c 2 rfl,h.c 3 rfl,h.c 4 rfl,h.c 5 rfl,h.c 6 rfl,trivial⟩
theorem kc7 {w:World} {g:Nat} {t:TypeId} {I a1 a2 a3 a4 a5 a6 aa:Value} {l:List Value} (h:A w g t (I :: a1 :: a2 :: a3 :: a4 :: a5 :: a6 :: aa :: l)):w.cell? ⟨g,0,none⟩=some I∧w.cell? ⟨g,1,none⟩=some a1∧w.cell? ⟨g,2,none⟩=some a2∧w.cell? ⟨g,3,none⟩=some a3∧w.cell? ⟨g,4,none⟩=some a4∧w.cell? ⟨g,5,none⟩=some a5∧w.cell? ⟨g,6,none⟩=some a6∧w.cell? ⟨g,7,none⟩=some aa∧True:=⟨h.c 0 rfl,h.c 1 rfl,h.c 2 rfl,h.c 3 rfl,h.c 4 rfl,h.c 5 rfl,h.c 6 rfl,h.c 7 rfl,trivial⟩
theorem kc9 {w:World} {g:Nat} {t:TypeId} {I a1 a2 a3 a4 a5 a6 aa z a9:Value} {l:List Value} (h:A w g t (I :: a1 :: a2 :: a3 :: a4 :: a5 :: a6 :: aa :: z :: a9 :: l)):w.cell? ⟨g,0,none⟩=some I∧w.cell? ⟨g,1,none⟩=some a1∧w.cell? ⟨g,2,none⟩=some a2∧w.cell? ⟨g,3,none⟩=some a3∧w.cell? ⟨g,4,none⟩=some a4∧w.cell? ⟨g,5,none⟩=some a5∧w.cell? ⟨g,6,none⟩=some a6∧w.cell? ⟨g,7,none⟩=some aa∧w.cell? ⟨g,8,none⟩=some z∧w.cell? ⟨g,9,none⟩=some a9∧True:=⟨h.c 0 rfl,h.c 1 rfl,h.c 2 rfl,h.c 3 rfl,h.c 4 rfl,h.c 5 rfl,h.c 6 rfl,h.c 7 rfl,h.c 8 rfl,h.c 9 rfl,trivial⟩
end
section
section
open Go.RowKit Go.Sort
def bO (l:List Int):List Value:=l.map fun x=>.int .i64 x
def ea {l} {i:Nat} {x} (h:l[i]? =some x):(bO l)[i]? =ι x:=by simp[bO,h]
def ir (l i x):(bO l).set i (ι x)=bO (l.set i x):=by simp[bO,List.map_set]
def eV (q:Pl):List Int:=q.map (·.1)
def fh (q:Pl):List Int:=q.map (·.2)
def iy {q i} (h:i < q.length):(eV q)[i]? =some (pl q i).1:=by unfold eV pl;simp[List.getD_eq_getElem?_getD,List.getElem?_eq_getElem h]
def gc {q i} (h:i < q.length):(fh q)[i]? =some (pl q i).2:=by unfold fh pl;simp[List.getD_eq_getElem?_getD,List.getElem?_eq_getElem h]
def jD (q i x):eV (q.set i x)=(eV q).set i x.1:=by simp[eV,List.map_set]
def jU (q i x):fh (q.set i x)=(fh q).set i x.2:=by simp[fh,List.map_set]
structure Vw (w:World) (z P D:Nat) (f:Fn) (Y:Option Addr) (cap:Nat) (q:Pl):Prop where
 v:A w z 358 [.int .i64 f.ps,.slice Y f.ns.length cap,.slice (some ⟨P,0,none⟩) f.ns.length f.ns.length,.slice (some ⟨D,0,none⟩) f.ns.length f.ns.length]
 p:A w P 3 (bO (eV q))
 d:A w D 3 (bO (fh q))
 len:q.length=f.ns.length
 pd:P≠D
 vp:z≠P
 vd:z≠D
def Vw.fr {S w w' z P D f Y cap q} (h:Vw w z P D f Y cap q) (hf:Fr S w w') (H:¬S z) (h2:¬S P) (h3:¬S D):Vw w' z P D f Y cap q:=
 ⟨h.v.fr hf H,h.p.fr hf h2,h.d.fr hf h3,h.len,h.pd,h.vp,h.vd⟩
def Vw.BE {w w' z P D f Y cap q} (h:Vw w z P D f Y cap q) (hb:Below (ν w) w w'):Vw w' z P D f Y cap q:=
 h.fr (S:=Θ) (ZA hb) id id id
def mZ (l:List Int) (m x) (h:l[m]? =some x):l.set m x=l:=by
 apply Ye;intro j;rw[List.getElem?_set]
 by_cases e:m=j
 ·subst e
  obtain⟨H,h2⟩:=Ze.1 h;simp[H,h2]
 ·simp[e]
def Vw.C4 {w z P D m f Y cap q} (h:Vw w z P D f Y cap q) (hm:m < q.length) (a):Vw (σ w P m (ι a)) z P D f Y cap (q.set m (a,(pl q m).2)):=by
 refine⟨h.v.BJ h.vp _,?_,?_,by simpa using h.len,h.pd,h.vp,h.vd⟩
 ·have:=h.p.set m (ι a)
  rwa [ir,←jD q m (a,(pl q m).2)] at this
 ·rw[jU,mZ _ _ _ (gc hm)]
  exact h.d.BJ (Yv h.pd) _
def Vw.CN {w z P D m f Y cap q} (h:Vw w z P D f Y cap q) (hm:m < q.length) (a):Vw (σ w D m (ι a)) z P D f Y cap (q.set m ((pl q m).1,a)):=by
 refine⟨h.v.BJ h.vd _,?_,?_,by simpa using h.len,h.pd,h.vp,h.vd⟩
 ·rw[jD,mZ _ _ _ (iy hm)]
  exact h.p.BJ h.pd _
 ·have:=h.d.set m (ι a)
  rwa [ir,←jU q m ((pl q m).1,a)] at this
def xj (q:Pl) (m) (hm:m < q.length) (a b):(q.set m (a,(pl q m).2)).set m ((pl (q.set m (a,(pl q m).2)) m).1,b)=q.set m (a,b):=by rw[du _ _ _ _ hm,if_pos rfl,List.set_set]
def m7 {op m} (h:eq op m=true):m≤16:=by
 unfold eq at h
 repeat' split at h
 all_goals (simp at h;try omega)
def qL {k:Nat} (h:¬k=1):((k:Int) == 1)=false:=by simp;omega
def fp {k n} (h:k < n):n - (k+1) < n - k:=ω
def e8 {k n:Nat} (h:n - (k+1) < n - k):n - (intOf (ι ((k:Int)+1))).toNat < n - (intOf (ι (k:Int))).toNat:=by simp only[intOf];have e:((k:Int)+1).toNat=k+1:=ω;rw[e,Int.toNat_natCast];exact h
def pC {k n} (h:k=1) (hl:k < n):2≤n:=ω
def sE {n i k d lt} {l:List Int} {p r} (h:k=1) (hk:cQ n i d lt (k+1) (l.drop (k+1)) p=r):cQ n i d lt 2 (l.drop 2) p=r:=by subst h;exact hk
def ri {k n:Nat} (h:k=1) (hk:n - (k+1) < n - k):n - (intOf (ι 2)).toNat < n - (intOf (ι (k:Int))).toNat:=by subst h;exact hk
def dx (r:Option Pl) (z P D:Nat) (f:Fn) (Y:Option Addr) (cap:Nat) (w:World) (e:Ending) (w':World):Prop:=Fr (fun k=>k=P∨k=D) w w'∧match r with
  | some E=>e= .returned (.bool true)∧Vw w' z P D f Y cap E
  | none=>e= .returned (.bool false)
def dx.no {r z P D f Y cap w w'} (h:Hid (r=none)) (hf:Fr (fun k=>k=P∨k=D) w w'):dx r z P D f Y cap w (.returned (.bool false)) w':=by unfold dx;rw[h.out];exact⟨hf,rfl⟩
def oL (f) (hn:f.ns.length≤200) (Y cap z P D i x q w) (hx:f.ns[i]? =some x) (hv:Vw w z P D f Y cap q) (hd:∀j,j < q.length→-1≤(pl q j).2∧(pl q j).2≤1000) (ok) (az:∀g,ok g→g < w.heap.size∧g≠P∧g≠D) (aP:aV ok w f.ns Y) :
  Calls prog 201 #[π z,ι (i:Nat)] w (dx (dz f.ns.length i x q) z P D f Y cap w):=by
 have hi:i < f.ns.length:=(Ze.1 hx).1;have b3:=hv.len;have bC:=hv.v.lt;have aY:=hv.p.lt;have a4:=hv.d.lt;obtain⟨-,v1,v2,v3,-⟩:=kc3 hv.v;have p0:=hv.p.c i (ea (iy (q:=q) (i:=i) ω));have d0:=hv.d.c i (ea (gc (q:=q) (i:=i) ω));obtain⟨g,o,la,lc,rfl,hg,c0,c1,c2,bw,aS,hL,r1,r2⟩:=aP i x hx;have a5:decide (i < f.ns.length)=true:=by simpa using hi
 obtain⟨r,hr⟩:∃r,dz f.ns.length i x q=r:=⟨_,rfl⟩;rw[hr];have ak:d2 i x q→Hid (r=none):=fun hb=>by
  show _=_
  rw[←hr];unfold dz;rw[if_pos hb]
 obtain⟨u,hu⟩:∃u,(pl q i).1=u:=⟨_,rfl⟩;obtain⟨G,Z⟩:∃G,(pl q i).2=G:=⟨_,rfl⟩;have aE:wrap64 (G+1)=G+1:=by have H:=hd i ω;rw[Z] at H;exact lZ ω ω
 have HU:=χ hu;have HD:=χ Z;rw[hu] at p0;rw[Z] at d0
 by_cases hA:0 < i∧u < 0
 ·have HB:=ak (.inl (by rw[hu];exact hA))
  have q1:decide (0 < (i:Int))=true:=by simp;omega
  have q2:decide (u < 0)=true:=by simpa using hA.2
  clear ak hr;go_enter func201,ntmps201;go_wp2_with fail;go_ret;exact dx.no HB (Y8 _ _)
 by_cases hB:64 < G
 ·have HB:=ak (.inr (.inl (by rw[Z];exact hB)))
  clear ak hr
  by_cases ay:0 < i
  case' pos=>
   have q1:decide (0 < (i:Int))=true:=by simp;omega
   have q2:decide (u < 0)=false:=by simp;omega
  case' neg=>have q1:decide (0 < (i:Int))=false:=by simp;omega
  all_goals
   go_enter func201,ntmps201;go_wp2_with fail;go_ret;exact dx.no HB (Y8 _ _)
 by_cases ay:0 < i
 case' pos=>
  have q1:decide (0 < (i:Int))=true:=by simp;omega
  have q2:decide (u < 0)=false:=by simp;omega
 case' neg=>have q1:decide (0 < (i:Int))=false:=by simp;omega
 all_goals
  go_enter func201,ntmps201;go_upto_region 4 with fail;have ae:Below (ν w) w (w.alloc (.cells #[ι x.op,ι x.n,.slice la x.l.length lc] 141)):=(Zj _ _).alloc (Zc _) _;have hN:=Zh w 141 [ι x.op,ι x.n,.slice la x.l.length lc];rw[List.toArray] at hN;have ao:=hv.BE ae;have a':O ok (w.alloc (.cells #[ι x.op,ι x.n,.slice la x.l.length lc] 141)) x.l la:=hL.fr (S:=Θ) (ZA ae) fun g hg=>⟨(az g hg).1,id⟩;clear v1 v2 v3 p0 d0 c0 c1 c2;have bt:w.heap.size≠z∧w.heap.size≠P∧w.heap.size≠D:=ω;generalize w.alloc (.cells #[ι x.op,ι x.n,.slice la x.l.length lc] 141)=w1 at *;have a1:Fr (fun k=>k=P∨k=D) w w1:=ZA ae;have bc:=hN.lt;obtain⟨n0,-,n2,-⟩:=kc2 hN;generalize w.heap.size=nb at *;go_upto_region 5 with (go_at_call 243;refine γ (t4 x.op _) ?_);have ah:=vr x.op x.l.length;have HK:Hid (eq x.op x.l.length=_):=ah;clear ah;generalize (dY x.op).1=least at *;generalize (dY x.op).2.1=most at *;generalize (dY x.op).2.2=isop at *;obtain⟨-,v1,v2,v3,-⟩:=kc3 ao.v;have d0:=ao.d.c i (ea (gc (q:=q) (i:=i) ω));rw[Z] at d0;have am:eq x.op x.l.length=false∨ez x.op x.n G=false→Hid (r=none):=fun h=>ak (.inr (.inr (by rw[Z];exact h)));clear ak;have m0:=fun d os=>ZZ n0 d os;have m1:=fun d os=>ZZ (hN.c 1 rfl) d os;have m2:=fun d os=>ZZ n2 d os;have x3:=fun d os=>ZZ v3 d os;have y0:=fun d os=>ZZ d0 d os
  have cN:∀d os,Calls prog 244 #[.agg #[ι x.op,ι x.n,.slice la x.l.length lc],ι G] (grow (redrawn w1 d) os) fun e bb=>e= .returned (.bool (ez x.op x.n G))∧∃p:Regrown,bb=grow (redrawn w1 p.d) p.os:=fun d os=>Calls.regrown_of (p' x la lc G _);have a3:decide ((i:Int) < (f.ns.length:Int))=true:=by simpa using hi
  by_cases aG:isop=true∧least≤(x.l.length:Int)∧(x.l.length:Int)≤most
  case' neg=>
   have HR:Hid (r=none):=am (.inl (by rw[HK.out,Bool.and_eq_false_iff,Bool.and_eq_false_iff,decide_eq_false_iff_not,decide_eq_false_iff_not];cases isop <;> simp at aG ⊢;omega));clear am hr a' hL HK;cases isop
   case' true=>
    by_cases ap:(x.l.length:Int) < least
    case' pos=>have e1:decide ((x.l.length:Int) < least)=true:=by simpa using ap
    case' neg=>
     have e1:decide ((x.l.length:Int) < least)=false:=by simpa using ap
     have e2:decide (most < (x.l.length:Int))=true:=by simp at aG ⊢;omega
   all_goals
    refine wp_region_quiet_below ψ ψ ?_
    repeat (go_big_quiet_step (fail))
    refine wpQuiet_nil ?_;intro _ ab;obtain⟨⟨dq,V⟩,aq⟩:=ab;subst aq;have ac:=below_regrown w1 dq V;go_wp2_with fail;go_ret;exact dx.no HR (a1.same (Fr.below ac fun k H h2=>by omega))
  case' pos=>
   obtain⟨rfl,ap,aA⟩:=aG;have hk:eq x.op x.l.length=true:=by rw[HK.out];simp;omega
   have ax:=χ hk;have e1:decide ((x.l.length:Int) < least)=false:=by simp;omega
   have e2:decide (most < (x.l.length:Int))=false:=by simp;omega
   clear hk HK;obtain⟨nk,aj⟩:∃nk,ez x.op x.n G=nk:=⟨_,rfl⟩;have aJ:=χ aj;rw[aj] at cN am;clear aj;refine wp_region_quiet_below ψ ψ ?_
   repeat (go_big_quiet_step (exact cN _ _))
   refine wpQuiet_nil ?_;intro _ ab;obtain⟨⟨dq,V⟩,aq⟩:=ab;subst aq;have ac:=below_regrown w1 dq V;have a7:Fr (fun k=>k=P∨k=D) w (grow (redrawn w1 dq) V):=a1.same (Fr.below ac fun k H h2=>by omega);have ai:=ao.BE ac;have U:=hN.BE ac;have bH:O ok (grow (redrawn w1 dq) V) x.l la:=a'.fr (S:=Θ) (ZA ac) fun g hg=>⟨by have:=(az g hg).1;omega,id⟩;have aT:=ac.size;clear ao hN a' hL m0 m1 m2 x3 y0 cN v1 v2 v3 d0 n0 n2 ac a1 ae;generalize grow (redrawn w1 dq) V=E at *;cases nk
   case' false=>have HR:=am (.inr rfl);clear am;go_wp2_with fail;go_ret;exact dx.no HR a7
   case' true=>
    have aL:¬d2 i x q:=by unfold d2;rw[ax.out,HU.out,HD.out,aJ.out];simp;omega
    unfold dz at hr;rw[if_neg aL,HD.out] at hr;obtain⟨n0,-,n2,-⟩:=kc2 U;have aN:=m7 ax.out;clear am aL;go_wp2_with fail;go_loopw [4,9,10,79] (fun _ _ _ ix wr=>∃(k:Nat) (p:Pl),ix= .int .i64 (k:Nat)∧k≤x.l.length∧cQ f.ns.length i G (x.op == 4) k (x.l.drop k) p=r∧Vw wr z P D f (some ⟨g,o,none⟩) cap p∧(pl p i).2=G∧Fr (fun k=>k=P∨k=D) E wr) (fun _ _ _ ix _=>x.l.length - (intOf ix).toNat)
    case atStart=>exact⟨0,q,rfl,ω,hr,ai,HD.out,Y8 _ _⟩
    case round=>
     obtain⟨k,p,rfl,hk,I,af,an,aR⟩:=hrel;have aQ:=(aR.cell (k:=nb) (o:=2) ω Ξ).trans n2
     by_cases ad:k < x.l.length
     case' neg=>rw[List.drop_of_length_le ω,cQ] at I;have HR:=χ I;clear I;go_wp2_with fail;go_ret;unfold dx;rw[←HR.out];exact⟨a7.same aR,rfl,af⟩
     case' pos=>
      have J:=fp ad;obtain⟨c,hc⟩:∃c,x.l[k]? =some c:=⟨x.l[k],Zg ad⟩;obtain⟨lg,lo,bx,aI,l0,aW⟩:=bH k c hc;subst bx;have aU:=az lg aI;have l1:=(aR.cell (k:=lg) (o:=lo+k) ω Ξ).trans l0;have aO:x.l[k]=c:=by rw[List.getElem?_eq_getElem ad] at hc;exact Option.some.inj hc
      rw[List.drop_eq_getElem_cons ad,cQ,aO] at I;obtain⟨-,v1,v2,v3,-⟩:=kc3 af.v;have aX:=af.len
      by_cases hb:c≤(i:Int)∨(f.ns.length:Int)≤c∨0≤(pl p c.toNat).1
      case' pos=>
       rw[if_pos hb] at I;have HR:Hid (r=none):=I.symm;clear I hr
       by_cases b1:c≤(i:Int)
       case' pos=>have f1:decide (c≤(i:Int))=true:=by simpa using b1
       case' neg=>
        have f1:decide (c≤(i:Int))=false:=by simpa using b1
        by_cases b2:(f.ns.length:Int)≤c
        case' pos=>have f2:decide ((f.ns.length:Int)≤c)=true:=by simpa using b2
        case' neg=>
         have f2:decide ((f.ns.length:Int)≤c)=false:=by simpa using b2
         obtain⟨m,rfl⟩:=ZL (show 0≤c by omega);have pm:=af.p.c m (ea (iy (q:=p) (i:=m) ω));rw[Int.toNat_natCast] at hb;have f3:decide (0≤(pl p m).1)=true:=by simp;omega
       all_goals
        go_wp2_with fail;go_ret;exact dx.no HR (a7.same aR)
      case' neg=>
       rw[if_neg hb] at I;obtain⟨m,rfl⟩:=ZL (show 0≤c by omega);rw[Int.toNat_natCast] at hb I;have hm:m < p.length:=ω;have pm:=af.p.c m (ea (iy (q:=p) (i:=m) ω));have f1:decide ((m:Int)≤(i:Int))=false:=by simp;omega
       have f2:decide ((f.ns.length:Int)≤(m:Int))=false:=by simp;omega
       have f3:decide (0≤(pl p m).1)=false:=by simp;omega
       have f5:decide (m≤i)=false:=by simp;omega
       have f6:decide (f.ns.length≤m)=false:=by simp;omega
       have aM:=af.p.fz m;have aB:=χ I;clear I hr hb;go_wp2_with fail;have aa:=af.C4 hm (i:Int);have aw:Fr (fun k=>k=P∨k=D) E (σ wr P m (ι (i:Nat))):=aR.same (Z4 (.inl (.inl rfl)));clear aQ l1 v1 v2 v3 pm aM aR af;generalize (σ wr P m (ι (i:Nat)):World)=wa at *;have v3:=aa.v.c 3 rfl;have aD:m≠i:=by intro e;subst e;simp at f5
       have aK:(p.set m ((i:Int),(pl p m).2)).length=p.length:=by simp
       have da:=aa.d.c i (ea (gc ω));rw[du _ _ _ _ hm,if_neg aD,an] at da;have dm:=aa.d.c m (ea (gc ω));have aH:=aa.d.fz m;have b5:m < f.ns.length:=ω;go_region;have M:=(aa.CN (m:=m) ω G).fr (S:=Θ) Yn id id id;rw[xj p m hm] at M;have ag:Fr (fun k=>k=P∨k=D) E ((σ wa D m (ι G):World).drew):=(aw.same (Z4 (.inl (.inr rfl)))).same Yn;clear v3 da dm aH aa aw aK;generalize (σ wa D m (ι G):World).drew=wb at *;have a0:=(ag.cell (k:=nb) (o:=0) ω Ξ).trans n0;have aK:(p.set m ((i:Int),G)).length=p.length:=by simp
       have aC:∀e,(pl (p.set m ((i:Int),e)) i).2=G:=fun e=>by rw[du _ _ _ _ hm,if_neg aD];exact an
       by_cases L:x.op=4∧k=1
       case' pos=>
        have g1:(x.op == 4)=true:=by simpa using L.1
        have g2:((k:Int) == 1)=true:=by rw[L.2];rfl
        have v3:=M.v.c 3 rfl;have dm:=M.d.c m (ea (gc ω));rw[du _ _ _ _ hm,if_pos rfl] at dm;have aH:=M.d.fz m;have aF:Hid (cQ f.ns.length i G (x.op == 4) (k+1) (x.l.drop (k+1)) (p.set m ((i:Int),G+1))=r):=by
         show _=_
         rw[←aB.out,if_pos ⟨g1,L.2⟩]
        clear aB;go_wp2_with fail;have aZ:=M.CN (m:=m) ω (G+1);rw[du _ _ _ _ hm,if_pos rfl,List.set_set] at aZ;go_roundw
        case' rel=>exact⟨2,p.set m ((i:Int),G+1),rfl,pC L.2 ad,sE L.2 aF.out,aZ,aC _,ag.same (Z4 (.inl (.inr rfl)))⟩
        case' measure=>exact ri L.2 J
       case' neg=>
        have aF:Hid (cQ f.ns.length i G (x.op == 4) (k+1) (x.l.drop (k+1)) (p.set m ((i:Int),G))=r):=by
         show _=_
         rw[←aB.out,if_neg (by simpa using L)]
        clear aB
        by_cases g0:x.op=4
        case' pos=>
         have g1:(x.op == 4)=true:=by simpa using g0
         have g2:((k:Int) == 1)=false:=qL fun e=>L ⟨g0,e⟩
        case' neg=>have g1:(x.op == 4)=false:=by simpa using g0
        all_goals clear L g0 aE
        all_goals
         go_wp2_with fail;go_roundw
         case' rel=>exact⟨k+1,p.set m ((i:Int),G),by go_num,ad,aF.out,M,aC _,ag⟩
         case' measure=>exact e8 J
end
section
open Go.RowKit Go.Sort
def fx (n:Nat):Nat→List Nd→Pl→Except Nat Pl
 | _,[],p=>.ok p
 | i,x :: r,p=>match dz n i x p with
   | some q=>fx n (i+1) r q
   | none=>.error i
def l0 (n:Nat):∀(l:List Nd) (i:Nat) (p:Pl),fC n i l p=match fx n i l p with
  | .ok q=>some q
  | .error _=>none
 | [],i,p=>rfl
 | x :: r,i,p=>by
   rw[fC,fx]
   cases dz n i x p with
   | some q=>exact l0 n r (i+1) q
   | none=>rfl
def kc (f:Fn):Bool:=decide (0≤f.ps∧f.ps≤9∧1≤f.ns.length∧f.ns.length≤200)
def eY (f:Fn):Except Nat Pl:=if kc f=true then fx f.ns.length 0 f.ns (c' f.ns.length f.ps) else .error 0
def uI (f:Fn):b2 f=match eY f with
  | .ok _=>true
  | .error _=>false:=by
 unfold b2 eY kc
 by_cases h:0≤f.ps∧f.ps≤9∧1≤f.ns.length∧f.ns.length≤200
 ·rw[if_pos (by simpa using h),l0]
  simp only[h,and_self,decide_true,Bool.true_and]
  split <;> simp_all
 ·rw[if_neg (by simpa using h)]
  simp[h]
def gh (q:Pl):Prop:=∀j,j < q.length→-1≤(pl q j).2∧(pl q j).2≤1000
def mG (n i d lt) (hd:-1≤d∧d≤64):∀(l:List Int) (k:Nat) (p q:Pl),cQ n i d lt k l p=some q→p.length=n→gh p→gh q
 | [],k,p,q,h,_,hp=>by
   simp only[cQ,Option.some.injEq] at h
   subst h
   exact hp
 | c :: r,k,p,q,h,hn,hp=>by
   rw[cQ] at h
   by_cases hb:c≤(i:Int)∨(n:Int)≤c∨0≤(pl p c.toNat).1
   ·rw[if_pos hb] at h;cases h
   rw[if_neg hb] at h
   refine mG n i d lt hd r (k+1) _ q h (by simpa using hn) fun j hj=>?_
   rw[du _ _ _ _ ω]
   split
   ·dsimp only
    split <;> omega
   ·exact hp j (by simpa using hj)
def wJ {n i x p q} (h:dz n i x p=some q) (hn:p.length=n) (hi:i < n) (hp:gh p):gh q∧q.length=n:=by
 unfold dz at h
 by_cases hb:d2 i x p
 ·rw[if_pos hb] at h;cases h
 rw[if_neg hb] at h;have aA:(pl p i).2≤64:=by unfold d2 at hb;simp only[not_or,Int.not_lt] at hb;exact hb.2.1
 exact⟨mG _ _ _ _ ⟨(hp i ω).1,aA⟩ _ _ _ _ h hn hp,(iR _ _ _ _ _ _ _ _ h hn).1⟩
def de (f:Fn) (Y:Option Addr) (cap:Nat):Value:= .agg #[.int .i64 f.ps,.slice Y f.ns.length cap]
def n6:(prog.info? 3).map (fun i=>(i.zero,i.size,i.bytes))=some (some (.int .i64 0),1,8):=by kernel_rfl
def uc (n):madeCells #[ι 0] n=(bO (List.replicate n 0)).toArray:=by
 apply Array.ext
 ·simp[madeCells,bO]
 ·intro i H h2
  simp[madeCells,bO,Nat.mod_one]
def uG (w:World) (bs n vs P D z) (hV:z=w.heap.size+1+1+1) (h:(P=w.heap.size+1∧D=w.heap.size+1+1)∨(P=w.heap.size+1+1∧D=w.heap.size+1)) :
  A ((((w.alloc (.cells bs 144)).alloc (.cells (madeCells #[ι 0] n) 3)).alloc (.cells (madeCells #[ι 0] n) 3)).alloc (.cells vs.toArray 358)).drew P 3 (bO (List.replicate n 0)) ∧
  A ((((w.alloc (.cells bs 144)).alloc (.cells (madeCells #[ι 0] n) 3)).alloc (.cells (madeCells #[ι 0] n) 3)).alloc (.cells vs.toArray 358)).drew D 3 (bO (List.replicate n 0)) ∧
  A ((((w.alloc (.cells bs 144)).alloc (.cells (madeCells #[ι 0] n) 3)).alloc (.cells (madeCells #[ι 0] n) 3)).alloc (.cells vs.toArray 358)).drew z 358 vs ∧
  Below (w.alloc (.cells bs 144)).heap.size (w.alloc (.cells bs 144)) ((((w.alloc (.cells bs 144)).alloc (.cells (madeCells #[ι 0] n) 3)).alloc (.cells (madeCells #[ι 0] n) 3)).alloc (.cells vs.toArray 358)).drew ∧
  P≠D∧z≠P∧z≠D∧w.heap.size < P∧w.heap.size < D∧w.heap.size < z:=by
 rw[uc];generalize ae:w.alloc (.cells bs 144)=w1;have aS:w1.heap.size=w.heap.size+1:=by rw[←ae];simp
 have H:=(Zh w1 3 (bO (List.replicate n 0)));have h2:=(Zh (w1.alloc (.cells (bO (List.replicate n 0)).toArray 3)) 3 (bO (List.replicate n 0)));have h3:=(Zh ((w1.alloc (.cells (bO (List.replicate n 0)).toArray 3)).alloc (.cells (bO (List.replicate n 0)).toArray 3)) 358 vs);have I:=((H.alloc (.cells (bO (List.replicate n 0)).toArray 3)).alloc (.cells vs.toArray 358)).drew;have L:=(h2.alloc (.cells vs.toArray 358)).drew;have e2:(w1.alloc (.cells (bO (List.replicate n 0)).toArray 3)).heap.size=w.heap.size+1+1:=by simp[aS]
 have e3:((w1.alloc (.cells (bO (List.replicate n 0)).toArray 3)).alloc (.cells (bO (List.replicate n 0)).toArray 3)).heap.size=w.heap.size+1+1+1:=by simp[aS]
 rw[aS] at I;rw[e2] at L;rw[e3] at h3;refine⟨?_,?_,by rw[hV];exact h3.drew,?_,ω,ω,ω,ω,ω,ω⟩
 ·rcases h with ⟨rfl,rfl⟩ | ⟨rfl,rfl⟩
  ·exact I
  ·exact L
 ·rcases h with ⟨rfl,rfl⟩ | ⟨rfl,rfl⟩
  ·exact L
  ·exact I
 ·exact ((((Zj _ w1).alloc (Zc _) _).alloc ξ _).alloc Ξ _).drew
def pM {k n} (h:k < n):(List.replicate k (-1:Int) ++ List.replicate (n - k) 0)[k]? =some 0:=by rw[List.getElem?_append_right ξ,List.length_replicate,Nat.sub_self,List.getElem?_replicate,if_pos ω]
def qS {k n} (h:k < n):(List.replicate k (-1:Int) ++ List.replicate (n - k) 0).set k (-1)=List.replicate (k+1) (-1) ++ List.replicate (n - (k+1)) 0:=by rw[List.set_append,if_neg ξ,List.length_replicate,Nat.sub_self];obtain⟨m,hm⟩:∃m,n - k=m+1:=⟨n - k - 1,ω⟩;rw[hm,show n - (k+1)=m by omega,List.replicate_succ,List.replicate_succ'];simp
def wP (n d):eV (c' n d)=List.replicate n (-1):=by
 unfold c';rw[jD];cases n with
 | zero=>rfl
 | succ n=>simp[eV,List.replicate_succ]
def vB (n d):(List.replicate n (0:Int)).set 0 d=fh (c' n d):=by unfold c';rw[jU];simp[fh]
def t6 {z P D f Y cap w w' e} (h:dx none z P D f Y cap w e w'):e= .returned (.bool false)∧Fr (fun k=>k=P∨k=D) w w':=⟨h.2,h.1⟩
def oX {q z P D f Y cap w w' e} (h:dx (some q) z P D f Y cap w e w'):e= .returned (.bool true)∧Fr (fun k=>k=P∨k=D) w w'∧Vw w' z P D f Y cap q:=⟨h.2.1,h.1,h.2.2⟩
def fJ (r:Except Nat Pl) (f:Fn) (Y:Option Addr) (cap:Nat) (w:World) (e:Ending) (w':World):Prop:=Below w.heap.size w w'∧match r with
 | .ok q=>∃z P D,e= .returned (.tuple #[.pointer (some ⟨z,0,none⟩),.int .i64 0,.bool true])∧w.heap.size≤z∧w.heap.size≤P∧w.heap.size≤D∧Vw w' z P D f Y cap q
 | .error i=>e= .returned (.tuple #[.pointer none,.int .i64 (i:Nat),.bool false])
def fJ.no {r:Except Nat Pl} {i f Y cap w w'} (h:Hid (r= .error i)) (hb:Below (ν w) w w'):fJ r f Y cap w (.returned (.tuple #[.pointer none,ι (i:Nat),Δ])) w':=by unfold fJ;rw[h.out];exact⟨hb,rfl⟩
structure ek (ok:Nat→Prop) (w:World) (f:Fn) (Y:Option Addr) (cap:Nat):Prop where
 ns:aV ok w f.ns Y
 le:f.ns.length≤cap
 cap:cap≤maxLen
 ps:ag f.ps
def ek.later {w w' f Y cap} (h:ek (ο w) w f Y cap) (hb:Below (ν w) w w'):ek (ο w') w' f Y cap:=⟨(h.ns.below hb).more fun _ hg=>Za hg hb.size,h.le,h.cap,h.ps⟩
def uA (f Y cap w) (hf:ek (ο w) w f Y cap) :
  Calls prog 160 #[de f Y cap] w (fJ (eY f) f Y cap w):=by
 obtain⟨r,hr⟩:∃r,eY f=r:=⟨_,rfl⟩;rw[hr];have hb:=Zh w 144 [ι f.ps,.slice Y f.ns.length cap];have ae:Below (ν w) w (w.alloc (.cells #[ι f.ps,.slice Y f.ns.length cap] 144)):=(Zj _ _).alloc (Zc _) _;have aJ:=hf.later ae;have bw:=hf.le;have aS:=hf.cap;obtain⟨c0,c1,-⟩:=kc1 hb;unfold eY kc at hr;unfold de
 by_cases hh:0≤f.ps∧f.ps≤9∧1≤f.ns.length∧f.ns.length≤200
 case' neg=>
  rw[if_neg (by simpa using hh)] at hr;have HR:Hid (r= .error 0):=hr.symm;clear hr
  by_cases H:f.ps < 0
  case' pos=>have f1:decide (f.ps < 0)=true:=by simpa using H
  case' neg=>
   have f1:decide (f.ps < 0)=false:=by simpa using H
   by_cases h2:9 < f.ps
   case' pos=>have f2:decide (9 < f.ps)=true:=by simpa using h2
   case' neg=>
    have f2:decide (9 < f.ps)=false:=by simpa using h2
    by_cases h3:f.ns.length < 1
    case' pos=>have f3:decide (f.ns.length < 1)=true:=by simpa using h3
    case' neg=>
     have f3:decide (f.ns.length < 1)=false:=by simpa using h3
     have h4:200 < f.ns.length:=ω
  all_goals
   clear hh;go_enter func160,ntmps160;go_wp2_with fail
   all_goals first | (go_ret3;exact fJ.no HR ae) | trace_state
 case' pos=>
  rw[if_pos (by simpa using hh)] at hr;obtain⟨h0,h9,H,aE⟩:=hh;have f1:decide (f.ps < 0)=false:=by simp;omega
  have f2:decide (9 < f.ps)=false:=by simp;omega
  have f3:decide (f.ns.length < 1)=false:=Zn ω;have f4:decide (200 < f.ns.length)=false:=Zn ω;have aC:=run_make_row' (P:=prog) 47 3 (ι 0) 8 underlying47 n6 rfl .i64 .i64 f.ns.length ω ω;have aB:=χ hr;clear hr;go_enter func160,ntmps160;go_upto_region 4 with fail;go_region;obtain⟨z,hV⟩:∃z,z=w.heap.size+1+1+1:=⟨_,rfl⟩;obtain⟨D,hD⟩:∃D,D=w.heap.size+1+1:=⟨_,rfl⟩;obtain⟨P,hP⟩:∃P,P=w.heap.size+1:=⟨_,rfl⟩;rw[←hV,←hD,←hP]
  rotate_left
  obtain⟨z,hV⟩:∃z,z=w.heap.size+1+1+1:=⟨_,rfl⟩;obtain⟨P,hP⟩:∃P,P=w.heap.size+1+1:=⟨_,rfl⟩;obtain⟨D,hD⟩:∃D,D=w.heap.size+1:=⟨_,rfl⟩;rw[←hV,←hP,←hD]
  all_goals
   obtain⟨aI,aG,M,aO,ag,O,az,aU,aX,aW⟩:=uG w #[ι f.ps,.slice Y f.ns.length cap] f.ns.length [.int .i64 f.ps,.slice Y f.ns.length cap,.slice (Γ P) f.ns.length f.ns.length,.slice (Γ D) f.ns.length f.ns.length] P D z hV ω;have aa:=hb.BE aO;have ap:=ae.trans (aO.mono ξ);have bo:=hf.later ap;have aw:=aO.size;have aY:w.heap.size < (w.alloc (.cells #[ι f.ps,.slice Y f.ns.length cap] 144)).heap.size:=by simp
   clear hb aJ c0 c1 aO aC ae hV hP hD;generalize aD:World.drew _=G at *;clear aD;generalize World.alloc w _=w1 at *;obtain⟨v0,v1,v2,v3,-⟩:=kc3 M;go_wp2_with fail;go_loopw [7,40] (fun _ ix wr=>∃k:Nat,ix= .int .i64 (k:Nat)∧k≤f.ns.length∧A wr P 3 (bO (List.replicate k (-1) ++ List.replicate (f.ns.length - k) 0))∧Fr (fun b=>b=P) G wr) (fun _ ix _=>f.ns.length - (intOf ix).toNat)
   case atStart=>exact⟨0,rfl,Z2 _,aI,Y8 _ _⟩
   case round=>
    obtain⟨k,rfl,hk,am,aR⟩:=hrel;have aM:=(aR.cell (k:=z) (o:=2) M.lt O).trans v2
    by_cases ad:k < f.ns.length
    case' pos=>
     have L:decide (k < f.ns.length)=true:=by simpa using ad
     have pk:=am.c k (ea (pM ad));have aQ:=am.fz k;have J:=fp ad;go_wp2_with fail;go_roundw
     case' rel=>exact⟨k+1,by go_num,ad,by have:=am.set k (ι (-1));rwa [ir,qS ad] at this,aR.same (Z4 (.inl rfl))⟩
     case' measure=>exact e8 J
    case' neg=>
     have L:decide (k < f.ns.length)=false:=by simpa using ad
     obtain rfl:k=f.ns.length:=ω;rw[Nat.sub_self,List.replicate_zero,List.append_nil] at am;have E:=aG.fr aR ag.symm;have ac:=aa.fr aR (show ¬w.heap.size=P by omega);have aq:=M.fr aR O;have Z:aV (ο w) wr f.ns Y:=(hf.ns.below ap).fr aR fun g hg=>⟨ω,ω⟩;have ax:Below (ν w) w wr:=ap.trans (aR.toBelow _ (fun k hk=>by omega) ω);have aT:=ax.size;clear aI aG aa aM L aR ad hk M v0 v1 v2 v3 ap;have v3:=aq.c 3 rfl;obtain⟨c0,c1,-⟩:=kc1 ac;have dm:=E.c 0 (ea (x:=0) (by rw[List.getElem?_replicate,if_pos (Nat.lt_of_lt_of_le Nat.zero_lt_one H)]));have aH:=E.fz 0;go_wp2_with fail;go_region;have aA:Vw ((σ wr D 0 (ι f.ps):World).drew) z P D f Y cap (c' f.ns.length f.ps):=by
      refine⟨(aq.BJ az _).drew,?_,?_,by simp[c'],ag,O,az⟩
      ·rw[wP]
       exact (am.BJ ag _).drew
      ·have:=(E.set 0 (ι f.ps)).drew
       rwa [ir,vB] at this
     have aK:Below (ν w) w ((σ wr D 0 (ι f.ps):World).drew):=(ax.setCell Ω _).drew;have ah:=(ac.BJ (q:=κ D 0) Ω (ι f.ps)).drew;have aN:=(Z.fr (S:=fun k=>k=D) (Z4 (q:=κ D 0) (u:= .int .i64 f.ps) (.inl rfl)) fun g hg=>⟨ω,ω⟩).fr (S:=Θ) Yn fun g hg=>⟨by simp[World.setCell];omega,id⟩;clear am E ac aq Z v3 c0 c1 dm aH bo;generalize (σ wr D 0 (ι f.ps):World).drew=V at *;have c1:=ah.c 1 rfl;have bv:=aK.size;have ay:gh (c' f.ns.length f.ps):=fun j hj=>by
      unfold c' at hj ⊢;rw[du _ _ _ _ Ξ]
      split
      ·dsimp only;omega
      ·simp only[List.length_set,List.length_replicate] at hj
       unfold pl;simp[List.getD_eq_getElem?_getD,hj]
     go_wp2_with fail;go_loopw [8,60] (fun _ ix wr=>∃(k:Nat) (p:Pl),ix= .int .i64 (k:Nat)∧k≤f.ns.length∧fx f.ns.length k (f.ns.drop k) p=r∧Vw wr z P D f Y cap p∧gh p∧Fr (fun k=>k=P∨k=D) V wr) (fun _ ix _=>f.ns.length - (intOf ix).toNat)
     case atStart=>exact⟨0,_,rfl,Z2 _,aB.out,aA,ay,Y8 _ _⟩
     case round=>
      obtain⟨k,p,rfl,hk,I,af,an,aR⟩:=hrel;have aP:Below (ν w) w wr:=aK.trans (aR.toBelow _ (fun k hk=>by omega) ω)
      by_cases ad:k < f.ns.length
      case' pos=>
       have L:decide (k < f.ns.length)=true:=by simpa using ad
       have J:=fp ad;have aj:=aN.fr aR fun g hg=>⟨ω,ω⟩;rw[List.drop_eq_getElem_cons ad,fx] at I;have hR:=oL f aE Y cap z P D k f.ns[k] p wr (Zg ad) af an (ο w) (fun g hg=>⟨by have:=aP.size;omega,ω,ω⟩) aj;obtain⟨U,ao⟩:∃U,dz f.ns.length k f.ns[k] p=U:=⟨_,rfl⟩;rw[ao] at hR I;have ai:=fun q (h:U=some q)=>wJ (ao.trans h) af.len ad an;clear ao aA ay;cases U with
       | none=>have HR:Hid (r= .error k):=I.symm;clear I ai;go_wp2_with (go_at_call 201;refine hR.mono ?_;rintro e aL bJ;obtain⟨rfl,hfr2⟩:=t6 bJ);go_ret3;exact fJ.no HR (aP.trans (hfr2.toBelow _ (fun k hk=>by omega) (by have:=aP.size;omega)))
       | some p2=>
         obtain⟨ak,-⟩:=ai p2 rfl;have aF:=χ I;clear I ai;go_wp2_with (go_at_call 201;refine hR.mono ?_;rintro e aL bJ;obtain⟨rfl,hfr2,ab⟩:=oX bJ);go_roundw
         case' rel=>exact⟨k+1,p2,by go_num,ad,aF.out,ab,ak,aR.same hfr2⟩
         case' measure=>exact e8 J
      case' neg=>
       have L:decide (k < f.ns.length)=false:=by simpa using ad
       rw[List.drop_of_length_le ω,fx] at I;have HR:=χ I;clear I;go_wp2_with fail;go_ret3;unfold fJ;rw[←HR.out];exact⟨aP,z,P,D,rfl,ω,ω,ω,af⟩
def gD (f:Fn):Int×Int:=match eY f with
 | .ok _=>(0,0)
 | .error i=>((i:Int),60)
def yJ {p q:Prop} (k:q) (h:Zq q→p:=by
 intro mq;have ae:Below (ν w) w (w.alloc (.cells #[ι f.ps,.slice Y f.ns.length cap] 144)):=(Zj _ _).alloc (Zc _) _;have hb:=Zh w 144 [ι f.ps,.slice Y f.ns.length cap];have aJ:=hf.later ae;obtain⟨c0,c1,-⟩:=kc1 hb;revert ae hb aJ c0 c1
 exact mq.u):p:=h ⟨k⟩
def ng (f Y cap w) (hf:ek (ο w) w f Y cap) :
  Calls prog 120 #[de f Y cap] w (ϑ (.tuple #[.int .i64 (gD f).1,.int .i64 (gD f).2]) w):=by
 refine yJ ?_;intro ae hb aJ c0 c1;have hL:=uA f Y cap _ aJ;unfold de at hL ⊢;unfold gD;obtain⟨r,hr⟩:∃r,eY f=r:=⟨_,rfl⟩;rw[hr] at hL ⊢;clear hr;go_enter func120,ntmps120;cases r with
 | ok q=>go_wp2_with (go_at_call 160;refine hL.mono ?_;rintro e G ⟨aa,z,P,D,rfl,-⟩);go_ret2;exact⟨rfl,ae.trans (aa.mono ξ)⟩
 | error i=>go_wp2_with (go_at_call 160;refine hL.mono ?_;rintro e G ⟨aa,rfl⟩);go_ret2;exact⟨rfl,ae.trans (aa.mono ξ)⟩
def lR (f):(gD f).2=if b2 f=true then 0 else 60:=by rw[uI];unfold gD;cases eY f <;> rfl
def vb (f Y cap w) (hf:ek (ο w) w f Y cap) :
  Calls prog 202 #[de f Y cap] w (ϑ (ι (if b2 f=true then 0 else 60)) w):=by refine yJ ?_;intro ae hb aJ c0 c1;have hL:=ng f Y cap _ aJ;rw[lR] at hL;unfold de at hL ⊢;obtain⟨O,hz⟩:∃O:Int,(if b2 f=true then 0 else 60)=O:=⟨_,rfl⟩;rw[hz] at hL ⊢;clear hz;go_enter func202,ntmps202;go_wp2_with (go_at_call 120;refine δ hL ?_;intro G aa);go_ret;exact⟨rfl,ae.trans (aa.mono ξ)⟩
end
end
end Go.Proofs.YtmchabopafimeaaGreatDoor
