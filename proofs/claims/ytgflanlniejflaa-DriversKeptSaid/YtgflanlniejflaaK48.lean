/-
  Drivers: LivM, Liv (texts joined).
-/
import Derived.Test.YtgflanlniejflaaK38
import Derived.Test.YtgflanlniejflaaK41
namespace Go.Proofs.Ytgflanlniejflaa
open Go.RowKit
set_option maxRecDepth 100000
namespace Drv
def n0:NNet:={states:=[⟨0,[⟨0,0,2⟩],[]⟩,⟨0,[],[]⟩,⟨0,[⟨0,0,4⟩,⟨0,0,6⟩],[3,3]⟩,⟨0,[⟨0,0,1⟩],[]⟩,⟨0,[⟨1,0,5⟩],[]⟩,⟨0,[⟨2,0,3⟩],[]⟩,⟨0,[⟨0,0,3⟩],[]⟩],starts:=[0],stops:=[1],preds:=[],decs:=[2]}
def au0:List (List LSt):=[[⟨0,[],[(-1,2),(0,1)]⟩,⟨1,[0],[]⟩,⟨1,[1],[]⟩]]
def want0:Tr:=.node 0 0 0 false [.node (-1) 0 0 false [],.node 0 0 0 false [.node (-1) 1 0 false [],.node 0 0 0 false []]]
theorem newB0:newB n0 au0=true:=by decide
theorem okNet0:OkNet n0 au0:=okNet_of newB0 (by decide) (by decide) (by decide)
theorem live1:parseR (mkDC n0 au0 [0,0] 999 9) 1000=⟨want0,20,3,0,0⟩:=by kernel_rfl
theorem live2:parseR (mkDC n0 au0 [1] 999 9) 1000=⟨.zero,2,1,0,8⟩:=by kernel_rfl
end Drv
theorem allocs_get:∀(l:List Obj) (w:World) (i:Nat) (h:i<l.length),(l.foldl World.alloc w).heap[w.heap.size+i]? =some l[i]∧Below w.heap.size w (l.foldl World.alloc w)∧(l.foldl World.alloc w).heap.size=w.heap.size+l.length:=by
 intro l
 induction l with
 | nil=>intro w i h;exact absurd h (Nat.not_lt_zero _)
 | cons o l ih=>
  intro w i h
  have hz:(w.alloc o).heap.size=w.heap.size+1:=by simp
  have hb:=below_new w o
  rw[List.foldl_cons]
  cases l with
  | nil=>
   have:i=0:=by simp at h;omega
   subst this
   exact⟨heap_alloc_new _ _,hb,hz⟩
  | cons p l=>
   cases i with
   | zero=>
    obtain⟨_,g2,g3⟩:=ih (w.alloc o) 0 (by simp)
    exact⟨(g2.block _ (by omega)).trans (heap_alloc_new _ _),hb.trans (g2.mono hb.size),by rw[g3,hz];simp;omega⟩
   | succ i=>
    obtain⟨g1,g2,g3⟩:=ih (w.alloc o) i (by simpa using h)
    exact⟨by rw[hz,Nat.add_assoc,Nat.add_comm 1 i]at g1;exact g1,hb.trans (g2.mono hb.size),by rw[g3,hz];simp;omega⟩
theorem rdh {w:World}{b n size:Nat}{T:TypeId}{cs:Array Value}(h:w.heap[b]? =some (.cells cs T (0,0))) (hl:cs.size=n*size):Reads w w.heap.size size (some ⟨b,0,none⟩) n cs.toList:=
 ⟨by rw[Array.length_toList];exact hl,fun _=>⟨b,0,rfl,heap_lt h,fun j u hu=>by rw[Lib.cell_of_heap h,Nat.zero_add,←Array.getElem?_toList];exact hu⟩⟩
theorem rd0 {w:World}{B size:Nat}{A:Option Addr}:Reads w B size A 0 []:=⟨by simp,fun h=>absurd h (Nat.lt_irrefl 0)⟩
theorem live_mem (w wq:World) (h:wq=(((((((((((((((((w.alloc (.cells #[.int .i64 0] 3)).alloc (.cells #[.int .i64 1] 3)).alloc (.cells #[.int .i64 2] 3)).alloc (.cells #[.int .u8 0,.int .i64 0,.int .i64 2] 60)).alloc (.cells #[.int .u8 0,.int .i64 0,.int .i64 4,.int .u8 0,.int .i64 0,.int .i64 6] 60)).alloc (.cells #[.int .i64 3,.int .i64 3] 3)).alloc (.cells #[.int .u8 0,.int .i64 0,.int .i64 1] 60)).alloc (.cells #[.int .u8 1,.int .i64 0,.int .i64 5] 60)).alloc (.cells #[.int .u8 2,.int .i64 0,.int .i64 3] 60)).alloc (.cells #[.int .u8 0,.int .i64 0,.int .i64 3] 60)).alloc (.cells #[.int .i64 0,.slice (some ⟨w.heap.size+1+1+1,0,none⟩) 1 1,.slice none 0 0,.int .i64 0,.slice none 0 0,.slice none 0 0,.int .i64 0,.slice (some ⟨w.heap.size+1+1+1+1,0,none⟩) 2 2,.slice (some ⟨w.heap.size+1+1+1+1+1,0,none⟩) 2 2,.int .i64 0,.slice (some ⟨w.heap.size+1+1+1+1+1+1,0,none⟩) 1 1,.slice none 0 0,.int .i64 0,.slice (some ⟨w.heap.size+1+1+1+1+1+1+1,0,none⟩) 1 1,.slice none 0 0,.int .i64 0,.slice (some ⟨w.heap.size+1+1+1+1+1+1+1+1,0,none⟩) 1 1,.slice none 0 0,.int .i64 0,.slice (some ⟨w.heap.size+1+1+1+1+1+1+1+1+1,0,none⟩) 1 1,.slice none 0 0] 47)).alloc (.cells #[.slice (some ⟨w.heap.size+1+1+1+1+1+1+1+1+1+1,0,none⟩) 7 7,.slice (some ⟨w.heap.size,0,none⟩) 1 1,.slice (some ⟨w.heap.size+1,0,none⟩) 1 1,.slice none 0 0,.slice (some ⟨w.heap.size+1+1,0,none⟩) 1 1] 25)).alloc (.cells #[.int .i64 (-1),.int .i64 2,.int .i64 0,.int .i64 1] 62)).alloc (.cells #[.int .i64 0] 3)).alloc (.cells #[.int .i64 1] 3)).alloc (.cells #[.int .u8 0,.slice none 0 0,.slice (some ⟨w.heap.size+1+1+1+1+1+1+1+1+1+1+1+1,0,none⟩) 2 2,.int .u8 1,.slice (some ⟨w.heap.size+1+1+1+1+1+1+1+1+1+1+1+1+1,0,none⟩) 1 1,.slice none 0 0,.int .u8 1,.slice (some ⟨w.heap.size+1+1+1+1+1+1+1+1+1+1+1+1+1+1,0,none⟩) 1 1,.slice none 0 0] 54)).alloc (.cells #[.slice (some ⟨w.heap.size+1+1+1+1+1+1+1+1+1+1+1+1+1+1+1,0,none⟩) 3 3] 50))):Below w.heap.size w wq∧wq.heap.size=w.heap.size+17∧wq.heap[w.heap.size+1+1+1+1+1+1+1+1+1+1+1]? =some (.cells #[.slice (some ⟨w.heap.size+1+1+1+1+1+1+1+1+1+1,0,none⟩) 7 7,.slice (some ⟨w.heap.size,0,none⟩) 1 1,.slice (some ⟨w.heap.size+1,0,none⟩) 1 1,.slice none 0 0,.slice (some ⟨w.heap.size+1+1,0,none⟩) 1 1] 25 (0,0))∧wq.heap[w.heap.size+1+1+1+1+1+1+1+1+1+1+1+1+1+1+1+1]? =some (.cells #[.slice (some ⟨w.heap.size+1+1+1+1+1+1+1+1+1+1+1+1+1+1+1,0,none⟩) 3 3] 50 (0,0))∧
 NetR wq wq.heap.size (some ⟨w.heap.size+1+1+1+1+1+1+1+1+1+1,0,none⟩) (some ⟨w.heap.size,0,none⟩) (some ⟨w.heap.size+1,0,none⟩) none (some ⟨w.heap.size+1+1,0,none⟩) Drv.n0∧AutR wq wq.heap.size (some ⟨w.heap.size+1+1+1+1+1+1+1+1+1+1+1+1+1+1+1,0,none⟩) [⟨0,[],[(-1,2),(0,1)]⟩,⟨1,[0],[]⟩,⟨1,[1],[]⟩]:=by
 have hall:=fun i hi=>allocs_get [(.cells #[.int .i64 0] 3),(.cells #[.int .i64 1] 3),(.cells #[.int .i64 2] 3),(.cells #[.int .u8 0,.int .i64 0,.int .i64 2] 60),(.cells #[.int .u8 0,.int .i64 0,.int .i64 4,.int .u8 0,.int .i64 0,.int .i64 6] 60),(.cells #[.int .i64 3,.int .i64 3] 3),(.cells #[.int .u8 0,.int .i64 0,.int .i64 1] 60),(.cells #[.int .u8 1,.int .i64 0,.int .i64 5] 60),(.cells #[.int .u8 2,.int .i64 0,.int .i64 3] 60),(.cells #[.int .u8 0,.int .i64 0,.int .i64 3] 60),(.cells #[.int .i64 0,.slice (some ⟨w.heap.size+1+1+1,0,none⟩) 1 1,.slice none 0 0,.int .i64 0,.slice none 0 0,.slice none 0 0,.int .i64 0,.slice (some ⟨w.heap.size+1+1+1+1,0,none⟩) 2 2,.slice (some ⟨w.heap.size+1+1+1+1+1,0,none⟩) 2 2,.int .i64 0,.slice (some ⟨w.heap.size+1+1+1+1+1+1,0,none⟩) 1 1,.slice none 0 0,.int .i64 0,.slice (some ⟨w.heap.size+1+1+1+1+1+1+1,0,none⟩) 1 1,.slice none 0 0,.int .i64 0,.slice (some ⟨w.heap.size+1+1+1+1+1+1+1+1,0,none⟩) 1 1,.slice none 0 0,.int .i64 0,.slice (some ⟨w.heap.size+1+1+1+1+1+1+1+1+1,0,none⟩) 1 1,.slice none 0 0] 47),(.cells #[.slice (some ⟨w.heap.size+1+1+1+1+1+1+1+1+1+1,0,none⟩) 7 7,.slice (some ⟨w.heap.size,0,none⟩) 1 1,.slice (some ⟨w.heap.size+1,0,none⟩) 1 1,.slice none 0 0,.slice (some ⟨w.heap.size+1+1,0,none⟩) 1 1] 25),(.cells #[.int .i64 (-1),.int .i64 2,.int .i64 0,.int .i64 1] 62),(.cells #[.int .i64 0] 3),(.cells #[.int .i64 1] 3),(.cells #[.int .u8 0,.slice none 0 0,.slice (some ⟨w.heap.size+1+1+1+1+1+1+1+1+1+1+1+1,0,none⟩) 2 2,.int .u8 1,.slice (some ⟨w.heap.size+1+1+1+1+1+1+1+1+1+1+1+1+1,0,none⟩) 1 1,.slice none 0 0,.int .u8 1,.slice (some ⟨w.heap.size+1+1+1+1+1+1+1+1+1+1+1+1+1+1,0,none⟩) 1 1,.slice none 0 0] 54),(.cells #[.slice (some ⟨w.heap.size+1+1+1+1+1+1+1+1+1+1+1+1+1+1+1,0,none⟩) 3 3] 50)] w i hi
 simp only[List.foldl_cons,List.foldl_nil]at hall
 rw[←h]at hall
 have h0:wq.heap[w.heap.size]? =some (.cells #[.int .i64 0] 3 (0,0)):=(hall 0 (by simp)).1
 have h1:wq.heap[w.heap.size+1]? =some (.cells #[.int .i64 1] 3 (0,0)):=(hall 1 (by simp)).1
 have h2:wq.heap[w.heap.size+1+1]? =some (.cells #[.int .i64 2] 3 (0,0)):=(hall 2 (by simp)).1
 have h3:wq.heap[w.heap.size+1+1+1]? =some (.cells #[.int .u8 0,.int .i64 0,.int .i64 2] 60 (0,0)):=(hall 3 (by simp)).1
 have h4:wq.heap[w.heap.size+1+1+1+1]? =some (.cells #[.int .u8 0,.int .i64 0,.int .i64 4,.int .u8 0,.int .i64 0,.int .i64 6] 60 (0,0)):=(hall 4 (by simp)).1
 have h5:wq.heap[w.heap.size+1+1+1+1+1]? =some (.cells #[.int .i64 3,.int .i64 3] 3 (0,0)):=(hall 5 (by simp)).1
 have h6:wq.heap[w.heap.size+1+1+1+1+1+1]? =some (.cells #[.int .u8 0,.int .i64 0,.int .i64 1] 60 (0,0)):=(hall 6 (by simp)).1
 have h7:wq.heap[w.heap.size+1+1+1+1+1+1+1]? =some (.cells #[.int .u8 1,.int .i64 0,.int .i64 5] 60 (0,0)):=(hall 7 (by simp)).1
 have h8:wq.heap[w.heap.size+1+1+1+1+1+1+1+1]? =some (.cells #[.int .u8 2,.int .i64 0,.int .i64 3] 60 (0,0)):=(hall 8 (by simp)).1
 have h9:wq.heap[w.heap.size+1+1+1+1+1+1+1+1+1]? =some (.cells #[.int .u8 0,.int .i64 0,.int .i64 3] 60 (0,0)):=(hall 9 (by simp)).1
 have h10:wq.heap[w.heap.size+1+1+1+1+1+1+1+1+1+1]? =some (.cells #[.int .i64 0,.slice (some ⟨w.heap.size+1+1+1,0,none⟩) 1 1,.slice none 0 0,.int .i64 0,.slice none 0 0,.slice none 0 0,.int .i64 0,.slice (some ⟨w.heap.size+1+1+1+1,0,none⟩) 2 2,.slice (some ⟨w.heap.size+1+1+1+1+1,0,none⟩) 2 2,.int .i64 0,.slice (some ⟨w.heap.size+1+1+1+1+1+1,0,none⟩) 1 1,.slice none 0 0,.int .i64 0,.slice (some ⟨w.heap.size+1+1+1+1+1+1+1,0,none⟩) 1 1,.slice none 0 0,.int .i64 0,.slice (some ⟨w.heap.size+1+1+1+1+1+1+1+1,0,none⟩) 1 1,.slice none 0 0,.int .i64 0,.slice (some ⟨w.heap.size+1+1+1+1+1+1+1+1+1,0,none⟩) 1 1,.slice none 0 0] 47 (0,0)):=(hall 10 (by simp)).1
 have h11:wq.heap[w.heap.size+1+1+1+1+1+1+1+1+1+1+1]? =some (.cells #[.slice (some ⟨w.heap.size+1+1+1+1+1+1+1+1+1+1,0,none⟩) 7 7,.slice (some ⟨w.heap.size,0,none⟩) 1 1,.slice (some ⟨w.heap.size+1,0,none⟩) 1 1,.slice none 0 0,.slice (some ⟨w.heap.size+1+1,0,none⟩) 1 1] 25 (0,0)):=(hall 11 (by simp)).1
 have h12:wq.heap[w.heap.size+1+1+1+1+1+1+1+1+1+1+1+1]? =some (.cells #[.int .i64 (-1),.int .i64 2,.int .i64 0,.int .i64 1] 62 (0,0)):=(hall 12 (by simp)).1
 have h13:wq.heap[w.heap.size+1+1+1+1+1+1+1+1+1+1+1+1+1]? =some (.cells #[.int .i64 0] 3 (0,0)):=(hall 13 (by simp)).1
 have h14:wq.heap[w.heap.size+1+1+1+1+1+1+1+1+1+1+1+1+1+1]? =some (.cells #[.int .i64 1] 3 (0,0)):=(hall 14 (by simp)).1
 have h15:wq.heap[w.heap.size+1+1+1+1+1+1+1+1+1+1+1+1+1+1+1]? =some (.cells #[.int .u8 0,.slice none 0 0,.slice (some ⟨w.heap.size+1+1+1+1+1+1+1+1+1+1+1+1,0,none⟩) 2 2,.int .u8 1,.slice (some ⟨w.heap.size+1+1+1+1+1+1+1+1+1+1+1+1+1,0,none⟩) 1 1,.slice none 0 0,.int .u8 1,.slice (some ⟨w.heap.size+1+1+1+1+1+1+1+1+1+1+1+1+1+1,0,none⟩) 1 1,.slice none 0 0] 54 (0,0)):=(hall 15 (by simp)).1
 have h16:wq.heap[w.heap.size+1+1+1+1+1+1+1+1+1+1+1+1+1+1+1+1]? =some (.cells #[.slice (some ⟨w.heap.size+1+1+1+1+1+1+1+1+1+1+1+1+1+1+1,0,none⟩) 3 3] 50 (0,0)):=(hall 16 (by simp)).1
 refine⟨(hall 0 (by simp)).2.1,(hall 0 (by simp)).2.2,h11,h16,⟨⟨_,rdh h10 rfl,fun i hi=>?_⟩,rdh h0 rfl,rdh h1 rfl,rd0,rdh h2 rfl⟩,⟨_,rdh h15 rfl,fun i hi=>?_⟩⟩
 ·have hi:i<7:=hi
  rcases(by omega:i=0∨i=1∨i=2∨i=3∨i=4∨i=5∨i=6)with rfl | rfl | rfl | rfl | rfl | rfl | rfl
  ·exact⟨_,_,_,_,rfl,rfl,rfl,rdh h3 rfl,rd0⟩
  ·exact⟨_,_,_,_,rfl,rfl,rfl,rd0,rd0⟩
  ·exact⟨_,_,_,_,rfl,rfl,rfl,rdh h4 rfl,rdh h5 rfl⟩
  ·exact⟨_,_,_,_,rfl,rfl,rfl,rdh h6 rfl,rd0⟩
  ·exact⟨_,_,_,_,rfl,rfl,rfl,rdh h7 rfl,rd0⟩
  ·exact⟨_,_,_,_,rfl,rfl,rfl,rdh h8 rfl,rd0⟩
  ·exact⟨_,_,_,_,rfl,rfl,rfl,rdh h9 rfl,rd0⟩
 ·have hi:i<3:=hi
  rcases(by omega:i=0∨i=1∨i=2)with rfl | rfl | rfl
  ·exact⟨_,_,_,_,rfl,rfl,rfl,rd0,rdh h12 rfl⟩
  ·exact⟨_,_,_,_,rfl,rfl,rfl,rdh h13 rfl,rd0⟩
  ·exact⟨_,_,_,_,rfl,rfl,rfl,rdh h14 rfl,rd0⟩
theorem roh {w:World}{b n size:Nat}{T:TypeId}{cs:Array Value}(h:w.heap[b]? =some (.cells cs T (0,0))) (hl:cs.size=n*size):RO w (fun _=>False) size (some ⟨b,0,none⟩) n cs.toList:=
 ⟨by rw[Array.length_toList];exact hl,fun _=>⟨b,0,rfl,heap_lt h,id,fun j u hu=>by rw[Lib.cell_of_heap h,Nat.zero_add,←Array.getElem?_toList];exact hu⟩⟩
theorem ro0 {w:World}{S:Nat→Prop}{size:Nat}{A:Option Addr}:RO w S size A 0 []:=⟨by simp,fun h=>absurd h (Nat.lt_irrefl 0)⟩
theorem tr_leaf (w:World) (S:Nat→Prop) (r t k:Int) (e:Bool):TrV w S (.node r t k e []) [.int .i64 r,.int .i64 t,.int .i64 k,.bool e,.slice none 0 0]:=by
 unfold TrV
 exact⟨none,0,[],rfl,ro0,by unfold TrsV;rfl⟩
theorem tr_two {w:World}{S:Nat→Prop}{A:Option Addr}{r t k:Int}{e:Bool}{x y:Drv.Tr}{a b:List Value}(h:RO w S 5 A 2 (a++b)) (hx:TrV w S x a) (hy:TrV w S y b):TrV w S (.node r t k e [x,y]) [.int .i64 r,.int .i64 t,.int .i64 k,.bool e,.slice A 2 2]:=by
 unfold TrV
 refine⟨A,2,a++b,rfl,h,?_⟩
 unfold TrsV
 refine⟨a,b,rfl,hx,?_⟩
 unfold TrsV
 exact⟨b,[],by simp,hy,by unfold TrsV;rfl⟩
theorem live_mem2 (w wq:World) (A2:Option Addr) (c2:Nat) (h:wq=(((((((w.alloc (.cells #[.int .i64 0,.int .i64 0,.int .i64 0,.bool false,.slice A2 0 c2] 65)).alloc (.cells #[.int .i64 2,.int .i64 1,.int .i64 0] 70)).alloc (.cells #[.int .i64 (-1),.int .i64 0,.int .i64 0,.bool false,.slice none 0 0] 65)).alloc (.cells #[.int .i64 (-1),.int .i64 1,.int .i64 0,.bool false,.slice none 0 0] 65)).alloc (.cells #[.int .i64 (-1),.int .i64 1,.int .i64 0,.bool false,.slice none 0 0,.int .i64 0,.int .i64 0,.int .i64 0,.bool false,.slice none 0 0] 65)).alloc (.cells #[.int .i64 (-1),.int .i64 0,.int .i64 0,.bool false,.slice none 0 0,.int .i64 0,.int .i64 0,.int .i64 0,.bool false,.slice (some ⟨w.heap.size+1+1+1+1,0,none⟩) 2 2] 65)).alloc (.cells #[.int .i64 0,.int .i64 0,.int .i64 0,.bool false,.slice (some ⟨w.heap.size+1+1+1+1+1,0,none⟩) 2 2] 65))):Below w.heap.size w wq∧wq.heap[w.heap.size+1+1+1+1+1+1]? =some (.cells #[.int .i64 0,.int .i64 0,.int .i64 0,.bool false,.slice (some ⟨w.heap.size+1+1+1+1+1,0,none⟩) 2 2] 65 (0,0))∧TrV wq (fun _=>False) Drv.want0 [.int .i64 0,.int .i64 0,.int .i64 0,.bool false,.slice (some ⟨w.heap.size+1+1+1+1+1,0,none⟩) 2 2]:=by
 have hall:=fun i hi=>allocs_get [(.cells #[.int .i64 0,.int .i64 0,.int .i64 0,.bool false,.slice A2 0 c2] 65),(.cells #[.int .i64 2,.int .i64 1,.int .i64 0] 70),(.cells #[.int .i64 (-1),.int .i64 0,.int .i64 0,.bool false,.slice none 0 0] 65),(.cells #[.int .i64 (-1),.int .i64 1,.int .i64 0,.bool false,.slice none 0 0] 65),(.cells #[.int .i64 (-1),.int .i64 1,.int .i64 0,.bool false,.slice none 0 0,.int .i64 0,.int .i64 0,.int .i64 0,.bool false,.slice none 0 0] 65),(.cells #[.int .i64 (-1),.int .i64 0,.int .i64 0,.bool false,.slice none 0 0,.int .i64 0,.int .i64 0,.int .i64 0,.bool false,.slice (some ⟨w.heap.size+1+1+1+1,0,none⟩) 2 2] 65),(.cells #[.int .i64 0,.int .i64 0,.int .i64 0,.bool false,.slice (some ⟨w.heap.size+1+1+1+1+1,0,none⟩) 2 2] 65)] w i hi
 simp only[List.foldl_cons,List.foldl_nil]at hall
 rw[←h]at hall
 have h4:wq.heap[w.heap.size+1+1+1+1]? =some (.cells #[.int .i64 (-1),.int .i64 1,.int .i64 0,.bool false,.slice none 0 0,.int .i64 0,.int .i64 0,.int .i64 0,.bool false,.slice none 0 0] 65 (0,0)):=(hall 4 (by simp)).1
 have h5:wq.heap[w.heap.size+1+1+1+1+1]? =some (.cells #[.int .i64 (-1),.int .i64 0,.int .i64 0,.bool false,.slice none 0 0,.int .i64 0,.int .i64 0,.int .i64 0,.bool false,.slice (some ⟨w.heap.size+1+1+1+1,0,none⟩) 2 2] 65 (0,0)):=(hall 5 (by simp)).1
 have h6:wq.heap[w.heap.size+1+1+1+1+1+1]? =some (.cells #[.int .i64 0,.int .i64 0,.int .i64 0,.bool false,.slice (some ⟨w.heap.size+1+1+1+1+1,0,none⟩) 2 2] 65 (0,0)):=(hall 6 (by simp)).1
 refine⟨(hall 0 (by simp)).2.1,h6,?_⟩
 unfold Drv.want0
 exact tr_two (a:=[.int .i64 (-1),.int .i64 0,.int .i64 0,.bool false,.slice none 0 0]) (b:=[.int .i64 0,.int .i64 0,.int .i64 0,.bool false,.slice (some ⟨w.heap.size+1+1+1+1,0,none⟩) 2 2]) (roh h5 rfl) (tr_leaf _ _ _ _ _ _) (tr_two (a:=[.int .i64 (-1),.int .i64 1,.int .i64 0,.bool false,.slice none 0 0]) (b:=[.int .i64 0,.int .i64 0,.int .i64 0,.bool false,.slice none 0 0]) (roh h4 rfl) (tr_leaf _ _ _ _ _ _) (tr_leaf _ _ _ _ _ _))
end Go.Proofs.Ytgflanlniejflaa
namespace Go.Proofs.Ytgflanlniejflaa
open Go.RowKit
set_option maxRecDepth 100000
theorem heap_new2 (w:World) (o:Obj) (k:Nat) (h:k=w.heap.size):(w.alloc o).heap[k]? =some o:=by rw[h];exact heap_alloc_new _ _
set_option maxHeartbeats 12800000 in
theorem lives_any (w:World):Calls Try.prog 7 #[] w fun e w'=>e= .returned (.bool true)∧Below w.heap.size w w':=by
 go_enter Try.func7,Try.ntmps7
 go_upto_region 3 with fail
 have LM:=fun wq h=>live_mem w wq h
 generalize hq:World.alloc _ _=wq
 obtain⟨hb0,hz0,hb11,hb16,hnet,haut⟩:=LM wq hq.symm
 clear LM hq
 have x0:wq.cell? ⟨w.heap.size+1+1+1+1+1+1+1+1+1+1+1,0,none⟩=some (.slice (some ⟨w.heap.size+1+1+1+1+1+1+1+1+1+1,0,none⟩) 7 7):=by rw[Lib.cell_of_heap hb11];rfl
 have x1:wq.cell? ⟨w.heap.size+1+1+1+1+1+1+1+1+1+1+1,1,none⟩=some (.slice (some ⟨w.heap.size,0,none⟩) 1 1):=by rw[Lib.cell_of_heap hb11];rfl
 have x2:wq.cell? ⟨w.heap.size+1+1+1+1+1+1+1+1+1+1+1,2,none⟩=some (.slice (some ⟨w.heap.size+1,0,none⟩) 1 1):=by rw[Lib.cell_of_heap hb11];rfl
 have x3:wq.cell? ⟨w.heap.size+1+1+1+1+1+1+1+1+1+1+1,3,none⟩=some (.slice none 0 0):=by rw[Lib.cell_of_heap hb11];rfl
 have x4:wq.cell? ⟨w.heap.size+1+1+1+1+1+1+1+1+1+1+1,4,none⟩=some (.slice (some ⟨w.heap.size+1+1,0,none⟩) 1 1):=by rw[Lib.cell_of_heap hb11];rfl
 have x5:wq.cell? ⟨w.heap.size+1+1+1+1+1+1+1+1+1+1+1+1+1+1+1+1,0,none⟩=some (.slice (some ⟨w.heap.size+1+1+1+1+1+1+1+1+1+1+1+1+1+1+1,0,none⟩) 3 3):=by rw[Lib.cell_of_heap hb16];rfl
 have HB0:=hid hb0
 obtain⟨w1,hw1⟩:∃x,x=wq.alloc (.cells #[.slice (some ⟨w.heap.size+1+1+1+1+1+1+1+1+1+1+1+1+1+1+1,0,none⟩) 3 3] 50):=⟨_,rfl⟩
 have hb1:Below wq.heap.size wq w1:=by rw[hw1];exact below_new _ _
 have h1:w1.heap[wq.heap.size]? =some (.cells #[.slice (some ⟨w.heap.size+1+1+1+1+1+1+1+1+1+1+1+1+1+1+1,0,none⟩) 3 3] 50 (0,0)):=by rw[hw1];exact heap_alloc_new _ _
 have hA:AusR w1 w1.heap.size (some ⟨wq.heap.size,0,none⟩) Drv.au0:=⟨_,rdh h1 rfl,fun i hi=>by
  have hi:i<1:=hi
  obtain rfl:i=0:=by omega
  obtain⟨vs',k2,k3⟩:=haut
  exact⟨_,_,rfl,vs',(k2.below hb1).more hb1.size,fun i hi=>by obtain⟨A1,c1,A2,c2,f0,f1,f2,f3,f4⟩:=k3 i hi;exact⟨A1,c1,A2,c2,f0,f1,f2,(f3.below hb1).more hb1.size,(f4.below hb1).more hb1.size⟩⟩⟩
 have CN:=hid (new_any w1 Drv.n0 _ _ _ _ _ _ 7 1 1 0 1 1 Drv.au0 (hnet.up hb1 hb1.size) ⟨by decide,by decide,by decide,by decide,by decide,by decide⟩ hA (by decide) (show∀a∈Drv.au0,a.length≤1000000∧∀s∈a,s.alts.length≤1000000∧s.edges.length≤1000000 by decide))
 have HW1:=hid hw1.symm
 have HB1:=hid (hb0.trans (hb1.mono hb0.size))
 clear hb0 hz0 hb11 hb16 hnet haut hw1 hb1 h1 hA
 go_wp2_with fail
 rw[HW1.out]
 refine CN.out.mono ?_
 rintro e w2 ⟨hb2,⟨hf,_⟩ | ⟨_,D,k9,rfl,hDl,hk9,hdrv⟩⟩
 ·rw[Drv.newB0]at hf;cases hf
 have HB2:=hid (HB1.out.trans (hb2.mono HB1.out.size))
 have HDR:=hid hdrv
 clear HW1 CN hb2 hk9 hDl x0 x1 x2 x3 x4 x5 hdrv
 dsimp only
 go_upto_region 4 with fail
 generalize hwd:Drv.wideR Drv.n0 k9.rul=wd at HDR
 clear hwd
 obtain⟨w3,hw3⟩:∃x,x=w2.alloc (.cells #[.int .i64 0,.int .i64 0] 3):=⟨_,rfl⟩
 have hb3:Below w2.heap.size w2 w3:=by rw[hw3];exact below_new _ _
 have h3:w3.heap[w2.heap.size]? =some (.cells #[.int .i64 0,.int .i64 0] 3 (0,0)):=by rw[hw3];exact heap_alloc_new _ _
 have CP:=hid (parseP_any w3 D Drv.n0 Drv.au0 wd [0,0] (some ⟨w2.heap.size,0,none⟩) 2 999 9 (HDR.out w3 (Up.of_below hb3)) Drv.okNet0 (rdh h3 rfl) (Nat.le_refl _) (fun e=>by cases e) (by decide) (by decide) (by decide) (by decide))
 have HW3:=hid hw3.symm
 have HB3:=hid (HB2.out.trans (hb3.mono HB2.out.size))
 have HU3:Hid (Up w1.heap.size w2 w3):=hid (Up.of_below hb3)
 clear hw3 hb3 h3 HB2
 go_wp2_with fail
 rw[HW3.out]
 refine CP.out.mono ?_
 rintro e w4 ⟨a,ha,hb4,r,t,q,b,s,rfl,htr⟩
 have ha:=ha 1000 (by decide)
 rw[Drv.live1]at ha
 subst ha
 have HTR:=hid htr
 have h5:=htr
 unfold Drv.want0 TrV at h5
 obtain⟨A,c,xs,hv,_,_⟩:=h5
 simp only[List.cons.injEq,Value.int.injEq,Value.bool.injEq,true_and,and_true]at hv
 obtain⟨rfl,rfl,rfl,rfl,rfl⟩:=hv
 have HB4:=hid (HB3.out.trans (hb4.mono HB3.out.size))
 have HU4:=hid (HU3.out.trans (Up.of_below hb4))
 clear htr hb4 HB3 HU3 CP HW3
 dsimp only
 go_upto_region 5 with fail
 obtain⟨w5,hw5⟩:∃x,x=(w4.alloc (.cells #[.int .i64 0,.int .i64 0,.int .i64 0,.bool false,.slice A 2 c] 65)).alloc (.cells #[.int .i64 20,.int .i64 3,.int .i64 0] 70):=⟨_,rfl⟩
 have hb5:Below w4.heap.size w4 w5:=by rw[hw5];exact(below_new _ _).alloc (by simp) _
 have h50:w5.heap[w4.heap.size]? =some (.cells #[.int .i64 0,.int .i64 0,.int .i64 0,.bool false,.slice A 2 c] 65 (0,0)):=by rw[hw5,Below.heap_alloc _ _ _ (by simp)];exact heap_alloc_new _ _
 have h51:w5.heap[w4.heap.size+1]? =some (.cells #[.int .i64 20,.int .i64 3,.int .i64 0] 70 (0,0)):=by rw[hw5];exact heap_new2 _ _ _ (by simp)
 obtain⟨w6,hw6⟩:∃x,x=w5.alloc (.cells #[.int .i64 1] 3):=⟨_,rfl⟩
 have hb6:Below w5.heap.size w5 w6:=by rw[hw6];exact below_new _ _
 have h6:w6.heap[w5.heap.size]? =some (.cells #[.int .i64 1] 3 (0,0)):=by rw[hw6];exact heap_alloc_new _ _
 have CP:=hid (parseP_any w6 D Drv.n0 Drv.au0 wd [1] (some ⟨w5.heap.size,0,none⟩) 1 999 9 (HDR.out w6 (HU4.out.trans ((Up.of_below hb5).trans (Up.of_below hb6)))) Drv.okNet0 (rdh h6 rfl) (Nat.le_refl _) (fun e=>by cases e) (by decide) (by decide) (by decide) (by decide))
 have HW5:=hid hw5.symm
 have HW6:=hid hw6.symm
 have hb46:=hb5.trans (hb6.mono hb5.size)
 have HB6:=hid (HB4.out.trans (hb46.mono HB4.out.size))
 have HT6:=hid (TrV.only (S':=fun j=>j<w3.heap.size) (Only.of_below hb46) (fun _ _ e=>e) _ _ HTR.out)
 have H50:=hid ((hb6.block _ (heap_lt h50)).trans h50)
 have H51:=hid ((hb6.block _ (heap_lt h51)).trans h51)
 have hl50:=heap_lt H50.out
 have hl51:=heap_lt H51.out
 have hl4:w.heap.size≤w4.heap.size:=HB4.out.size
 clear hw5 hb5 h50 h51 hw6 hb6 h6 hb46 HTR HB4 HU4 HDR
 go_upto_region 5 with fail
 rw[HW5.out]
 clear HW5
 go_wp2_with fail
 rw[HW6.out]
 refine CP.out.mono ?_
 rintro e w7 ⟨a,ha,hb7,r,t,q,b,s,rfl,htr⟩
 have ha:=ha 1000 (by decide)
 rw[Drv.live2]at ha
 subst ha
 have h8:=htr
 unfold Drv.Tr.zero TrV at h8
 obtain⟨A2,c2,xs2,hv,_,_⟩:=h8
 simp only[List.cons.injEq,Value.int.injEq,Value.bool.injEq,true_and,and_true]at hv
 obtain⟨rfl,rfl,rfl,rfl,rfl⟩:=hv
 have HB7:=hid (HB6.out.trans (hb7.mono HB6.out.size))
 have HT7:=hid (TrV.only (S':=fun j=>j<w3.heap.size) (Only.of_below hb7) (fun _ _ e=>e) _ _ HT6.out)
 have H70:=hid ((hb7.block _ hl50).trans H50.out)
 have H71:=hid ((hb7.block _ hl51).trans H51.out)
 clear htr hb7 HB6 HT6 H50 H51 hl50 hl51 CP HW6
 dsimp only
 go_upto_region 10 with fail
 have LM:=fun wq h=>live_mem2 w7 wq A2 c2 h
 generalize hq:World.alloc _ _=w8
 obtain⟨hb8,h86,htw⟩:=LM w8 hq.symm
 clear LM hq
 have h8t:=(hb8.block _ (heap_lt H70.out)).trans H70.out
 have h8s:=(hb8.block _ (heap_lt H71.out)).trans H71.out
 have ht8:=TrV.only (S':=fun j=>j<w3.heap.size) (Only.of_below hb8) (fun _ _ e=>e) _ _ HT7.out
 have HB8:=hid (HB7.out.trans (hb8.mono HB7.out.size))
 have CS:=hid (sameTree_any (Drv.szTr Drv.want0) Drv.want0 Drv.want0 w8 _ _ _ _ (Nat.le_refl _) (by unfold Drv.want0;simp[Drv.smTr,Drv.smTrs]) ht8 htw)
 have a0:w8.cell? ⟨w4.heap.size,0,none⟩=some (.int .i64 0):=by rw[Lib.cell_of_heap h8t];rfl
 have a1:w8.cell? ⟨w4.heap.size,1,none⟩=some (.int .i64 0):=by rw[Lib.cell_of_heap h8t];rfl
 have a2:w8.cell? ⟨w4.heap.size,2,none⟩=some (.int .i64 0):=by rw[Lib.cell_of_heap h8t];rfl
 have a3:w8.cell? ⟨w4.heap.size,3,none⟩=some (.bool false):=by rw[Lib.cell_of_heap h8t];rfl
 have a4:w8.cell? ⟨w4.heap.size,4,none⟩=some (.slice A 2 c):=by rw[Lib.cell_of_heap h8t];rfl
 have s1:w8.cell? ⟨w4.heap.size+1,1,none⟩=some (.int .i64 3):=by rw[Lib.cell_of_heap h8s];rfl
 have s2:w8.cell? ⟨w4.heap.size+1,2,none⟩=some (.int .i64 0):=by rw[Lib.cell_of_heap h8s];rfl
 have d0:w8.cell? ⟨w7.heap.size+1+1+1+1+1+1,0,none⟩=some (.int .i64 0):=by rw[Lib.cell_of_heap h86];rfl
 have d1:w8.cell? ⟨w7.heap.size+1+1+1+1+1+1,1,none⟩=some (.int .i64 0):=by rw[Lib.cell_of_heap h86];rfl
 have d2:w8.cell? ⟨w7.heap.size+1+1+1+1+1+1,2,none⟩=some (.int .i64 0):=by rw[Lib.cell_of_heap h86];rfl
 have d3:w8.cell? ⟨w7.heap.size+1+1+1+1+1+1,3,none⟩=some (.bool false):=by rw[Lib.cell_of_heap h86];rfl
 have d4:w8.cell? ⟨w7.heap.size+1+1+1+1+1+1,4,none⟩=some (.slice (some ⟨w7.heap.size+1+1+1+1+1,0,none⟩) 2 2):=by rw[Lib.cell_of_heap h86];rfl
 clear hb8 h86 htw h8t h8s ht8 HB7 HT7 H70 H71
 go_wp2_with fail
 refine CS.out.mono ?_
 rintro e w9 ⟨rfl,hb9⟩
 rw[(Drv.sameTr_iff _ _).2 rfl]
 have HB9:=hid (HB8.out.trans (hb9.mono HB8.out.size))
 clear hb9 CS
 dsimp only
 go_wp2_with fail
 go_ret
 exact⟨rfl,HB9.out⟩
end Go.Proofs.Ytgflanlniejflaa
