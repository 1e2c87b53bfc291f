/-
  Drivers: a new driver: what is asked of nets and automata; a driver that is being made, in memory.
-/
import Derived.Test.YtgflanlniejflaaK27
import Derived.Test.YtgflanlniejflaaK33
import Derived.Test.YtgflanlniejflaaK37
namespace Go.Proofs.Ytgflanlniejflaa
open Go.RowKit
set_option maxRecDepth 100000
namespace Drv
def okAt (n:NNet) (au:List (List LSt)) (d:Nat):Bool:=decide (altsOf n d≤32) && mayAuto (au.getD d []) (altsOf n d) 64
def preNew (n:NNet) (a:Nat):Bool:=mayNet n && decide (1≤n.starts.length) && decide (n.starts.length≤64) && (a==n.decs.length) && decide (n.decs.length+n.preds.length≤65536)
def okTo (n:NNet) (au:List (List LSt)):Nat→Bool
 | 0=>true
 | i+1=>okTo n au i && okAt n au i
def newB (n:NNet) (au:List (List LSt)):Bool:=preNew n au.length && okTo n au au.length
theorem okTo_mono (n:NNet) (au:List (List LSt)):∀{i j:Nat},i≤j→okTo n au j=true→okTo n au i=true
 | i,0,h,hj=>by
  have:i=0:=by omega
  subst this
  exact hj
 | i,j+1,h,hj=>by
  unfold okTo at hj
  simp only[Bool.and_eq_true]at hj
  rcases Nat.lt_or_ge i (j+1)with h1 | h1
  ·exact okTo_mono n au (by omega) hj.1
  ·have:i=j+1:=by omega
   subst this
   unfold okTo
   simp only[Bool.and_eq_true]
   exact hj
theorem okTo_at {n:NNet}{au:List (List LSt)}{i d:Nat}(h:okTo n au i=true) (hd:d<i):okAt n au d=true:=by
 have:=okTo_mono n au (show d+1≤i by omega) h
 unfold okTo at this
 simp only[Bool.and_eq_true]at this
 exact this.2
theorem newB_bad {n:NNet}{au:List (List LSt)}{i:Nat}(hi:i<au.length) (h:okAt n au i=false):newB n au=false:=by
 cases g:newB n au with
 | false=>rfl
 | true=>
  unfold newB at g
  simp only[Bool.and_eq_true]at g
  rw[okTo_at g.2 hi]at h
  cases h
theorem okNet_of {n:NNet}{au:List (List LSt)}(h:newB n au=true) (hst:n.states.length≤1000000) (he:∀s∈n.states,s.edges.length≤1000000) (ha:∀a∈au,a.length≤1000000∧∀s∈a,s.alts.length≤1000000∧s.edges.length≤1000000):OkNet n au:=by
 unfold newB preNew at h
 simp only[Bool.and_eq_true,decide_eq_true_eq,beq_iff_eq]at h
 obtain⟨⟨⟨⟨⟨h1,h2⟩,h3⟩,h4⟩,h5⟩,h6⟩:=h
 refine⟨h1,h4,fun d hd=>?_,fun d hd=>?_,h2,h3,h5,hst,he,ha⟩
 ·have:=okTo_at h6 hd
  unfold okAt at this
  simp only[Bool.and_eq_true,decide_eq_true_eq]at this
  rw[show au.getD d []=au[d] by rw[List.getD_eq_getElem?_getD,List.getElem?_eq_getElem hd];rfl]at this
  exact this.2
 ·have:=okTo_at h6 hd
  unfold okAt at this
  simp only[Bool.and_eq_true,decide_eq_true_eq]at this
  exact this.1
theorem decsOf_nodup (l:List NSt):∀k,(decsOf (l.take k)).Nodup
 | 0=>by simp[decsOf]
 | k+1=>by
  rcases Nat.lt_or_ge k l.length with hk | hk
  ·rw[decsOf_take l k hk]
   have ih:=decsOf_nodup l k
   split
   ·rw[List.append_nil];exact ih
   ·refine List.nodup_append.2 ⟨ih,by simp,fun a ha b hb e=>?_⟩
    rw[List.mem_singleton]at hb
    obtain⟨h0,h1,_⟩:=decsOf_mem.1 ha
    rw[List.length_take]at h1
    omega
  ·have ih:=decsOf_nodup l k
   rw[List.take_of_length_le hk]at ih
   rw[List.take_of_length_le (by omega)]
   exact ih
theorem decs_eq {n:NNet}(h:mayNet n=true):decsOf n.states=n.decs:=by
 unfold mayNet at h
 simp only[Bool.and_eq_true,beq_iff_eq]at h
 exact h.2
theorem decs_nodup {n:NNet}(h:mayNet n=true):n.decs.Nodup:=by
 rw[←decs_eq h]
 have:=decsOf_nodup n.states n.states.length
 rwa [List.take_length]at this
theorem decs_in {n:NNet}(h:mayNet n=true){s:Int}(hs:s∈n.decs):∃a:Nat,s=a∧a<n.states.length:=by
 rw[←decs_eq h]at hs
 obtain⟨h0,h1,_⟩:=decsOf_mem.1 hs
 exact⟨s.toNat,by omega,h1⟩
theorem decIx_at {n:NNet}(h:mayNet n=true){j:Nat}(hj:j<n.decs.length):decIx n n.decs[j]=j:=by
 unfold decIx
 rw[List.Nodup.idxOf_getElem (decs_nodup h)]
end Drv
structure Kp (base:Nat) (S:Nat→Prop) (w u:World):Prop where
 size:w.heap.size≤u.heap.size
 block:∀k,base≤k→k<w.heap.size→¬S k→u.heap[k]? =w.heap[k]?
theorem Kp.back {base:Nat}{S S' S2:Nat→Prop}{u u' x:World}(ho:Only S' u u') (h1:∀k,k<u.heap.size→S' k→S k) (h2:∀k,k<u.heap.size→S2 k→S k) (h:Kp base S2 u' x):Kp base S u x:=
 ⟨Nat.le_trans ho.size h.size,fun k hb hk hn=>(h.block k hb (Nat.lt_of_lt_of_le hk ho.size) fun e=>hn (h2 k hk e)).trans (ho.block k hk fun e=>hn (h1 k hk e))⟩
theorem Kp.of_up {base:Nat}{S:Nat→Prop}{w u:World}(h:Up base w u):Kp base S w u:=⟨h.size,fun k hb hk _=>h.block k hb hk⟩
def AusR (w:World) (B:Nat) (AA:Option Addr) (au:List (List Drv.LSt)):Prop:=
 ∃vs,Reads w B 1 AA au.length vs∧∀i (h:i<au.length),∃Ai ci,vs[i]? =some (.slice Ai au[i].length ci)∧AutR w B Ai au[i]
theorem AusR.up {w u:World}{B:Nat}{AA:Option Addr}{au:List (List Drv.LSt)}(h:AusR w B AA au) (hb:Below B w u) (hB:B≤u.heap.size):AusR u u.heap.size AA au:=by
 obtain⟨vs,h1,h2⟩:=h
 refine⟨vs,(h1.below hb).more hB,fun i hi=>?_⟩
 obtain⟨Ai,ci,g1,vs',g2,g3⟩:=h2 i hi
 refine⟨Ai,ci,g1,vs',(g2.below hb).more hB,fun j hj=>?_⟩
 obtain⟨A1,c1,A2,c2,e0,e1,e2,r0,r1⟩:=g3 j hj
 exact⟨A1,c1,A2,c2,e0,e1,e2,(r0.below hb).more hB,(r1.below hb).more hB⟩
def NewS (D PB:Nat) (vA:Value) (k:Nat):Prop:=k=D∨k=PB∨vA.ownBlock=some k
def drvCells (S T U Q E:Option Addr) (sc tc uc qc ec:Nat) (n:Drv.NNet) (vA:Value) (PB:Nat) (wd:Int):Array Value:=
 #[.slice S n.states.length sc,.slice T n.starts.length tc,.slice U n.stops.length uc,.slice Q n.preds.length qc,.slice E n.decs.length ec,vA,.slice (some ⟨PB,0,none⟩) n.states.length n.states.length,.int .i64 wd]
structure NewI (w:World) (X:Array Value) (n:Drv.NNet) (au:List (List Drv.LSt)) (D PB:Nat) (S T U Q E:Option Addr) (sc tc uc qc ec:Nat) (vA:Value) (vs:List Value) (pl:List Int) (i k:Nat) (u:World):Prop where
 below:Below w.heap.size w u
 box:u.heap[w.heap.size]? =some (.cells X 25 (0,0))
 drv:u.heap[D]? =some (.cells (drvCells S T U Q E sc tc uc qc ec n vA PB 0) 80 (0,0))
 plc:u.heap[PB]? =some (.cells (pl.map (Value.int .i64)).toArray 3 (0,0))
 pll:pl.length=n.states.length
 plv:∀j s,j<i→n.decs[j]? =some s→pl[s.toNat]? =some (j:Int)
 own:u.ownsRow w.heap.size 50 1 vA k vs
 geD:w.heap.size<D
 geP:w.heap.size<PB
 net:∀x,Kp w.heap.size (NewS D PB vA) u x→NetR x x.heap.size S T U Q E n
 aus:∀j (h:j<au.length),j<k→∃Ai ci,vs[j]? =some (.slice Ai au[j].length ci)∧∀x,Kp w.heap.size (NewS D PB vA) u x→AutR x x.heap.size Ai au[j]
section
variable {w:World}{X:Array Value}{n:Drv.NNet}{au:List (List Drv.LSt)}{D PB:Nat}{S T U Q E:Option Addr}{sc tc uc qc ec:Nat}{vA:Value}{vs:List Value}{pl:List Int}{i k:Nat}{u u':World}
theorem NewI.neA (h:NewI w X n au D PB S T U Q E sc tc uc qc ec vA vs pl i k u):vA.ownBlock≠some D∧vA.ownBlock≠some PB∧vA.ownBlock≠some w.heap.size∧D≠PB:=
 ⟨row_not h.own h.drv (by decide),row_not h.own h.plc (by decide),row_not h.own h.box (by decide),fun e=>by
  have h1:=h.plc
  rw[←e,h.drv]at h1
  injection h1 with h1
  injection h1 with _ h1
  cases h1⟩
theorem NewI.still (h:NewI w X n au D PB S T U Q E sc tc uc qc ec vA vs pl i k u) (ho:Only (fun _=>False) u u'):NewI w X n au D PB S T U Q E sc tc uc qc ec vA vs pl i k u':=
 ⟨ho.below (fun _ e=>e.elim) h.below h.below.size,(ho.block _ (heap_lt h.box) id).trans h.box,(ho.block _ (heap_lt h.drv) id).trans h.drv,(ho.block _ (heap_lt h.plc) id).trans h.plc,h.pll,h.plv,ownsRow_only h.own ho fun _ _=>id,h.geD,h.geP,
  fun x hx=>h.net x (hx.back ho (fun _ _ e=>e.elim) fun _ _ e=>e),fun j hj hk=>by
   obtain⟨Ai,ci,g1,g2⟩:=h.aus j hj hk
   exact⟨Ai,ci,g1,fun x hx=>g2 x (hx.back ho (fun _ _ e=>e.elim) fun _ _ e=>e)⟩⟩
theorem NewI.place (h:NewI w X n au D PB S T U Q E sc tc uc qc ec vA vs pl i k u) (hm:Drv.mayNet n=true){s:Nat}(hi:n.decs[i]? =some (s:Int)):
 NewI w X n au D PB S T U Q E sc tc uc qc ec vA vs (pl.set s i) (i+1) k (u.setCell ⟨PB,s,none⟩ (.int .i64 i)):=by
 have ho:=Only.of_set u PB s (.int .i64 i)
 obtain⟨a1,a2,a3,a4⟩:=h.neA
 obtain⟨hil,hie⟩:=List.getElem?_eq_some_iff.1 hi
 have hsl:s<n.states.length:=by
  obtain⟨a,e,ha⟩:=Drv.decs_in hm (List.mem_of_getElem? hi)
  omega
 refine⟨ho.below (fun j e=>by rw[e];exact Nat.le_of_lt h.geP) h.below h.below.size,(ho.block _ (heap_lt h.box) (by have:=h.geP;omega)).trans h.box,(ho.block _ (heap_lt h.drv) a4).trans h.drv,?_,by rw[List.length_set];exact h.pll,fun j t hj ht=>?_,ownsRow_only h.own ho fun j e1 e2=>a2 (e2▸e1),h.geD,h.geP,
  fun x hx=>h.net x (hx.back ho (fun _ _ e=>.inr (.inl e)) fun _ _ e=>e),fun j hj hk=>?_⟩
 ·rw[heap_setCell_same u PB s _ _ _ h.plc,List.setIfInBounds_toArray,List.map_set]
 ·rcases Nat.lt_succ_iff_lt_or_eq.1 hj with h1 | rfl
  ·have hne:s≠t.toNat:=fun e=>by
    obtain⟨hjl,hje⟩:=List.getElem?_eq_some_iff.1 ht
    obtain⟨b,e2,_⟩:=Drv.decs_in hm (List.mem_of_getElem? ht)
    have h3:n.decs[j]=n.decs[i]:=by rw[hje,hie];omega
    have h4:=Drv.decIx_at hm hjl
    rw[h3,Drv.decIx_at hm hil]at h4
    omega
   rw[List.getElem?_set_ne hne]
   exact h.plv j t h1 ht
  ·rw[hi]at ht
   injection ht with ht
   subst ht
   rw[Int.toNat_natCast,List.getElem?_set_self (by rw[h.pll];exact hsl)]
 ·obtain⟨Ai,ci,g1,g2⟩:=h.aus j hj hk
  exact⟨Ai,ci,g1,fun x hx=>g2 x (hx.back ho (fun _ _ e=>.inr (.inl e)) fun _ _ e=>e)⟩
theorem NewI.start {w3:World}{lo:Nat}(hb:Below w.heap.size w u) (hbox:u.heap[w.heap.size]? =some (.cells X 25 (0,0))) (hdrv:u.heap[D]? =some (.cells (drvCells S T U Q E sc tc uc qc ec n (.slice none 0 0) PB 0) 80 (0,0)))
 (hplc:u.heap[PB]? =some (.cells ((List.replicate n.states.length (0:Int)).map (Value.int .i64)).toArray 3 (0,0))) (gD:w.heap.size<D) (gP:w.heap.size<PB) (hu:Up lo w3 u) (hD:D<lo∨w3.heap.size≤D) (hP:PB<lo∨w3.heap.size≤PB) (hlo:w.heap.size≤lo)
 (hnet:∀x,Up lo w3 x→NetR x x.heap.size S T U Q E n):NewI w X n au D PB S T U Q E sc tc uc qc ec (.slice none 0 0) [] (List.replicate n.states.length 0) 0 0 u:=
 ⟨hb,hbox,hdrv,hplc,by simp,fun j s h=>absurd h (Nat.not_lt_zero _),World.ownsRow_nil _ _ _ _,gD,gP,fun x hx=>hnet x ⟨Nat.le_trans hu.size hx.size,fun k h1 h2=>(hx.block k (by omega) (Nat.lt_of_lt_of_le h2 hu.size) fun e=>by
  rcases e with e | e | e
  ·omega
  ·omega
  ·cases e).trans (hu.block k h1 h2)⟩,fun j _ h=>absurd h (Nat.not_lt_zero _)⟩
theorem NewI.push {w6 wn:World}{A:Option Addr}{c lo hi gn cn vc:Nat}{VA:Option Addr}(h:NewI w X n au D PB S T U Q E sc tc uc qc ec (.slice VA k vc) vs pl i k w6) (hk:k<au.length)
 (hown:wn.ownsRow w.heap.size 50 1 (.slice (some ⟨gn,0,none⟩) (k+1) cn) (k+1) (vs++ [.slice A au[k].length c])) (hg:(Value.slice VA k vc).ownBlock=some gn∨w6.heap.size<gn) (ho:Only (fun j=>(Value.slice VA k vc).ownBlock=some j) w6 wn)
 (hD:D<lo) (hP:PB<lo) (hV:∀j,(Value.slice VA k vc).ownBlock=some j→j<lo) (hlo:w.heap.size≤lo) (hhi:hi≤w6.heap.size)
 (ha:∀x,hi≤x.heap.size→(∀j,lo≤j→j<hi→x.heap[j]? =w6.heap[j]?)→AutR x x.heap.size A au[k]):
 NewI w X n au D PB S T U Q E sc tc uc qc ec (.slice (some ⟨gn,0,none⟩) (k+1) cn) (vs++ [.slice A au[k].length c]) pl i (k+1) (wn.setCell ⟨D,5,none⟩ (.slice (some ⟨gn,0,none⟩) (k+1) cn)):=by
 obtain⟨a1,a2,a3,a4⟩:=h.neA
 have hD6:=heap_lt h.drv
 have hP6:=heap_lt h.plc
 have hw6:=heap_lt h.box
 have drvn:=(ho.block _ hD6 a1).trans h.drv
 have hset:=Only.of_set wn D 5 (.slice (some ⟨gn,0,none⟩) (k+1) cn)
 have hO:Only (fun j=>j=D∨(Value.slice VA k vc).ownBlock=some j) w6 (wn.setCell ⟨D,5,none⟩ (.slice (some ⟨gn,0,none⟩) (k+1) cn)):=(ho.more fun _ _ e=>.inr e).trans hset fun _ _ e=>.inl e
 have hS:∀b,b<w6.heap.size→NewS D PB (.slice (some ⟨gn,0,none⟩) (k+1) cn) b→NewS D PB (.slice VA k vc) b:=fun b hb e=>by
  rcases e with e | e | e
  ·exact .inl e
  ·exact .inr (.inl e)
  ·have e:some gn=some b:=e
   injection e with e
   subst e
   rcases hg with h | h
   ·exact .inr (.inr h)
   ·omega
 have hS1:∀b,b<w6.heap.size→(b=D∨(Value.slice VA k vc).ownBlock=some b)→NewS D PB (.slice VA k vc) b:=fun b _ e=>e.elim .inl fun e=>.inr (.inr e)
 refine⟨hO.below (fun j e=>?_) h.below h.below.size,(hO.block _ hw6 fun e=>e.elim (fun e=>by have:=h.geD;omega) a3).trans h.box,?_,(hO.block _ hP6 fun e=>e.elim (fun e=>a4 e.symm) a2).trans h.plc,h.pll,h.plv,own_setTb hown drvn (by decide),h.geD,h.geP,
  fun x hx=>h.net x (hx.back hO hS1 hS),fun j hj hjk=>?_⟩
 ·rcases e with e | e
  ·rw[e];exact Nat.le_of_lt h.geD
  ·exact(World.ownsRow.lt h.own j e).1
 ·rw[heap_setCell_same wn D 5 _ _ _ drvn]
  rfl
 ·have hvl:vs.length=k:=by have:=h.own.1;omega
  rcases Nat.lt_succ_iff_lt_or_eq.1 hjk with h1 | rfl
  ·obtain⟨Ai,ci,g1,g2⟩:=h.aus j hj h1
   exact⟨Ai,ci,by rw[List.getElem?_append_left (by omega)];exact g1,fun x hx=>g2 x (hx.back hO hS1 hS)⟩
  ·refine⟨A,c,by rw[List.getElem?_append_right (by omega),hvl];simp,fun x hx=>?_⟩
   have hx2:=hx.back hO hS1 hS
   exact ha x (Nat.le_trans hhi hx2.size) fun b hb1 hb2=>hx2.block b (by omega) (by omega) fun e=>by
    rcases e with e | e | e
    ·omega
    ·omega
    ·have:=hV b e
     omega
theorem NewI.done {A':Option Addr}{vc:Nat}{wd:Int}(h:NewI w X n au D PB S T U Q E sc tc uc qc ec (.slice A' au.length vc) vs pl n.decs.length au.length u) (hm:Drv.mayNet n=true) (hW:Only (fun j=>j=D) u u') (hd:u'.heap[D]? =some (.cells (drvCells S T U Q E sc tc uc qc ec n (.slice A' au.length vc) PB wd) 80 (0,0)))
 {x:World}(hx:Up w.heap.size u' x):DrvAt x D x.heap.size n au wd:=by
 obtain⟨a1,a2,a3,a4⟩:=h.neA
 have hK:Kp w.heap.size (NewS D PB (.slice A' au.length vc)) u x:=(Kp.of_up (S:=NewS D PB (.slice A' au.length vc)) hx).back hW (fun _ _ e=>.inl e) fun _ _ e=>e
 have hD:=heap_lt hd
 have hDx:x.heap[D]? =_:=(hx.block D (Nat.le_of_lt h.geD) hD).trans hd
 have hN:=h.net x hK
 have hPx:x.heap[PB]? =some (.cells (pl.map (Value.int .i64)).toArray 3 (0,0)):=
  (hx.block PB (Nat.le_of_lt h.geP) (Nat.lt_of_lt_of_le (heap_lt h.plc) hW.size)).trans ((hW.block PB (heap_lt h.plc) fun e=>a4 e.symm).trans h.plc)
 have cell:∀i,x.cell? ⟨D,i,none⟩=(drvCells S T U Q E sc tc uc qc ec n (.slice A' au.length vc) PB wd)[i]?:=fun i=>Lib.cell_of_heap hDx i
 refine⟨heap_lt hDx,⟨S,sc,by rw[cell];rfl,hN.sts⟩,⟨T,tc,by rw[cell];rfl,hN.starts⟩,⟨U,uc,by rw[cell];rfl,hN.stops⟩,⟨Q,qc,by rw[cell];rfl,hN.preds⟩,⟨E,ec,by rw[cell];rfl,hN.decs⟩,
  ⟨A',vc,vs,by rw[cell];rfl,?_,fun i hi=>?_⟩,⟨pl,⟨some ⟨PB,0,none⟩,n.states.length,by rw[cell,h.pll];rfl,by rw[List.length_map,Nat.mul_one],fun _=>⟨PB,0,rfl,heap_lt hPx,fun j v hv=>?_⟩⟩,h.pll,fun i hi hi' he=>?_⟩,by rw[cell];rfl⟩
 ·have hr:RO u (fun k=>¬(w.heap.size≤k∧(Value.slice A' au.length vc).ownBlock=some k)) 1 A' au.length vs:=row_RO h.own fun j hj hn=>hn ⟨(World.ownsRow.lt h.own j hj).1,hj⟩
  have hr2:=hr.only (S':=fun k=>¬(w.heap.size≤k∧(Value.slice A' au.length vc).ownBlock=some k)) (S:=fun k=>¬(w.heap.size≤k∧(Value.slice A' au.length vc).ownBlock=some k)) (w':=u') (hW.more fun b _ e hb=>a1 (by rw[←e];exact hb.2)) fun _ _ e=>e
  exact hr2.up hx fun j hj hb=>by omega
 ·obtain⟨Ai,ci,g1,g2⟩:=h.aus i hi hi
  exact⟨Ai,ci,g1,g2 x hK⟩
 ·rw[Lib.cell_of_heap hPx,Nat.zero_add,List.getElem?_toArray];exact hv
 ·have hmem:(i:Int)∈n.decs:=by
   rw[←Drv.decs_eq hm]
   exact Drv.decsOf_mem.2 ⟨Int.natCast_nonneg _,by rw[Int.toNat_natCast];exact⟨hi,he⟩⟩
  obtain⟨j,hj,e⟩:=List.mem_iff_getElem.1 hmem
  have h1:=h.plv j i hj (by rw[List.getElem?_eq_getElem hj,e])
  rw[Int.toNat_natCast,List.getElem?_eq_getElem hi']at h1
  injection h1 with h1
  rw[h1,←e,Drv.decIx_at hm hj]
end
end Go.Proofs.Ytgflanlniejflaa
