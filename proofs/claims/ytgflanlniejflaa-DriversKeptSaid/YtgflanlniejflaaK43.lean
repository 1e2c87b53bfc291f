/-
  Drivers: Bth, Few, Bth2 (texts joined).
-/
import Derived.Test.YtgflanlniejflaaK27
import Derived.Test.YtgflanlniejflaaK28
import Derived.Test.YtgflanlniejflaaK31
import Derived.Test.YtgflanlniejflaaK38
import Derived.Test.YtgflanlniejflaaK40
import Derived.Test.YtgflanlniejflaaK42
namespace Go.Proofs.Ytgflanlniejflaa
open Go.RowKit
set_option maxRecDepth 100000
namespace Drv
def ansB (n:NNet) (au:List (List LSt)) (toks:List Int) (fuel depth:Int):Ans:=
 if fuel<0∨depth<0 then⟨.zero,0,0,0,1⟩else parseR (mkDC n au toks fuel depth.toNat) (fuel.toNat+1)
theorem ansB_sm {n:NNet}{au:List (List LSt)}(hok:OkNet n au) (toks:List Int) (fuel depth:Int) (hf:fuel≤100000):smTr (ansB n au toks fuel depth).tree:=by
 unfold ansB
 split
 ·unfold Tr.zero smTr
  exact⟨Nat.zero_le _,smTrs_nil⟩
 ·rename_i h
  exact parseR_sm (rng_mk hok.may hok.len hok.autos hok.alts toks fuel depth.toNat) (val_mk hok.may hok.len hok.autos toks fuel depth.toNat) (by show(0:Int)≤fuel;omega) (by show fuel≤(1000000000:Int);omega) hok.starts1 _
end Drv
theorem rdparse_any (w:World) (D:Nat) (n:Drv.NNet) (au:List (List Drv.LSt)) (toks:List Int) (WA:Option Addr) (wc:Nat) (fuel depth:Int) (hD:RDrv w D w.heap.size n au) (hok:Drv.OkNet n au)
 (hW:Reads w w.heap.size 1 WA toks.length (toks.map (Value.int .i64))) (hwc:toks.length≤wc) (hwn:WA=none→wc=0) (hlen:toks.length≤16384) (hf1:fuel≤100000) (hd1:depth≤100000):
 Calls Try.prog 13 #[.pointer (some ⟨D,0,none⟩),.slice WA toks.length wc,.int .i64 fuel,.int .i64 depth] w (RParP (Drv.ansB n au toks fuel depth) w):=by
 unfold Drv.ansB
 split
 ·rename_i h
  exact rparseNone_any w D WA toks.length wc fuel depth (.inr h)
 ·rename_i h
  have hd:((depth.toNat:Nat):Int)=depth:=by omega
  have:=rparse_any w D n au toks WA wc fuel depth.toNat (fuel.toNat+1) hD hok hW hwc hwn hlen (by omega) (by omega) (by omega) (by omega)
  rw[hd]at this
  exact this
end Go.Proofs.Ytgflanlniejflaa
namespace Go.Proofs.Ytgflanlniejflaa
open Go.RowKit Go.Sort
set_option maxRecDepth 100000
theorem Reads.pre {w:World}{B n m:Nat}{A:Option Addr}{xs ys:List Value}(h:Reads w B 1 A (n+m) (xs++ys)) (hl:xs.length=n):Reads w B 1 A n xs:=
 ⟨by omega,fun hn=>by
  obtain⟨b,off,e,hb,hc⟩:=h.2 (by omega)
  exact⟨b,off,e,hb,fun j u hj=>hc j u (by rw[List.getElem?_append_left (List.getElem?_eq_some_iff.1 hj).1];exact hj)⟩⟩
theorem Few.nets {n:Drv.NNet}{au:List (List Drv.LSt)}(h:Drv.Few n au) (hk:∀s∈n.states,∀e∈s.edges,0≤e.kind∧e.kind≤255):NetS n:=by
 obtain⟨h1,h2,h3,h4,h5⟩:=Drv.greatN_small h.net
 exact⟨by have:=h.states;omega,by omega,by omega,by omega,by omega,fun s hs=>⟨by have:=(h5 s hs).1;omega,by have:=(h5 s hs).2;omega,fun e he=>(hk s hs e he).1⟩⟩
theorem Few.auts {n:Drv.NNet}{au:List (List Drv.LSt)}(h:Drv.Few n au):∀a∈au,AutS a:=fun a ha=>by
 obtain⟨h1,h2⟩:=Drv.greatA_small (h.each a ha)
 exact⟨by omega,fun s hs=>⟨by have:=(h2 s hs).2;omega,by have:=(h2 s hs).1;omega⟩⟩
theorem Few.okNet {n:Drv.NNet}{au:List (List Drv.LSt)}(h:Drv.Few n au) (hb:Drv.newB n au=true):Drv.OkNet n au:=by
 obtain⟨h1,h2,h3,h4,h5⟩:=Drv.greatN_small h.net
 exact Drv.okNet_of hb (by have:=h.states;omega) (fun s hs=>by have:=(h5 s hs).1;omega) (fun a ha=>by
  obtain⟨g1,g2⟩:=Drv.greatA_small (h.each a ha)
  exact⟨by omega,fun s hs=>⟨by have:=(g2 s hs).2;omega,by have:=(g2 s hs).1;omega⟩⟩)
theorem two_boxes {w w2:World}{cs cs':Array Value}{T T':TypeId}(h2:w2=(w.alloc (.cells cs T)).alloc (.cells cs' T')):
 Below w.heap.size w w2∧w2.heap[w.heap.size]? =some (.cells cs T (0,0))∧w2.heap[w.heap.size+1]? =some (.cells cs' T' (0,0)):=by
 have z1:(w.alloc (.cells cs T)).heap.size=w.heap.size+1:=by simp
 refine⟨by rw[h2];exact(below_new _ _).alloc (by omega) _,?_,?_⟩
 ·rw[h2,Below.heap_alloc _ _ _ (by omega)];exact heap_alloc_new _ _
 ·rw[h2,←z1];exact heap_alloc_new _ _
theorem tr_form {w:World}{S:Nat→Prop}{t:Drv.Tr}{r k q:Int}{b:Bool}{s:Value}(h:TrV w S t [.int .i64 r,.int .i64 k,.int .i64 q,.bool b,s]):∃A m c,s= .slice A m c:=by
 cases t
 unfold TrV at h
 obtain⟨A,c,xs,e,_⟩:=h
 simp only[List.cons.injEq]at e
 exact⟨A,_,c,e.2.2.2.2.1⟩
end Go.Proofs.Ytgflanlniejflaa
namespace Go.Proofs.Ytgflanlniejflaa
open Go.RowKit
set_option maxRecDepth 100000
def RParP2 (a:Drv.Ans) (w:World) (e:Ending) (w':World):Prop:=
 Below w.heap.size w w'∧∃r t q b A m c,e= .returned (.tuple #[.agg #[.int .i64 r,.int .i64 t,.int .i64 q,.bool b,.slice A m c],.agg #[.int .i64 a.used,.int .i64 a.deep,.int .i64 a.spec],.int .i64 a.e])∧TrV w' (fun j=>j<w.heap.size) a.tree [.int .i64 r,.int .i64 t,.int .i64 q,.bool b,.slice A m c]∧
  m≤1000000000∧(0<m→∃(ab:Nat) (arr:Array Value),A=some ⟨ab,0,none⟩∧w.heap.size≤ab∧w'.heap[ab]? =some (.cells arr 65 (0,0))∧m*5≤arr.size)
theorem tr_len {w:World}{S:Nat→Prop}{t:Drv.Tr}{r k q:Int}{b:Bool}{A:Option Addr}{m c:Nat}(h:TrV w S t [.int .i64 r,.int .i64 k,.int .i64 q,.bool b,.slice A m c]) (hs:Drv.smTr t):m≤1000000000:=by
 cases t
 unfold TrV at h
 obtain⟨A',c',xs,e,_⟩:=h
 simp only[List.cons.injEq,Value.slice.injEq]at e
 unfold Drv.smTr at hs
 have:=hs.1
 have:=e.2.2.2.2.1.2.1
 omega
theorem dparse2_any (w:World) (D:Nat) (n:Drv.NNet) (au:List (List Drv.LSt)) (wd:Int) (toks:List Int) (WA:Option Addr) (wc:Nat) (fuel depth:Int) (hD:DrvAt w D w.heap.size n au wd) (hok:Drv.OkNet n au)
 (hW:Reads w w.heap.size 1 WA toks.length (toks.map (Value.int .i64))) (hwc:toks.length≤wc) (hwn:WA=none→wc=0) (hlen:toks.length≤16384) (hf1:fuel≤100000) (hd1:depth≤100000):
 Calls Try.prog 14 #[.pointer (some ⟨D,0,none⟩),.slice WA toks.length wc,.int .i64 fuel,.int .i64 depth] w (RParP2 (Drv.ansB n au toks fuel depth) w):=by
 have hsm:=Drv.ansB_sm hok toks fuel depth hf1
 unfold Drv.ansB at hsm⊢
 by_cases h:fuel<0∨depth<0
 ·rw[if_pos h]
  obtain⟨pl,⟨PA,Pc,cs6,rp⟩,hpl,_⟩:=hD.place
  have hsl:0<pl.length:=by
   have h2:=((Drv.rng_mk hok.may hok.len hok.autos hok.alts [] 0 0).starts 0 ⟨Int.le_refl _,by show(0:Int)<(n.starts.length:Nat);have:=hok.starts1;omega⟩).1
   have h3:(0:Int)<((Drv.mkDC n au [] 0 0).states.length:Nat):=by have:=h2.1;have:=h2.2;omega
   have h4:(Drv.mkDC n au [] 0 0).states.length=n.states.length:=rfl
   omega
  obtain⟨b,o,e,_⟩:=rp.2 hsl
  refine(parseNone_any w (some ⟨D,0,none⟩) WA toks.length wc fuel depth 1 (.inr ⟨D,PA,pl.length,Pc,rfl,hD.dlt,cs6,.inr ⟨by rw[e];exact fun h=>(by cases h),rfl,.inr h⟩⟩)).mono ?_
  rintro e w' ⟨rfl,hb⟩
  exact⟨hb,0,0,0,false,none,0,0,rfl,zero_tree _ _,by omega,fun h=>absurd h (Nat.lt_irrefl 0)⟩
 ·rw[if_neg h]at hsm⊢
  have hd:((depth.toNat:Nat):Int)=depth:=by omega
  have:=parseP2_any w D n au wd toks WA wc fuel depth.toNat hD hok hW hwc hwn hlen (by omega) (by omega) (by omega)
  rw[hd]at this
  refine this.mono ?_
  rintro e w' ⟨a,ha,hb,r,t,q,b,s,rfl,ht,htop⟩
  rw[ha (fuel.toNat+1) (by show fuel<_;omega)]at hsm⊢
  obtain⟨A,m,c,rfl⟩:=tr_form ht
  refine⟨hb,r,t,q,b,A,m,c,rfl,ht,tr_len ht hsm,fun hm=>?_⟩
  obtain⟨ab,arr,e1,_,e3,e4,e5⟩:=htop A m c rfl hm
  exact⟨ab,arr,e1,e3,e4,e5⟩
end Go.Proofs.Ytgflanlniejflaa
