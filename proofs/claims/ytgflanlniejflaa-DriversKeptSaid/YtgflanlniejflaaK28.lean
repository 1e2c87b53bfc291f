/-
  Drivers: the reference's Parse: the walk.
-/
import Derived.Deep.RegionHeld3
import Derived.Test.YtgflanlniejflaaK25
import Derived.Test.YtgflanlniejflaaK26
import Derived.Test.YtgflanlniejflaaK27
namespace Go.Proofs.Ytgflanlniejflaa
open Go.RowKit Go.Maps
open Go.Sort (grow)
set_option maxRecDepth 100000
theorem infoStatsR:(Try.prog.info? 67).map (·.size)=some 3:=by kernel_rfl
def RParP (a:Drv.Ans) (w:World) (e:Ending) (w':World):Prop:=
 Below w.heap.size w w'∧∃r t q b s,e= .returned (.tuple #[.agg #[.int .i64 r,.int .i64 t,.int .i64 q,.bool b,s],.agg #[.int .i64 a.used,.int .i64 a.deep,.int .i64 a.spec],.int .i64 a.e])∧TrV w' (fun j=>j<w.heap.size) a.tree [.int .i64 r,.int .i64 t,.int .i64 q,.bool b,s]
theorem zero_tree (w:World) (S:Nat→Prop):TrV w S .zero [.int .i64 0,.int .i64 0,.int .i64 0,.bool false,.slice none 0 0]:=by
 show TrV w S (.node 0 0 0 false []) _
 unfold TrV
 exact⟨none,0,[],rfl,⟨rfl,fun h=>absurd h (Nat.lt_irrefl 0)⟩,by unfold TrsV;rfl⟩
theorem two_new {w w1 w2:World}(hw1:w1=w.alloc (.cells #[.int .i64 0,.int .i64 0,.int .i64 0,.bool false,.slice none 0 0] 65)) (hw2:w2=w1.alloc (.cells #[.int .i64 0,.int .i64 0,.int .i64 0] 67)):
 Below w.heap.size w w2∧w2.heap[w.heap.size+1]? =some (.cells #[.int .i64 0,.int .i64 0,.int .i64 0] 67 (0,0))∧w2.heap[w.heap.size]? =some (.cells #[.int .i64 0,.int .i64 0,.int .i64 0,.bool false,.slice none 0 0] 65 (0,0))∧w2.heap.size=w.heap.size+1+1:=by
 have s1:w1.heap.size=w.heap.size+1:=by rw[hw1];simp
 refine⟨?_,?_,?_,?_⟩
 ·have b1:Below w.heap.size w w1:=by rw[hw1];exact below_new _ _
  rw[hw2];exact b1.alloc (by omega) _
 ·rw[hw2,←s1];exact heap_alloc_new _ _
 ·rw[hw2,Below.heap_alloc _ _ _ (by omega),hw1];exact heap_alloc_new _ _
 ·rw[hw2];simp[s1]
set_option maxHeartbeats 6400000 in
theorem rparseNone_any (w:World) (D:Nat) (WA:Option Addr) (tn wc:Nat) (fuel depth:Int) (h:(16384:Int)<tn∨fuel<0∨depth<0):
 Calls Try.prog 13 #[.pointer (some ⟨D,0,none⟩),.slice WA tn wc,.int .i64 fuel,.int .i64 depth] w (RParP ⟨.zero,0,0,0,1⟩ w):=by
 obtain⟨b1,hb1⟩:∃b,decide ((16384:Int)<(tn:Int))=b:=⟨_,rfl⟩
 obtain⟨b2,hb2⟩:∃b,decide (fuel<0)=b:=⟨_,rfl⟩
 obtain⟨b3,hb3⟩:∃b,decide (depth<0)=b:=⟨_,rfl⟩
 have hor:b1=true∨(b1=false∧b2=true)∨(b1=false∧b2=false∧b3=true):=by
  cases b1 <;> cases b2 <;> cases b3 <;> simp_all <;> omega
 clear h
 rcases hor with rfl | ⟨rfl,rfl⟩ | ⟨rfl,rfl,rfl⟩
 ·go_enter Try.func13,Try.ntmps13
  go_upto_region 2 with fail
  obtain⟨w1,hw1⟩:∃w1,w1=w.alloc (.cells #[.int .i64 0,.int .i64 0,.int .i64 0,.bool false,.slice none 0 0] 65):=⟨_,rfl⟩
  obtain⟨w2,hw2⟩:∃w2,w2=w1.alloc (.cells #[.int .i64 0,.int .i64 0,.int .i64 0] 67):=⟨_,rfl⟩
  rw[←hw1,←hw2]
  obtain⟨hb2,T9,T8,hs2⟩:=two_new hw1 hw2
  obtain⟨⟨a0,a1,a2,a3,a4⟩,za⟩:=cells5z T8
  obtain⟨⟨c0,c1,c2⟩,zc⟩:=cells3z T9
  have i0:=set_same (j:=0) (x:=.int .i64 0) T8 rfl
  have i1:=set_same (j:=1) (x:=.int .i64 0) T8 rfl
  have i2:=set_same (j:=2) (x:=.int .i64 0) T8 rfl
  have i3:=set_same (j:=3) (x:=.bool false) T8 rfl
  have i4:=set_same (j:=4) (x:=.slice none 0 0) T8 rfl
  have j0:=set_same (j:=0) (x:=.int .i64 0) T9 rfl
  have j1:=set_same (j:=1) (x:=.int .i64 0) T9 rfl
  have j2:=set_same (j:=2) (x:=.int .i64 0) T9 rfl
  have HB2:=hid hb2
  have HT8:=hid T8
  have HT9:=hid T9
  clear hw1 hw2 hb2 T8 T9 hs2
  go_wp2_with fail
  refine bodyPost_ret (results_cct rfl _ _ w.heap.size (w.heap.size+1) 65 67 _ _ _ _ _ _ rfl HT8.out Try.underlying65 rfl infoTreeP rfl HT9.out Try.underlying67 rfl infoStatsR) rfl ?_
  exact⟨HB2.out,0,0,0,false,.slice none 0 0,rfl,zero_tree _ _⟩
 ·go_enter Try.func13,Try.ntmps13
  go_upto_region 2 with fail
  obtain⟨w1,hw1⟩:∃w1,w1=w.alloc (.cells #[.int .i64 0,.int .i64 0,.int .i64 0,.bool false,.slice none 0 0] 65):=⟨_,rfl⟩
  obtain⟨w2,hw2⟩:∃w2,w2=w1.alloc (.cells #[.int .i64 0,.int .i64 0,.int .i64 0] 67):=⟨_,rfl⟩
  rw[←hw1,←hw2]
  obtain⟨hb2,T9,T8,hs2⟩:=two_new hw1 hw2
  obtain⟨⟨a0,a1,a2,a3,a4⟩,za⟩:=cells5z T8
  obtain⟨⟨c0,c1,c2⟩,zc⟩:=cells3z T9
  have i0:=set_same (j:=0) (x:=.int .i64 0) T8 rfl
  have i1:=set_same (j:=1) (x:=.int .i64 0) T8 rfl
  have i2:=set_same (j:=2) (x:=.int .i64 0) T8 rfl
  have i3:=set_same (j:=3) (x:=.bool false) T8 rfl
  have i4:=set_same (j:=4) (x:=.slice none 0 0) T8 rfl
  have j0:=set_same (j:=0) (x:=.int .i64 0) T9 rfl
  have j1:=set_same (j:=1) (x:=.int .i64 0) T9 rfl
  have j2:=set_same (j:=2) (x:=.int .i64 0) T9 rfl
  have HB2:=hid hb2
  have HT8:=hid T8
  have HT9:=hid T9
  clear hw1 hw2 hb2 T8 T9 hs2
  go_wp2_with fail
  refine bodyPost_ret (results_cct rfl _ _ w.heap.size (w.heap.size+1) 65 67 _ _ _ _ _ _ rfl HT8.out Try.underlying65 rfl infoTreeP rfl HT9.out Try.underlying67 rfl infoStatsR) rfl ?_
  exact⟨HB2.out,0,0,0,false,.slice none 0 0,rfl,zero_tree _ _⟩
 ·go_enter Try.func13,Try.ntmps13
  go_upto_region 2 with fail
  obtain⟨w1,hw1⟩:∃w1,w1=w.alloc (.cells #[.int .i64 0,.int .i64 0,.int .i64 0,.bool false,.slice none 0 0] 65):=⟨_,rfl⟩
  obtain⟨w2,hw2⟩:∃w2,w2=w1.alloc (.cells #[.int .i64 0,.int .i64 0,.int .i64 0] 67):=⟨_,rfl⟩
  rw[←hw1,←hw2]
  obtain⟨hb2,T9,T8,hs2⟩:=two_new hw1 hw2
  obtain⟨⟨a0,a1,a2,a3,a4⟩,za⟩:=cells5z T8
  obtain⟨⟨c0,c1,c2⟩,zc⟩:=cells3z T9
  have i0:=set_same (j:=0) (x:=.int .i64 0) T8 rfl
  have i1:=set_same (j:=1) (x:=.int .i64 0) T8 rfl
  have i2:=set_same (j:=2) (x:=.int .i64 0) T8 rfl
  have i3:=set_same (j:=3) (x:=.bool false) T8 rfl
  have i4:=set_same (j:=4) (x:=.slice none 0 0) T8 rfl
  have j0:=set_same (j:=0) (x:=.int .i64 0) T9 rfl
  have j1:=set_same (j:=1) (x:=.int .i64 0) T9 rfl
  have j2:=set_same (j:=2) (x:=.int .i64 0) T9 rfl
  have HB2:=hid hb2
  have HT8:=hid T8
  have HT9:=hid T9
  clear hw1 hw2 hb2 T8 T9 hs2
  go_wp2_with fail
  refine bodyPost_ret (results_cct rfl _ _ w.heap.size (w.heap.size+1) 65 67 _ _ _ _ _ _ rfl HT8.out Try.underlying65 rfl infoTreeP rfl HT9.out Try.underlying67 rfl infoStatsR) rfl ?_
  exact⟨HB2.out,0,0,0,false,.slice none 0 0,rfl,zero_tree _ _⟩
set_option maxHeartbeats 12800000 in
theorem rparse_any (w:World) (D:Nat) (n:Drv.NNet) (au:List (List Drv.LSt)) (toks:List Int) (WA:Option Addr) (wc:Nat) (fuel:Int) (depth:Nat) (N:Nat) (hD:RDrv w D w.heap.size n au) (hok:Drv.OkNet n au)
 (hW:Reads w w.heap.size 1 WA toks.length (toks.map (Value.int .i64))) (hwc:toks.length≤wc) (hwn:WA=none→wc=0) (hlen:toks.length≤16384) (hf0:0≤fuel) (hf1:fuel≤100000) (hd1:depth≤100000) (hN:fuel<N):
 Calls Try.prog 13 #[.pointer (some ⟨D,0,none⟩),.slice WA toks.length wc,.int .i64 fuel,.int .i64 (depth:Int)] w (RParP (Drv.parseR (Drv.mkDC n au toks fuel depth) N) w):=by
 have h1:=hok.starts1
 have hst1:0<n.stops.length:=by rw[hok.stops];omega
 obtain⟨sb,so,sc,hsb,d1,hs0⟩:=hD.starts.nth h1
 obtain⟨tb,tf,tc,htb,d2,ht0⟩:=hD.stops.nth hst1
 have hs0:=hs0 0 h1
 have ht0:=ht0 0 hst1
 rw[Nat.add_zero]at hs0 ht0
 have hsv:Drv.at0 (Drv.mkDC n au toks fuel depth).starts 0=n.starts[0]:=by
  show n.starts.getD 0 0=n.starts[0]
  rw[List.getD_eq_getElem?_getD,List.getElem?_eq_getElem h1];rfl
 have htv:Drv.at0 (Drv.mkDC n au toks fuel depth).stops 0=n.stops[0]:=by
  show n.stops.getD 0 0=n.stops[0]
  rw[List.getD_eq_getElem?_getD,List.getElem?_eq_getElem hst1];rfl
 rw[←hsv]at hs0
 rw[←htv]at ht0
 have hrng:=Drv.rng_mk hok.may hok.len hok.autos hok.alts toks fuel depth
 have hsr:=hrng.starts 0 ⟨Int.le_refl _,by show(0:Int)<(n.starts.length:Nat);omega⟩
 have hdl:=hD.dlt
 obtain⟨tn,htn⟩:∃tn,toks.length=tn:=⟨_,rfl⟩
 obtain⟨n1,hn1⟩:∃n1,n.starts.length=n1:=⟨_,rfl⟩
 obtain⟨n2,hn2⟩:∃n2,n.stops.length=n2:=⟨_,rfl⟩
 rw[hn1]at d1 h1
 rw[hn2]at d2 hst1
 have hg1:decide ((16384:Int)<(tn:Int))=false:=by rw[decide_eq_false_iff_not];omega
 have hg2:decide (fuel<0)=false:=by rw[decide_eq_false_iff_not];omega
 have hg3:decide ((depth:Int)<0)=false:=by rw[decide_eq_false_iff_not];omega
 have HTN:=hid htn
 have HD:=hid hD
 have HOK:=hid hok
 have HW:=hid hW
 have HSR:=hid hsr
 have HWC:=hid (And.intro hwc hwn)
 rw[htn]at hlen⊢
 clear htn hn1 hn2 hD hok hW hsv htv hrng hsr hwc hwn
 generalize hs0v:Drv.at0 (Drv.mkDC n au toks fuel depth).starts 0=sv at hs0 HSR
 generalize ht0v:Drv.at0 (Drv.mkDC n au toks fuel depth).stops 0=tv at ht0 HSR
 have HSV:=hid hs0v
 have HTV:=hid ht0v
 clear hs0v ht0v
 obtain⟨R,hR⟩:∃R,Drv.walkF (Drv.mkDC n au toks fuel depth) N depth sv tv 0 true Drv.ps0=R:=⟨_,rfl⟩
 have hpar:Drv.parseR (Drv.mkDC n au toks fuel depth) N=if R.2.2.err≠0 then⟨.zero,R.2.2.used,R.2.2.deep,R.2.2.spec,R.2.2.err⟩else if R.2.1≠(tn:Int)then⟨.zero,R.2.2.used,R.2.2.deep,R.2.2.spec,8⟩else⟨.node 0 0 0 false R.1,R.2.2.used,R.2.2.deep,R.2.2.spec,0⟩:=by
  rw[←hR,←HSV.out,←HTV.out,←HTN.out]
  rfl
 obtain⟨AN,hAN⟩:∃AN,Drv.parseR (Drv.mkDC n au toks fuel depth) N=AN:=⟨_,rfl⟩
 rw[hAN]at hpar⊢
 have HAN:=hid hpar
 clear hpar hAN
 have HR:=hid hR
 clear hR
 go_enter Try.func13,Try.ntmps13
 go_upto_region 3 with fail
 obtain⟨w1,hw1⟩:∃w1,w1=w.alloc (.cells #[.int .i64 0,.int .i64 0,.int .i64 0,.bool false,.slice none 0 0] 65):=⟨_,rfl⟩
 obtain⟨w2,hw2⟩:∃w2,w2=w1.alloc (.cells #[.int .i64 0,.int .i64 0,.int .i64 0] 67):=⟨_,rfl⟩
 rw[←hw1,←hw2]
 obtain⟨hb2,T9,T8,hs2⟩:=two_new hw1 hw2
 have HT8:=hid T8
 have HT9:=hid T9
 have HB2:=hid hb2
 clear hw1 hw2 T8 T9 hb2 w1
 obtain⟨f,hf⟩:∃f:Rf,f=⟨w2.heap.size,w2.heap.size,D,WA,wc,Drv.mkDC n au toks fuel depth⟩:=⟨_,rfl⟩
 obtain⟨w3,hw3⟩:∃x,x=w2.alloc (.cells #[.pointer (some ⟨D,0,none⟩),.slice WA tn wc,.int .i64 fuel,.int .i64 depth,.int .i64 0,.int .i64 0,.int .i64 0,.int .i64 0,.slice none 0 0,.int .i64 0] 103):=⟨_,rfl⟩
 have hw3':w3=w2.alloc (.cells (rfCells f 0 Drv.ps0 (.slice none 0 0)) 103):=by rw[hw3,hf,←HTN.out];rfl
 have hA3:RpAt w3 f (.slice none 0 0) ((f.c.depth:Int)-f.c.depth) Drv.ps0:=by
  rw[Int.sub_self]
  refine⟨?_,World.ownsRow_nil _ _ _ _,by rw[hf];exact Nat.le_refl _⟩
  rw[hw3',show f.P=w2.heap.size by rw[hf]]
  exact heap_alloc_new _ _
 have hb3:Below w2.heap.size w2 w3:=by rw[hw3];exact below_new _ _
 have hs3:w3.heap.size=w2.heap.size+1:=by rw[hw3];simp
 have hst:RSta w3 f n au:=by
  have hD2:RDrv w2 D w2.heap.size n au:=(HD.out.below HB2.out).more (by omega)
  have hW2:=(HW.out.below HB2.out).more (show w.heap.size≤w2.heap.size by omega)
  refine RSta.below (w:=w2) ?_ (by rw[hf];exact hb3)
  rw[hf]
  exact⟨hD2,hW2,HWC.out,⟨toks,fuel,depth,rfl⟩,HOK.out,hf0,hf1,hd1,by show toks.length≤16384;rw[HTN.out];exact hlen⟩
 have hC:=rwalk_all f n au N (by rw[hf];exact hN) f.c.depth (Nat.le_refl _) w3 (.slice none 0 0) sv tv 0 true Drv.ps0 hA3 hst (by rw[hf];exact HSR.out.1) (by rw[hf];exact HSR.out.2) ⟨Int.le_refl _,hst.fuel0,fun _ h=>(by cases h),Int.le_refl _,Int.le_refl _,Int.le_refl _,Int.le_refl _,by show(0:Int)≤(f.c.depth:Nat);omega⟩ (Int.le_refl _) (by omega)
 have hfP:f.P=w2.heap.size:=by rw[hf]
 have hRR:Drv.walkF f.c N f.c.depth sv tv 0 true Drv.ps0=R:=by rw[hf];exact HR.out
 rw[hfP,hRR,Int.sub_self]at hC
 have HC:Hid (∀u:World,Only (fun _=>False) w3 u→Calls Try.prog 31 #[.pointer (some ⟨w2.heap.size,0,none⟩),.int .i64 sv,.int .i64 tv,.int .i64 0,.bool true] u (RWalkP f (.slice none 0 0) 0 R u)):=hid fun u hu=>by
  have hA4:=hA3.only hu fun _ _ e=>e
  have hst4:=hst.below (hA3.below hu fun _ e=>e.elim)
  have:=rwalk_all f n au N (by rw[hf];exact hN) f.c.depth (Nat.le_refl _) u (.slice none 0 0) sv tv 0 true Drv.ps0 hA4 hst4 (by rw[hf];exact HSR.out.1) (by rw[hf];exact HSR.out.2) ⟨Int.le_refl _,hst.fuel0,fun _ h=>(by cases h),Int.le_refl _,Int.le_refl _,Int.le_refl _,Int.le_refl _,by show(0:Int)≤(f.c.depth:Nat);omega⟩ (Int.le_refl _) (by omega)
  rw[hfP,hRR,Int.sub_self]at this
  exact this
 have HB3:=hid (HB2.out.trans (hb3.mono HB2.out.size))
 have d1:=(HB3.out.cell (p:=⟨D,1,none⟩) hdl).trans d1
 have d2:=(HB3.out.cell (p:=⟨D,2,none⟩) hdl).trans d2
 have hs0:=(HB3.out.cell (p:=⟨sb,so,none⟩) hsb).trans hs0
 have ht0:=(HB3.out.cell (p:=⟨tb,tf,none⟩) htb).trans ht0
 have HT8:=hid ((hb3.block w.heap.size (by omega)).trans HT8.out)
 have HT9:=hid ((hb3.block (w.heap.size+1) (by omega)).trans HT9.out)
 have HFP:=hid hfP
 have HRT:Hid (∀k,RT f (.slice none 0 0) k→k=w2.heap.size):=hid fun k e=>by
  rcases e with e | e
  ·rw[e,hfP]
  ·cases e
 have HW3:=hid hw3.symm
 clear hC hA3 hst hw3 hw3' hf hfP hRR HR HSR HD HW HOK HSV HTV HWC
 go_upto_region 4 with fail
 rw[HW3.out]
 rw[hs2]at HC HFP HRT hs3
 obtain⟨P,hP⟩:∃P,w.heap.size+1+1=P:=⟨_,rfl⟩
 rw[hP]at HC HFP HRT hs3 hs2⊢
 clear HW3 hb3 HB2
 have hq1:0<n1:=by omega
 have hq2:0<n2:=by omega
 have hq3:(0:Int)<(n1:Int):=by omega
 have hq4:(0:Int)<(n2:Int):=by omega
 have KEEP:=hid (fun(u v:World) (hu:Only (fun _=>False) w3 u) (ho:Only (RT f (.slice none 0 0)) u v)=>(show v.cell? ⟨D,1,none⟩=some (.slice (some ⟨sb,so,none⟩) n1 sc)∧v.cell? ⟨D,2,none⟩=some (.slice (some ⟨tb,tf,none⟩) n2 tc)∧v.cell? ⟨sb,so,none⟩=some (.int .i64 sv)∧v.cell? ⟨tb,tf,none⟩=some (.int .i64 tv)from by
  have hz:=hu.size
  have k:=fun(b o:Nat) (hb:b<w.heap.size)=>(ho.cell (b:=b) (o:=o) (by omega) (fun e=>by have:=HRT.out _ e;omega)).trans (hu.cell (o:=o) (by omega) (fun e=>e))
  exact⟨(k _ _ hdl).trans d1,(k _ _ hdl).trans d2,(k _ _ hsb).trans hs0,(k _ _ htb).trans ht0⟩))
 have odr:∀m,Only (fun _=>False) w3 (w3.drewN m):=fun m=>(Only.refl (fun _=>False) w3).none_drew m
 have ODR:=hid odr
 have HPQ:=hid hP
 clear odr hP
 go_region_held3 (fun w'=>w'.cell? ⟨D,1,none⟩=some (.slice (some ⟨sb,so,none⟩) n1 sc)∧w'.cell? ⟨D,2,none⟩=some (.slice (some ⟨tb,tf,none⟩) n2 tc)∧w'.cell? ⟨sb,so,none⟩=some (.int .i64 sv)∧w'.cell? ⟨tb,tf,none⟩=some (.int .i64 tv)) (first | assumption | exact⟨d1,d2,hs0,ht0⟩ | exact KEEP.out _ _ (ODR.out 1) h5) (first | (go_simp;go_at_call 31;refine(HC.out _ (ODR.out 1)).mono ?_;rintro e w5 ⟨A,c,kv',xs,rfl,hA,ho,ht,h5,hn⟩;dsimp only))
 have hz4:(w3.drewN 1).heap.size=w3.heap.size:=rfl
 have hP:=HPQ.out
 have T8:=(h5.block w.heap.size (by omega) (fun e=>by have:=HRT.out _ e;omega)).trans (show(w3.drewN 1).heap[w.heap.size]? =_ from HT8.out)
 have T9:=(h5.block (w.heap.size+1) (by omega) (fun e=>by have:=HRT.out _ e;omega)).trans (show(w3.drewN 1).heap[w.heap.size+1]? =_ from HT9.out)
 have hb5:Below w.heap.size w w5:=h5.below (fun k e=>by have:=HRT.out _ e;omega) (show Below w.heap.size w (w3.drewN 1)from⟨HB3.out.os,HB3.out.tape,HB3.out.output,HB3.out.size,HB3.out.block⟩) (by omega)
 have TRE:=hid (fun(wF:World) (oF:Only (fun j=>j=w.heap.size∨j=w.heap.size+1) w5 wF)=>(show RO wF (fun j=>j<w.heap.size) 5 A R.1.length xs∧TrsV wF (fun j=>j<w.heap.size) R.1 xs from by
  have o2:Only (fun k=>RT f kv' k∨k<(w3.drewN 1).heap.size) w5 wF:=oF.more fun b _ e=>.inr (by rcases e with e | e <;> (rw[e];omega))
  exact⟨ho.only o2 fun b _ e=>.inr (by have e:b<w.heap.size:=e;omega),TrsV.only o2 (fun b _ e=>.inr (by have e:b<w.heap.size:=e;omega)) _ _ ht⟩))
 have k5:=(hA.cell 5).1
 have k6:=(hA.cell 6).1
 have k7:=(hA.cell 7).1
 have k9:=(hA.cell 9).1
 simp only[rfCells,List.getElem?_toArray,List.getElem?_cons_succ,List.getElem?_cons_zero]at k5 k6 k7 k9
 rw[HFP.out]at k5 k6 k7 k9
 have HB5:=hid hb5
 have HT8:=hid T8
 have HT9:=hid T9
 have HPW:=hid (show w.heap.size+1<P by omega)
 clear hP hA ho ht h5 hn hz4 T8 T9 hb5 hs3 hs2 d1 d2 hs0 ht0 HRT KEEP ODR HB3 HC HFP
 obtain⟨rt,rto,ru⟩:=R
 simp only at k5 k6 k7 k9 TRE⊢
 by_cases herr:ru.err≠0
 ·have hne:(ru.err !=0)=true:=by rw[bne_iff_ne];exact herr
  have HANS:Hid (AN=⟨.zero,ru.used,ru.deep,ru.spec,ru.err⟩):=hid (by rw[HAN.out];exact if_pos herr)
  generalize rt.length=rl
  clear herr
  obtain⟨⟨a0,a1,a2,a3,a4⟩,za⟩:=cells5z HT8.out
  obtain⟨⟨b0,b1,b2⟩,zb⟩:=cells3z HT9.out
  have i0:=set_same (j:=0) (x:=.int .i64 0) HT8.out rfl
  have i1:=set_same (j:=1) (x:=.int .i64 0) HT8.out rfl
  have i2:=set_same (j:=2) (x:=.int .i64 0) HT8.out rfl
  have i3:=set_same (j:=3) (x:=.bool false) HT8.out rfl
  have i4:=set_same (j:=4) (x:=.slice none 0 0) HT8.out rfl
  go_upto_region 6 with fail
  have hPG:=HPW.out
  have kp9:∀(u:World) (o:Nat) (x:Value) (j:Nat),(u.setCell ⟨w.heap.size+1,o,none⟩ x).cell? ⟨P,j,none⟩=u.cell? ⟨P,j,none⟩:=fun u o x j=>by simp only[World.cell?];rw[heap_setCell_other _ _ _ _ (show¬P=w.heap.size+1 by omega)]
  have kp8:∀(u:World) (o:Nat) (x:Value) (j:Nat),(u.setCell ⟨w.heap.size,o,none⟩ x).cell? ⟨P,j,none⟩=u.cell? ⟨P,j,none⟩:=fun u o x j=>by simp only[World.cell?];rw[heap_setCell_other _ _ _ _ (show¬P=w.heap.size by omega)]
  have kc9:∀(u:World) (o:Nat) (x:Value) (j:Nat),(u.setCell ⟨w.heap.size,o,none⟩ x).cell? ⟨w.heap.size+1,j,none⟩=u.cell? ⟨w.heap.size+1,j,none⟩:=fun u o x j=>by simp only[World.cell?];rw[heap_setCell_other _ _ _ _ (show¬w.heap.size+1=w.heap.size by omega)]
  have kz9:∀(u:World) (o:Nat) (x:Value) (j:Nat),(u.setCell ⟨w.heap.size,o,none⟩ x).frozen? ⟨w.heap.size+1,j,none⟩=u.frozen? ⟨w.heap.size+1,j,none⟩:=fun u o x j=>by simp only[World.frozen?];rw[heap_setCell_other _ _ _ _ (show¬w.heap.size+1=w.heap.size by omega)]
  have zd8:∀i,w5.drew.frozen? ⟨w.heap.size,i,none⟩=false:=za
  have zd9:∀i,w5.drew.frozen? ⟨w.heap.size+1,i,none⟩=false:=zb
  have e8:w5.drew.cell? ⟨w.heap.size,0,none⟩=_∧w5.drew.cell? ⟨w.heap.size,1,none⟩=_∧w5.drew.cell? ⟨w.heap.size,2,none⟩=_∧w5.drew.cell? ⟨w.heap.size,3,none⟩=_∧w5.drew.cell? ⟨w.heap.size,4,none⟩=_:=⟨a0,a1,a2,a3,a4⟩
  obtain⟨e80,e81,e82,e83,e84⟩:=e8
  have e9:w5.drew.cell? ⟨w.heap.size+1,0,none⟩=_∧w5.drew.cell? ⟨w.heap.size+1,1,none⟩=_∧w5.drew.cell? ⟨w.heap.size+1,2,none⟩=_:=⟨b0,b1,b2⟩
  obtain⟨e90,e91,e92⟩:=e9
  go_region_held3 (fun w'=>w'.cell? ⟨P,5,none⟩=some (.int .i64 ru.used)∧w'.cell? ⟨P,6,none⟩=some (.int .i64 ru.deep)∧w'.cell? ⟨P,7,none⟩=some (.int .i64 ru.spec)∧w'.cell? ⟨P,9,none⟩=some (.int .i64 ru.err)) (simp only[cell_drewX,kp9,k5,k6,k7,k9,and_self]) (fail)
  have o8:Only (fun j=>j=w.heap.size) w5 w5:=Only.refl _ _
  have g8:=HT8.out
  obtain⟨wA,hwA⟩:∃x,x=w5:=⟨_,rfl⟩
  rw[←hwA]
  rw[←hwA]at g8
  have o8:Only (fun j=>j=w.heap.size) w5 wA:=by rw[hwA];exact Only.refl _ _
  have hlt9:=heap_lt HT9.out
  obtain⟨g9,o9⟩:=set_three ((o8.block (w.heap.size+1) hlt9 (by show¬w.heap.size+1=w.heap.size;omega)).trans HT9.out) (.int .i64 ru.used) (.int .i64 ru.deep) (.int .i64 ru.spec)
  have g8:=(o9.block w.heap.size (heap_lt g8) (by show¬w.heap.size=w.heap.size+1;omega)).trans g8
  have oF:Only (fun j=>j=w.heap.size∨j=w.heap.size+1) w5 (((wA.setCell ⟨w.heap.size+1,0,none⟩ (.int .i64 ru.used)).setCell ⟨w.heap.size+1,1,none⟩ (.int .i64 ru.deep)).setCell ⟨w.heap.size+1,2,none⟩ (.int .i64 ru.spec)):=
   (o8.more fun _ _ e=>.inl e).trans (o9.more fun _ _ e=>Or.inr e) fun _ _ e=>e
  generalize (((wA.setCell ⟨w.heap.size+1,0,none⟩ (.int .i64 ru.used)).setCell ⟨w.heap.size+1,1,none⟩ (.int .i64 ru.deep)).setCell ⟨w.heap.size+1,2,none⟩ (.int .i64 ru.spec))=wF at g8 g9 oF⊢
  have oF:Only (fun j=>j=w.heap.size∨j=w.heap.size+1) w5 wF.drew:=oF.trans (w2:=wF.drew) (S':=fun _=>False) ⟨rfl,rfl,rfl,Nat.le_refl _,fun _ _ _=>rfl⟩ fun _ _ e=>e.elim
  have g8:wF.drew.heap[w.heap.size]? =_:=g8
  have g9:wF.drew.heap[w.heap.size+1]? =_:=g9
  generalize wF.drew=wF at g8 g9 oF⊢
  have hbF:Below w.heap.size w wF:=oF.below (fun j e=>by rcases e with e | e <;> (rw[e];omega)) HB5.out HB5.out.size
  have HTR:=hid (TRE.out wF oF)
  have HBF:=hid hbF
  clear kp8 kp9 kc9 kz9 zd8 zd9 e80 e81 e82 e83 e84 e90 e91 e92 a0 a1 a2 a3 a4 b0 b1 b2 za zb o8 o9 hbF oF TRE k5 k6 k7 k9 i0 i1 i2 i3 i4
  go_wp2_with fail
  refine bodyPost_ret (results_cct rfl _ _ w.heap.size (w.heap.size+1) 65 67 _ _ _ _ _ _ rfl g8 Try.underlying65 rfl infoTreeP rfl g9 Try.underlying67 rfl infoStatsR) rfl ?_
  refine⟨HBF.out,0,0,0,false,.slice none 0 0,by rw[HANS.out];rfl,?_⟩
  rw[HANS.out]
  exact zero_tree _ _
 ·have hne:(ru.err !=0)=false:=by rw[bne_eq_false_iff_eq];exact Classical.not_not.1 herr
  by_cases hto:rto≠(tn:Int)
  ·have hnt:(rto !=(tn:Int))=true:=by rw[bne_iff_ne];exact hto
   have HANS:Hid (AN=⟨.zero,ru.used,ru.deep,ru.spec,8⟩):=hid (by rw[HAN.out];exact(if_neg herr).trans (if_pos hto))
   generalize rt.length=rl
   clear herr hto
   obtain⟨⟨a0,a1,a2,a3,a4⟩,za⟩:=cells5z HT8.out
   obtain⟨⟨b0,b1,b2⟩,zb⟩:=cells3z HT9.out
   have i0:=set_same (j:=0) (x:=.int .i64 0) HT8.out rfl
   have i1:=set_same (j:=1) (x:=.int .i64 0) HT8.out rfl
   have i2:=set_same (j:=2) (x:=.int .i64 0) HT8.out rfl
   have i3:=set_same (j:=3) (x:=.bool false) HT8.out rfl
   have i4:=set_same (j:=4) (x:=.slice none 0 0) HT8.out rfl
   go_upto_region 8 with fail
   have hPG:=HPW.out
   have kp9:∀(u:World) (o:Nat) (x:Value) (j:Nat),(u.setCell ⟨w.heap.size+1,o,none⟩ x).cell? ⟨P,j,none⟩=u.cell? ⟨P,j,none⟩:=fun u o x j=>by simp only[World.cell?];rw[heap_setCell_other _ _ _ _ (show¬P=w.heap.size+1 by omega)]
   have kp8:∀(u:World) (o:Nat) (x:Value) (j:Nat),(u.setCell ⟨w.heap.size,o,none⟩ x).cell? ⟨P,j,none⟩=u.cell? ⟨P,j,none⟩:=fun u o x j=>by simp only[World.cell?];rw[heap_setCell_other _ _ _ _ (show¬P=w.heap.size by omega)]
   have kc9:∀(u:World) (o:Nat) (x:Value) (j:Nat),(u.setCell ⟨w.heap.size,o,none⟩ x).cell? ⟨w.heap.size+1,j,none⟩=u.cell? ⟨w.heap.size+1,j,none⟩:=fun u o x j=>by simp only[World.cell?];rw[heap_setCell_other _ _ _ _ (show¬w.heap.size+1=w.heap.size by omega)]
   have kz9:∀(u:World) (o:Nat) (x:Value) (j:Nat),(u.setCell ⟨w.heap.size,o,none⟩ x).frozen? ⟨w.heap.size+1,j,none⟩=u.frozen? ⟨w.heap.size+1,j,none⟩:=fun u o x j=>by simp only[World.frozen?];rw[heap_setCell_other _ _ _ _ (show¬w.heap.size+1=w.heap.size by omega)]
   have zd8:∀i,w5.drew.frozen? ⟨w.heap.size,i,none⟩=false:=za
   have zd9:∀i,w5.drew.frozen? ⟨w.heap.size+1,i,none⟩=false:=zb
   have e8:w5.drew.cell? ⟨w.heap.size,0,none⟩=_∧w5.drew.cell? ⟨w.heap.size,1,none⟩=_∧w5.drew.cell? ⟨w.heap.size,2,none⟩=_∧w5.drew.cell? ⟨w.heap.size,3,none⟩=_∧w5.drew.cell? ⟨w.heap.size,4,none⟩=_:=⟨a0,a1,a2,a3,a4⟩
   obtain⟨e80,e81,e82,e83,e84⟩:=e8
   have e9:w5.drew.cell? ⟨w.heap.size+1,0,none⟩=_∧w5.drew.cell? ⟨w.heap.size+1,1,none⟩=_∧w5.drew.cell? ⟨w.heap.size+1,2,none⟩=_:=⟨b0,b1,b2⟩
   obtain⟨e90,e91,e92⟩:=e9
   go_region_held3 (fun w'=>w'.cell? ⟨P,5,none⟩=some (.int .i64 ru.used)∧w'.cell? ⟨P,6,none⟩=some (.int .i64 ru.deep)∧w'.cell? ⟨P,7,none⟩=some (.int .i64 ru.spec)) (simp only[cell_drewX,kp9,k5,k6,k7,and_self]) (fail)
   have o8:Only (fun j=>j=w.heap.size) w5 w5:=Only.refl _ _
   have g8:=HT8.out
   obtain⟨wA,hwA⟩:∃x,x=w5:=⟨_,rfl⟩
   rw[←hwA]
   rw[←hwA]at g8
   have o8:Only (fun j=>j=w.heap.size) w5 wA:=by rw[hwA];exact Only.refl _ _
   have hlt9:=heap_lt HT9.out
   obtain⟨g9,o9⟩:=set_three ((o8.block (w.heap.size+1) hlt9 (by show¬w.heap.size+1=w.heap.size;omega)).trans HT9.out) (.int .i64 ru.used) (.int .i64 ru.deep) (.int .i64 ru.spec)
   have g8:=(o9.block w.heap.size (heap_lt g8) (by show¬w.heap.size=w.heap.size+1;omega)).trans g8
   have oF:Only (fun j=>j=w.heap.size∨j=w.heap.size+1) w5 (((wA.setCell ⟨w.heap.size+1,0,none⟩ (.int .i64 ru.used)).setCell ⟨w.heap.size+1,1,none⟩ (.int .i64 ru.deep)).setCell ⟨w.heap.size+1,2,none⟩ (.int .i64 ru.spec)):=
    (o8.more fun _ _ e=>.inl e).trans (o9.more fun _ _ e=>Or.inr e) fun _ _ e=>e
   generalize (((wA.setCell ⟨w.heap.size+1,0,none⟩ (.int .i64 ru.used)).setCell ⟨w.heap.size+1,1,none⟩ (.int .i64 ru.deep)).setCell ⟨w.heap.size+1,2,none⟩ (.int .i64 ru.spec))=wF at g8 g9 oF⊢
   have oF:Only (fun j=>j=w.heap.size∨j=w.heap.size+1) w5 wF.drew:=oF.trans (w2:=wF.drew) (S':=fun _=>False) ⟨rfl,rfl,rfl,Nat.le_refl _,fun _ _ _=>rfl⟩ fun _ _ e=>e.elim
   have g8:wF.drew.heap[w.heap.size]? =_:=g8
   have g9:wF.drew.heap[w.heap.size+1]? =_:=g9
   generalize wF.drew=wF at g8 g9 oF⊢
   have hbF:Below w.heap.size w wF:=oF.below (fun j e=>by rcases e with e | e <;> (rw[e];omega)) HB5.out HB5.out.size
   have HTR:=hid (TRE.out wF oF)
   have HBF:=hid hbF
   clear kp8 kp9 kc9 kz9 zd8 zd9 e80 e81 e82 e83 e84 e90 e91 e92 a0 a1 a2 a3 a4 b0 b1 b2 za zb o8 o9 hbF oF TRE k5 k6 k7 k9 i0 i1 i2 i3 i4
   go_wp2_with fail
   refine bodyPost_ret (results_cct rfl _ _ w.heap.size (w.heap.size+1) 65 67 _ _ _ _ _ _ rfl g8 Try.underlying65 rfl infoTreeP rfl g9 Try.underlying67 rfl infoStatsR) rfl ?_
   refine⟨HBF.out,0,0,0,false,.slice none 0 0,by rw[HANS.out];rfl,?_⟩
   rw[HANS.out]
   exact zero_tree _ _
  ·have hnt:(rto !=(tn:Int))=false:=by rw[bne_eq_false_iff_eq];exact Classical.not_not.1 hto
   have HANS:Hid (AN=⟨.node 0 0 0 false rt,ru.used,ru.deep,ru.spec,0⟩):=hid (by rw[HAN.out];exact(if_neg herr).trans (if_neg hto))
   obtain⟨rl,hrl⟩:∃m,rt.length=m:=⟨_,rfl⟩
   have HRL:=hid hrl
   rw[hrl]
   clear herr hto hrl
   obtain⟨⟨a0,a1,a2,a3,a4⟩,za⟩:=cells5z HT8.out
   obtain⟨⟨b0,b1,b2⟩,zb⟩:=cells3z HT9.out
   have i0:=set_same (j:=0) (x:=.int .i64 0) HT8.out rfl
   have i1:=set_same (j:=1) (x:=.int .i64 0) HT8.out rfl
   have i2:=set_same (j:=2) (x:=.int .i64 0) HT8.out rfl
   have i3:=set_same (j:=3) (x:=.bool false) HT8.out rfl
   go_upto_region 9 with fail
   have hPG:=HPW.out
   have kp9:∀(u:World) (o:Nat) (x:Value) (j:Nat),(u.setCell ⟨w.heap.size+1,o,none⟩ x).cell? ⟨P,j,none⟩=u.cell? ⟨P,j,none⟩:=fun u o x j=>by simp only[World.cell?];rw[heap_setCell_other _ _ _ _ (show¬P=w.heap.size+1 by omega)]
   have kp8:∀(u:World) (o:Nat) (x:Value) (j:Nat),(u.setCell ⟨w.heap.size,o,none⟩ x).cell? ⟨P,j,none⟩=u.cell? ⟨P,j,none⟩:=fun u o x j=>by simp only[World.cell?];rw[heap_setCell_other _ _ _ _ (show¬P=w.heap.size by omega)]
   have kc9:∀(u:World) (o:Nat) (x:Value) (j:Nat),(u.setCell ⟨w.heap.size,o,none⟩ x).cell? ⟨w.heap.size+1,j,none⟩=u.cell? ⟨w.heap.size+1,j,none⟩:=fun u o x j=>by simp only[World.cell?];rw[heap_setCell_other _ _ _ _ (show¬w.heap.size+1=w.heap.size by omega)]
   have kz9:∀(u:World) (o:Nat) (x:Value) (j:Nat),(u.setCell ⟨w.heap.size,o,none⟩ x).frozen? ⟨w.heap.size+1,j,none⟩=u.frozen? ⟨w.heap.size+1,j,none⟩:=fun u o x j=>by simp only[World.frozen?];rw[heap_setCell_other _ _ _ _ (show¬w.heap.size+1=w.heap.size by omega)]
   have zd8:∀i,w5.drew.frozen? ⟨w.heap.size,i,none⟩=false:=za
   have zd9:∀i,w5.drew.frozen? ⟨w.heap.size+1,i,none⟩=false:=zb
   have e8:w5.drew.cell? ⟨w.heap.size,0,none⟩=_∧w5.drew.cell? ⟨w.heap.size,1,none⟩=_∧w5.drew.cell? ⟨w.heap.size,2,none⟩=_∧w5.drew.cell? ⟨w.heap.size,3,none⟩=_∧w5.drew.cell? ⟨w.heap.size,4,none⟩=_:=⟨a0,a1,a2,a3,a4⟩
   obtain⟨e80,e81,e82,e83,e84⟩:=e8
   have e9:w5.drew.cell? ⟨w.heap.size+1,0,none⟩=_∧w5.drew.cell? ⟨w.heap.size+1,1,none⟩=_∧w5.drew.cell? ⟨w.heap.size+1,2,none⟩=_:=⟨b0,b1,b2⟩
   obtain⟨e90,e91,e92⟩:=e9
   go_region_held3 (fun w'=>w'.cell? ⟨P,5,none⟩=some (.int .i64 ru.used)∧w'.cell? ⟨P,6,none⟩=some (.int .i64 ru.deep)∧w'.cell? ⟨P,7,none⟩=some (.int .i64 ru.spec)) (simp only[cell_drewX,kp8,kp9,k5,k6,k7,and_self]) (fail)
   have o8:=Only.of_set w5 w.heap.size 4 (.slice A rl c)
   have g8:=heap_setCell_same w5 w.heap.size 4 _ _ (.slice A rl c) HT8.out
   generalize w5.setCell ⟨w.heap.size,4,none⟩ (.slice A rl c)=wA at g8 o8⊢
   have hlt9:=heap_lt HT9.out
   obtain⟨g9,o9⟩:=set_three ((o8.block (w.heap.size+1) hlt9 (by show¬w.heap.size+1=w.heap.size;omega)).trans HT9.out) (.int .i64 ru.used) (.int .i64 ru.deep) (.int .i64 ru.spec)
   have g8:=(o9.block w.heap.size (heap_lt g8) (by show¬w.heap.size=w.heap.size+1;omega)).trans g8
   have oF:Only (fun j=>j=w.heap.size∨j=w.heap.size+1) w5 (((wA.setCell ⟨w.heap.size+1,0,none⟩ (.int .i64 ru.used)).setCell ⟨w.heap.size+1,1,none⟩ (.int .i64 ru.deep)).setCell ⟨w.heap.size+1,2,none⟩ (.int .i64 ru.spec)):=
    (o8.more fun _ _ e=>.inl e).trans (o9.more fun _ _ e=>Or.inr e) fun _ _ e=>e
   generalize (((wA.setCell ⟨w.heap.size+1,0,none⟩ (.int .i64 ru.used)).setCell ⟨w.heap.size+1,1,none⟩ (.int .i64 ru.deep)).setCell ⟨w.heap.size+1,2,none⟩ (.int .i64 ru.spec))=wF at g8 g9 oF⊢
   have oF:Only (fun j=>j=w.heap.size∨j=w.heap.size+1) w5 wF.drew:=oF.trans (w2:=wF.drew) (S':=fun _=>False) ⟨rfl,rfl,rfl,Nat.le_refl _,fun _ _ _=>rfl⟩ fun _ _ e=>e.elim
   have g8:wF.drew.heap[w.heap.size]? =_:=g8
   have g9:wF.drew.heap[w.heap.size+1]? =_:=g9
   generalize wF.drew=wF at g8 g9 oF⊢
   have hbF:Below w.heap.size w wF:=oF.below (fun j e=>by rcases e with e | e <;> (rw[e];omega)) HB5.out HB5.out.size
   have HTR:=hid (TRE.out wF oF)
   have HBF:=hid hbF
   clear kp8 kp9 kc9 kz9 zd8 zd9 e80 e81 e82 e83 e84 e90 e91 e92 a0 a1 a2 a3 a4 b0 b1 b2 za zb o8 o9 hbF oF TRE k5 k6 k7 k9 i0 i1 i2 i3
   go_wp2_with fail
   refine bodyPost_ret (results_cct rfl _ _ w.heap.size (w.heap.size+1) 65 67 _ _ _ _ _ _ rfl g8 Try.underlying65 rfl infoTreeP rfl g9 Try.underlying67 rfl infoStatsR) rfl ?_
   refine⟨HBF.out,0,0,0,false,.slice A rl c,by rw[HANS.out];rfl,?_⟩
   rw[HANS.out]
   show TrV wF _ (.node 0 0 0 false rt) _
   unfold TrV
   exact⟨A,c,xs,by rw[HRL.out],HTR.out⟩
end Go.Proofs.Ytgflanlniejflaa
