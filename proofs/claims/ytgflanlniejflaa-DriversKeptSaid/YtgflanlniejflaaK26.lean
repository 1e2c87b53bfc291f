/-
  Drivers: Parse: the walk.
-/
import Derived.Deep.LoopGhost
import Derived.Test.YtgflanlniejflaaK21
namespace Go.Proofs.Ytgflanlniejflaa
open Go.RowKit Go.Maps
open Go.Sort (grow)
set_option maxRecDepth 100000
def ParR (f:Fx) (kE:Drv.Cf) (w:World) (n:Nat) (wr:World):Prop:=
 Below f.B0 w wr∧∃v k,PstAt wr f v k∧Drv.COk f.c k∧Drv.BOk k∧Drv.SOk k∧Drv.RN f.c n k kE
def ParseP (c:Drv.DC) (w:World) (e:Ending) (w':World):Prop:=
 ∃a:Drv.Ans,(∀N:Nat,c.fuel<N→Drv.parseR c N=a)∧Below w.heap.size w w'∧
  ∃r t q b s,e= .returned (.tuple #[.agg #[.int .i64 r,.int .i64 t,.int .i64 q,.bool b,s],.agg #[.int .i64 a.used,.int .i64 a.deep,.int .i64 a.spec],.int .i64 a.e])∧TrV w' (fun j=>j<w.heap.size) a.tree [.int .i64 r,.int .i64 t,.int .i64 q,.bool b,s]
def ParseP2 (c:Drv.DC) (w:World) (e:Ending) (w':World):Prop:=
 ∃a:Drv.Ans,(∀N:Nat,c.fuel<N→Drv.parseR c N=a)∧Below w.heap.size w w'∧
  ∃r t q b s,e= .returned (.tuple #[.agg #[.int .i64 r,.int .i64 t,.int .i64 q,.bool b,s],.agg #[.int .i64 a.used,.int .i64 a.deep,.int .i64 a.spec],.int .i64 a.e])∧TrV w' (fun j=>j<w.heap.size) a.tree [.int .i64 r,.int .i64 t,.int .i64 q,.bool b,s]∧TopT w' (fun j=>j<w.heap.size) w.heap.size [.int .i64 r,.int .i64 t,.int .i64 q,.bool b,s]
theorem ParAt.tree {w:World}{P:Nat}{c:Pc}{v:Pv}(h:ParAt w P c v):w.cell? ⟨P,11,none⟩=some (.int .i64 v.rule)∧w.cell? ⟨P,12,none⟩=some (.int .i64 v.token)∧w.cell? ⟨P,13,none⟩=some (.int .i64 v.kind)∧w.cell? ⟨P,14,none⟩=some (.bool v.bad)∧w.cell? ⟨P,15,none⟩=some v.subs∧
 w.cell? ⟨P,3,none⟩=some (.int .i64 v.used)∧w.cell? ⟨P,4,none⟩=some (.int .i64 v.deep)∧w.cell? ⟨P,5,none⟩=some (.int .i64 v.spec):=
 ⟨(h.cell 11).1,(h.cell 12).1,(h.cell 13).1,(h.cell 14).1,(h.cell 15).1,(h.cell 3).1,(h.cell 4).1,(h.cell 5).1⟩
theorem TrV.sl {w:World}{S:Nat→Prop}{x:Drv.Tr}{a b c d e:Value}(h:TrV w S x [a,b,c,d,e]):∃A n m,e= .slice A n m:=by
 cases x with
 | node r t k e' subs=>
  unfold TrV at h
  obtain⟨A,m,_,h1,_⟩:=h
  simp only[List.cons.injEq]at h1
  exact⟨A,_,m,h1.2.2.2.2.1⟩
theorem set_five {w:World}{b:Nat}{v0 v1 v2 v3 v4:Value}{T:TypeId}(h:w.heap[b]? =some (.cells #[v0,v1,v2,v3,v4] T (0,0))) (u0 u1 u2 u3 u4:Value):
 (((((w.setCell ⟨b,0,none⟩ u0).setCell ⟨b,1,none⟩ u1).setCell ⟨b,2,none⟩ u2).setCell ⟨b,3,none⟩ u3).setCell ⟨b,4,none⟩ u4).heap[b]? =some (.cells #[u0,u1,u2,u3,u4] T (0,0))∧
 Only (fun j=>j=b) w (((((w.setCell ⟨b,0,none⟩ u0).setCell ⟨b,1,none⟩ u1).setCell ⟨b,2,none⟩ u2).setCell ⟨b,3,none⟩ u3).setCell ⟨b,4,none⟩ u4):=by
 have h0:=heap_setCell_same w b 0 _ _ u0 h
 have h1:=heap_setCell_same _ b 1 _ _ u1 h0
 have h2:=heap_setCell_same _ b 2 _ _ u2 h1
 have h3:=heap_setCell_same _ b 3 _ _ u3 h2
 have h4:=heap_setCell_same _ b 4 _ _ u4 h3
 refine⟨h4,?_⟩
 exact((((Only.of_set w b 0 u0).trans (Only.of_set _ b 1 u1) fun _ _ e=>e).trans (Only.of_set _ b 2 u2) fun _ _ e=>e).trans (Only.of_set _ b 3 u3) fun _ _ e=>e).trans (Only.of_set _ b 4 u4) fun _ _ e=>e
theorem set_three {w:World}{b:Nat}{v0 v1 v2:Value}{T:TypeId}(h:w.heap[b]? =some (.cells #[v0,v1,v2] T (0,0))) (u0 u1 u2:Value):
 (((w.setCell ⟨b,0,none⟩ u0).setCell ⟨b,1,none⟩ u1).setCell ⟨b,2,none⟩ u2).heap[b]? =some (.cells #[u0,u1,u2] T (0,0))∧
 Only (fun j=>j=b) w (((w.setCell ⟨b,0,none⟩ u0).setCell ⟨b,1,none⟩ u1).setCell ⟨b,2,none⟩ u2):=by
 have h0:=heap_setCell_same w b 0 _ _ u0 h
 have h1:=heap_setCell_same _ b 1 _ _ u1 h0
 have h2:=heap_setCell_same _ b 2 _ _ u2 h1
 refine⟨h2,?_⟩
 exact((Only.of_set w b 0 u0).trans (Only.of_set _ b 1 u1) fun _ _ e=>e).trans (Only.of_set _ b 2 u2) fun _ _ e=>e
theorem results_cct {P:Program}{fn:Func}{p q r:Tmp}{ty uy:TypeId}(h:fn.results=#[.cell p ty,.cell q uy,.tmp r]) (tmps:Array Value) (w:World) (g1 g2:Nat) (t1 t2:TypeId) (cs ds:Array Value) (f1 f2:Nat×Nat) (d1 d2:TypeDesc)
 (hp:tmps.getD p undef= .pointer (some ⟨g1,0,none⟩)) (hg:w.heap[g1]? =some (.cells cs t1 f1)) (hu:P.underlying ty=some d1) (hd:(match d1 with | .struct _ | .array _ _=>true | _=>false)=true) (hi:(P.info? ty).map (·.size)=some cs.size)
 (hp2:tmps.getD q undef= .pointer (some ⟨g2,0,none⟩)) (hg2:w.heap[g2]? =some (.cells ds t2 f2)) (hu2:P.underlying uy=some d2) (hd2:(match d2 with | .struct _ | .array _ _=>true | _=>false)=true) (hi2:(P.info? uy).map (·.size)=some ds.size):
 (results fn tmps).run P w= .ok (.tuple #[.agg cs,.agg ds,tmps.getD r undef]) w:=by
 have hp':tmps[p]?.getD undef= .pointer (some ⟨g1,0,none⟩):=by simpa using hp
 have hq':tmps[q]?.getD undef= .pointer (some ⟨g2,0,none⟩):=by simpa using hp2
 simp[results,h,hp',hq',asAddr,run_loadVar_row w g1 t1 ty cs f1 d1 hg hu hd hi,run_loadVar_row w g2 t2 uy ds f2 d2 hg2 hu2 hd2 hi2]
theorem infoTreeP:(Try.prog.info? 65).map (·.size)=some 5:=by kernel_rfl
theorem infoStatsP:(Try.prog.info? 70).map (·.size)=some 3:=by kernel_rfl
theorem set_same {w:World}{b j:Nat}{cs:Array Value}{T:TypeId}{fr:Nat×Nat}{x:Value}(h:w.heap[b]? =some (.cells cs T fr)) (hj:cs[j]? =some x):w.setCell ⟨b,j,none⟩ x=w:=by
 have hset:cs.setIfInBounds j x=cs:=by
  apply Array.ext_getElem?
  intro i
  rw[Array.getElem?_setIfInBounds]
  by_cases e:j=i
  ·subst e
   rw[if_pos rfl,hj,if_pos (Array.getElem?_eq_some_iff.1 hj).1]
  ·rw[if_neg e]
 have hm:w.heap.modify b (fun | .cells c elem frozen=>.cells (if(none:Option Value).isSome then c else c.setIfInBounds j x) elem frozen | o=>o)=w.heap:=by
  apply Array.ext_getElem?
  intro i
  rw[Array.getElem?_modify]
  by_cases e:b=i
  ·subst e
   rw[if_pos rfl,h]
   simp[hset]
  ·rw[if_neg e]
 obtain⟨_,_,_,_,_⟩:=w
 simp only[World.setCell,World.mk.injEq,and_true]
 exact hm
theorem cell_drewX (W:World) (a:Addr):W.drew.cell? a=W.cell? a:=rfl
theorem cells5z {w:World}{b:Nat}{v0 v1 v2 v3 v4:Value}{T:TypeId}(h:w.heap[b]? =some (.cells #[v0,v1,v2,v3,v4] T (0,0))):
 (w.cell? ⟨b,0,none⟩=some v0∧w.cell? ⟨b,1,none⟩=some v1∧w.cell? ⟨b,2,none⟩=some v2∧w.cell? ⟨b,3,none⟩=some v3∧w.cell? ⟨b,4,none⟩=some v4)∧∀i,w.frozen? ⟨b,i,none⟩=false:=
 ⟨⟨by rw[Lib.cell_of_heap h];rfl,by rw[Lib.cell_of_heap h];rfl,by rw[Lib.cell_of_heap h];rfl,by rw[Lib.cell_of_heap h];rfl,by rw[Lib.cell_of_heap h];rfl⟩,fun i=>Lib.frozen_of_heap h i⟩
theorem cells3z {w:World}{b:Nat}{v0 v1 v2:Value}{T:TypeId}(h:w.heap[b]? =some (.cells #[v0,v1,v2] T (0,0))):
 (w.cell? ⟨b,0,none⟩=some v0∧w.cell? ⟨b,1,none⟩=some v1∧w.cell? ⟨b,2,none⟩=some v2)∧∀i,w.frozen? ⟨b,i,none⟩=false:=
 ⟨⟨by rw[Lib.cell_of_heap h];rfl,by rw[Lib.cell_of_heap h];rfl,by rw[Lib.cell_of_heap h];rfl⟩,fun i=>Lib.frozen_of_heap h i⟩
set_option maxHeartbeats 12800000 in
theorem parseP2_any (w:World) (D:Nat) (n:Drv.NNet) (au:List (List Drv.LSt)) (wd:Int) (toks:List Int) (WA:Option Addr) (wc:Nat) (fuel:Int) (depth:Nat) (hD:DrvAt w D w.heap.size n au wd) (hok:Drv.OkNet n au)
 (hW:Reads w w.heap.size 1 WA toks.length (toks.map (Value.int .i64))) (hwc:toks.length≤wc) (hwn:WA=none→wc=0) (hlen:toks.length≤16384) (hf0:0≤fuel) (hf1:fuel≤1000000) (hd1:depth≤100000):
 Calls Try.prog 14 #[.pointer (some ⟨D,0,none⟩),.slice WA toks.length wc,.int .i64 fuel,.int .i64 (depth:Int)] w (ParseP2 (Drv.mkDC n au toks fuel depth) w):=by
 obtain⟨SA,Sc,cs1,rs1⟩:=hD.starts
 obtain⟨TA,Tc,cs2,rs2⟩:=hD.stops
 obtain⟨QA,Qc,cs3,_⟩:=hD.preds
 obtain⟨EA,Ec,cs4,_⟩:=hD.decs
 obtain⟨pl,⟨PA,Pc,cs6,rp⟩,hpl,_⟩:=hD.place
 have h1:=hok.starts1
 have hst1:0<n.stops.length:=by rw[hok.stops];omega
 obtain⟨sb,so,rfl,hsb,hs0⟩:=rs1.2 h1
 obtain⟨tb,tf,rfl,htb,ht0⟩:=rs2.2 hst1
 have hs0:=hs0 0 _ (by rw[List.getElem?_map,List.getElem?_eq_getElem h1];rfl)
 have ht0:=ht0 0 _ (by rw[List.getElem?_map,List.getElem?_eq_getElem hst1];rfl)
 have hplace:PA.isNone=false:=by
  have hsl:0<pl.length:=by
   have h2:=((Drv.rng_mk hok.may hok.len hok.autos hok.alts [] 0 0).starts 0 ⟨Int.le_refl _,by show(0:Int)<(n.starts.length:Nat);omega⟩).1
   have h3:(0:Int)<((Drv.mkDC n au [] 0 0).states.length:Nat):=by have:=h2.1;have:=h2.2;omega
   have h4:(Drv.mkDC n au [] 0 0).states.length=n.states.length:=rfl
   omega
  obtain⟨b,o,e,_⟩:=rp.2 hsl
  rw[e];rfl
 have q22:∀(w:World) (a:Option Addr) (n c n' c':Nat),(binOp .eql 23 (.slice a n c) (.slice none n' c')).run Try.prog w= .ok (.bool a.isNone) w:=fun w a n c n' c'=>Lib.run_eql_slice_nil w _ _ a n c n' c' Try.underlying23
 have hdl:=hD.dlt
 have HS0:=hid hs0
 have HT0:=hid ht0
 have HD:=hid hD
 have HOK:=hid hok
 have HW:=hid hW
 have hst2:=hok.stops
 have hpk:=hok.picks
 have hs64:=hok.starts
 clear hD hok hW rs1 rs2 hs0 ht0 rp hpl
 obtain⟨tn,htn⟩:∃tn,toks.length=tn:=⟨_,rfl⟩
 obtain⟨n1,hn1⟩:∃n1,n.starts.length=n1:=⟨_,rfl⟩
 obtain⟨n3,hn3⟩:∃n3,n.preds.length=n3:=⟨_,rfl⟩
 obtain⟨n4,hn4⟩:∃n4,n.decs.length=n4:=⟨_,rfl⟩
 have HTN:=hid htn
 have HN1:=hid hn1
 have HN3:=hid hn3
 have HN4:=hid hn4
 rw[htn]at hwc hlen
 rw[hn1]at cs1 h1 hs64 hst2
 rw[hn3]at cs3 hpk
 rw[hn4]at cs4 hpk
 rw[hst2]at cs2 hst1
 clear htn hn1 hn3 hn4
 have hg1:decide ((16384:Int)<(tn:Int))=false:=by rw[decide_eq_false_iff_not];omega
 have hg2:decide (fuel<0)=false:=by rw[decide_eq_false_iff_not];omega
 have hg3:decide ((depth:Int)<0)=false:=by rw[decide_eq_false_iff_not];omega
 rw[HTN.out]
 go_enter Try.func14,Try.ntmps14
 go_upto_region 5 with fail
 obtain⟨w1,hw1⟩:∃w1,w1=w.alloc (.cells #[.int .i64 0,.int .i64 0,.int .i64 0,.bool false,.slice none 0 0] 65):=⟨_,rfl⟩
 obtain⟨w2,hw2⟩:∃w2,w2=w1.alloc (.cells #[.int .i64 0,.int .i64 0,.int .i64 0] 70):=⟨_,rfl⟩
 rw[←hw1,←hw2]
 have s1:w1.heap.size=w.heap.size+1:=by rw[hw1];simp
 have s2:w2.heap.size=w.heap.size+1+1:=by rw[hw2];simp[s1]
 have b2:Below w.heap.size w w2:=by
  have b1:Below w.heap.size w w1:=by rw[hw1];exact below_new _ _
  rw[hw2];exact b1.alloc (by omega) _
 have t9:w2.heap[w.heap.size+1]? =some (.cells #[.int .i64 0,.int .i64 0,.int .i64 0] 70 (0,0)):=by
  rw[hw2,←s1];exact heap_alloc_new _ _
 have t8:w2.heap[w.heap.size]? =some (.cells #[.int .i64 0,.int .i64 0,.int .i64 0,.bool false,.slice none 0 0] 65 (0,0)):=by
  rw[hw2,Below.heap_alloc _ _ _ (by omega),hw1];exact heap_alloc_new _ _
 have HT8:=hid t8
 have HT9:=hid t9
 have cs1:=(b2.cell (p:=⟨D,1,none⟩) hdl).trans cs1
 have cs2:=(b2.cell (p:=⟨D,2,none⟩) hdl).trans cs2
 have cs3:=(b2.cell (p:=⟨D,3,none⟩) hdl).trans cs3
 have cs4:=(b2.cell (p:=⟨D,4,none⟩) hdl).trans cs4
 have HS0:=hid ((b2.cell (p:=⟨sb,so+0,none⟩) hsb).trans HS0.out)
 have HT0:=hid ((b2.cell (p:=⟨tb,tf+0,none⟩) htb).trans HT0.out)
 have HB2:=hid b2
 clear t8 t9 hw1 hw2 cs6 b2 hplace hg1 hg2 hg3 s1
 have hNew:=fun u:World=>memoNew_any (n1:Int) ((n4:Int)+(n3:Int)) (tn:Int) u (by omega) (by omega) (by omega) (by omega) (by omega) (by omega)
 have HNEW:=hid hNew
 clear hNew
 have hwr:IntKind.i64.wrap ((n4:Int)+(n3:Int))=(n4:Int)+(n3:Int):=w64 (by omega) (by omega)
 have S3of:∀(w3:World),Below w2.drew.heap.size w2.drew w3→w3.cell? ⟨D,1,none⟩=some (.slice (some ⟨sb,so,none⟩) n1 Sc)∧w3.cell? ⟨D,4,none⟩=some (.slice EA n4 Ec)∧w3.cell? ⟨D,3,none⟩=some (.slice QA n3 Qc):=fun w3 hb=>by
  have hl:D<w2.drew.heap.size:=show D<w2.heap.size by omega
  exact⟨(hb.cell (p:=⟨D,1,none⟩) hl).trans cs1,(hb.cell (p:=⟨D,4,none⟩) hl).trans cs4,(hb.cell (p:=⟨D,3,none⟩) hl).trans cs3⟩
 have S3of:=hid S3of
 clear q22
 go_region_held3 (fun w'=>w'.cell? ⟨D,1,none⟩=some (.slice (some ⟨sb,so,none⟩) n1 Sc)∧w'.cell? ⟨D,4,none⟩=some (.slice EA n4 Ec)∧w'.cell? ⟨D,3,none⟩=some (.slice QA n3 Qc)) (first | assumption | exact⟨cs1,cs4,cs3⟩ | exact S3of.out _ hb3) (first | (go_simp;go_at_call 32;refine(HNEW.out _).mono ?_;rintro e w3 ⟨M,br,bp,rfl,hb3,hm3,HM⟩;dsimp only))
 go_upto_region 9 with fail
 have hB3:Below w2.heap.size w2 w3:=⟨hb3.os,hb3.tape,hb3.output,hb3.size,hb3.block⟩
 have hs3:=hB3.size
 obtain⟨f,hf⟩:∃f:Fx,f=⟨w2.heap.size,w3.heap.size,⟨D,WA,toks.length,wc,M,fuel,depth⟩,br,bp,Drv.mkDC n au toks fuel depth⟩:=⟨_,rfl⟩
 have hfB:f.B0=w2.heap.size:=by rw[hf]
 have hfP:f.P=w3.heap.size:=by rw[hf]
 have hfc:f.c=Drv.mkDC n au toks fuel depth:=by rw[hf]
 have hpar:ParAt (w3.alloc (.cells (parCells f.pc ⟨0,0,0,.slice none 0 0,0,0,0,0,0,false,.slice none 0 0,0,false⟩) 112)) f.P f.pc ⟨0,0,0,.slice none 0 0,0,0,0,0,0,false,.slice none 0 0,0,false⟩:=by
  rw[hfP];exact heap_alloc_new _ _
 have hP0:PstAt (w3.alloc (.cells (parCells f.pc ⟨0,0,0,.slice none 0 0,0,0,0,0,0,false,.slice none 0 0,0,false⟩) 112)) f ⟨.slice none 0 0,[],[]⟩ Drv.cf0:=by
  refine PstAt.start hpar ?_ (by rw[hfP,hfB];omega) (fun j hj=>?_)
  ·have:=HM.only (S:=fun _=>False) (Only.of_below (below_new w3 (.cells (parCells f.pc ⟨0,0,0,.slice none 0 0,0,0,0,0,0,false,.slice none 0 0,0,false⟩) 112))) (fun _ _ e=>e)
   rw[hf]at this⊢
   have e1:(Drv.mkDC n au toks fuel depth).starts.length=n1:=HN1.out
   have e3:(Drv.mkDC n au toks fuel depth).preds.length=n3:=HN3.out
   have e4:(Drv.mkDC n au toks fuel depth).decs.length=n4:=HN4.out
   have e5:(Drv.mkDC n au toks fuel depth).w.length=tn:=HTN.out
   show MemoAt _ M br bp 0 _ _ _ _ _
   rw[show((Drv.mkDC n au toks fuel depth).starts.length:Int)=n1 by rw[e1],show(((Drv.mkDC n au toks fuel depth).decs.length+(Drv.mkDC n au toks fuel depth).preds.length:Nat):Int)=(n4:Int)+n3 by rw[e3,e4];omega,show((Drv.mkDC n au toks fuel depth).w.length:Int)=tn by rw[e5]]
   exact this
  ·rw[hf]at hj
   rw[hfB]
   exact hm3 j hj
 have hW4:(w3.alloc (.cells (parCells f.pc ⟨0,0,0,.slice none 0 0,0,0,0,0,0,false,.slice none 0 0,0,false⟩) 112))=w3.alloc (.cells #[.pointer (some ⟨D,0,none⟩),.slice WA tn wc,.pointer (some ⟨M,0,none⟩),.int .i64 0,.int .i64 0,.int .i64 0,.int .i64 fuel,.int .i64 depth,.slice none 0 0,.int .i64 0,.int .i64 0,.int .i64 0,.int .i64 0,.int .i64 0,.bool false,.slice none 0 0,.int .i64 0,.bool false] 112):=by
  rw[hf,←HTN.out];rfl
 rw[hW4]at hpar hP0
 have ho4:Only (fun _=>False) w3 (w3.alloc (.cells #[.pointer (some ⟨D,0,none⟩),.slice WA tn wc,.pointer (some ⟨M,0,none⟩),.int .i64 0,.int .i64 0,.int .i64 0,.int .i64 fuel,.int .i64 depth,.slice none 0 0,.int .i64 0,.int .i64 0,.int .i64 0,.int .i64 0,.int .i64 0,.bool false,.slice none 0 0,.int .i64 0,.bool false] 112)):=Only.of_below (below_new _ _)
 have hs4:(w3.alloc (.cells #[.pointer (some ⟨D,0,none⟩),.slice WA tn wc,.pointer (some ⟨M,0,none⟩),.int .i64 0,.int .i64 0,.int .i64 0,.int .i64 fuel,.int .i64 depth,.slice none 0 0,.int .i64 0,.int .i64 0,.int .i64 0,.int .i64 0,.int .i64 0,.bool false,.slice none 0 0,.int .i64 0,.bool false] 112)).heap.size=w3.heap.size+1:=size_alloc _ _
 generalize w3.alloc (.cells #[.pointer (some ⟨D,0,none⟩),.slice WA tn wc,.pointer (some ⟨M,0,none⟩),.int .i64 0,.int .i64 0,.int .i64 0,.int .i64 fuel,.int .i64 depth,.slice none 0 0,.int .i64 0,.int .i64 0,.int .i64 0,.int .i64 0,.int .i64 0,.bool false,.slice none 0 0,.int .i64 0,.bool false] 112)=w4 at*
 have hB4:Below w2.heap.size w2 w4:=ho4.below (fun _ e=>e.elim) hB3 hs3
 have S5of:∀w5:World,Below w2.heap.size w2 w5→w5.cell? ⟨D,1,none⟩=some (.slice (some ⟨sb,so,none⟩) n1 Sc)∧w5.cell? ⟨D,2,none⟩=some (.slice (some ⟨tb,tf,none⟩) n1 Tc)∧w5.cell? ⟨sb,so,none⟩=some (.int .i64 n.starts[0])∧w5.cell? ⟨tb,tf,none⟩=some (.int .i64 n.stops[0]):=fun w5 hb=>
  ⟨(hb.cell (p:=⟨D,1,none⟩) (show D<w2.heap.size by omega)).trans cs1,(hb.cell (p:=⟨D,2,none⟩) (show D<w2.heap.size by omega)).trans cs2,(hb.cell (p:=⟨sb,so+0,none⟩) (show sb<w2.heap.size by omega)).trans HS0.out,(hb.cell (p:=⟨tb,tf+0,none⟩) (show tb<w2.heap.size by omega)).trans HT0.out⟩
 have cs1:=(hB4.cell (p:=⟨D,1,none⟩) (show D<w2.heap.size by omega)).trans cs1
 have cs2:=(hB4.cell (p:=⟨D,2,none⟩) (show D<w2.heap.size by omega)).trans cs2
 have HS1:=(hB4.cell (p:=⟨sb,so+0,none⟩) (show sb<w2.heap.size by omega)).trans HS0.out
 have HT1:=(hB4.cell (p:=⟨tb,tf+0,none⟩) (show tb<w2.heap.size by omega)).trans HT0.out
 rw[Nat.add_zero]at HS1 HT1
 generalize hsv:n.starts[0]=sv at HS1 S5of
 generalize htv:n.stops[0]=tv at HT1 S5of
 have hf0:0≤f.c.fuel:=by rw[hfc];exact hf0
 have hok:=HOK.out
 have hrng:Drv.Rng f.c:=by rw[hfc];exact Drv.rng_mk hok.may hok.len hok.autos hok.alts toks fuel depth
 have hval:Drv.Val f.c:=by rw[hfc];exact Drv.val_mk hok.may hok.len hok.autos toks fuel depth
 have hBEG:∀nq,Calls Try.prog 33 #[.pointer (some ⟨w3.heap.size,0,none⟩),.agg #[.int .i64 0,.int .i64 0,.int .i64 0,.int .i64 sv,.int .i64 tv,.slice none 0 0,.slice none 0 0]] (w4.drewN nq) fun e w'=>
  e= .returned (.tuple #[])∧Below w2.heap.size w2 w'∧∃v',PstAt w' f v' (Drv.beginM f.c (Drv.top0 f.c) Drv.cf0):=fun nq=>by
  have hod:Only (fun _=>False) w4 (w4.drewN nq):=⟨rfl,rfl,rfl,Nat.le_refl _,fun _ _ _=>rfl⟩
  have hbd:Below w2.heap.size w4 (w4.drewN nq):=hod.below' (fun _ e=>e.elim) (by omega)
  have h1:=beginP_any (w4.drewN nq) f ⟨.slice none 0 0,[],[]⟩ Drv.cf0 (Drv.top0 f.c) none 0 0 (hP0.still hod) rfl ⟨rfl,fun h=>absurd h (Nat.lt_irrefl 0)⟩ (Nat.le_refl _) (by rw[hf];rfl) (by decide) (Int.le_refl _) (by decide)
  rw[hfP,hfB]at h1
  have e1:(Drv.top0 f.c).state=sv:=by
   rw[←hsv,hfc]
   show n.starts.getD 0 0=n.starts[0]
   rw[List.getD_eq_getElem?_getD,List.getElem?_eq_getElem (by omega)];rfl
  have e2:(Drv.top0 f.c).over=tv:=by
   rw[←htv,hfc]
   show n.stops.getD 0 0=n.stops[0]
   rw[List.getD_eq_getElem?_getD,List.getElem?_eq_getElem (by omega)];rfl
  rw[e1,e2]at h1
  refine h1.mono ?_
  rintro e w' ⟨h3,h4,h5⟩
  exact⟨h3,hB4.trans (hbd.trans h4),h5⟩
 have HBEG:=hid hBEG
 have HS5:=hid S5of
 have HF:=hid hf
 have HFC:=hid hfc
 have HFB:=hid hfB
 have HFP:=hid hfP
 have HRNG:=hid hrng
 have HVAL:=hid hval
 have HF0:=hid hf0
 clear S5of hBEG hf hfc hfB hrng hval hpar hP0 hW4 ho4 cs3 cs4 hok HNEW HM hm3 hb3 S3of HS0 HT0 hwr hsv htv hf0
 go_region_held3 (fun w'=>w'.cell? ⟨D,1,none⟩=some (.slice (some ⟨sb,so,none⟩) n1 Sc)∧w'.cell? ⟨D,2,none⟩=some (.slice (some ⟨tb,tf,none⟩) n1 Tc)∧w'.cell? ⟨sb,so,none⟩=some (.int .i64 sv)∧w'.cell? ⟨tb,tf,none⟩=some (.int .i64 tv)) (first | assumption | exact⟨cs1,cs2,HS1,HT1⟩ | exact HS5.out _ hb5) (first | (go_simp;go_at_call 33;refine(HBEG.out 1).mono ?_;rintro e w5 ⟨rfl,hb5,v5,hP5⟩;dsimp only))
 have hbeg:=Drv.begin0 HF0.out HRNG.out (by rw[HFC.out];show 1≤n.starts.length;rw[HN1.out];exact h1)
 obtain⟨kE,hre,hke,hans⟩:=Drv.parse_sim HVAL.out HF0.out (N:=f.c.fuel.toNat+1) (by have:=HF0.out;omega)
 obtain⟨nE,hrn⟩:=hre.rn
 have hR0:ParR f kE w2 nE w5:=⟨by rw[HFB.out];exact hb5,v5,_,hP5,hbeg.1,hbeg.2.2,hbeg.2.1,hrn⟩
 have hansN:∀N:Nat,f.c.fuel<N→Drv.parseR f.c N=Drv.ansM f.c kE:=fun N hN=>by
  obtain⟨k',hr',he',ha'⟩:=Drv.parse_sim HVAL.out HF0.out (N:=N) hN
  rw[←ha',Drv.Reach.det hre hke hr' he']
 have HR0:=hid hR0
 have HANS:=hid hansN
 have HKE:=hid hke
 clear hbeg hre hke hans hrn hR0 hansN hP5 hb5 cs1 cs2 HS1 HT1
 have hlim:Lim f:=by
  rw[HF.out]
  exact⟨HOK.out.starts,HOK.out.picks,by show toks.length≤16384;rw[HTN.out];exact hlen,hf1,hd1,rfl,rfl⟩
 have hAU:∀wr:World,Below w2.heap.size w2 wr→Auts wr f au:=fun wr hb=>by
  have h2:DrvAt wr D w2.heap.size n au wd:=((HD.out.below HB2.out).more (by omega)).below hb
  rw[HF.out]
  exact h2.auts HOK.out (((HW.out.below HB2.out).more (by omega)).below hb) (by rw[HTN.out];exact hwc) hwn fuel depth
 have hst3:f.c.stops.length=f.c.starts.length:=by rw[HFC.out];exact HOK.out.stops
 have hS3:f.c.states.length≤1000000:=by rw[HFC.out];exact HOK.out.states
 have hE3:∀s∈f.c.states,s.edges.length≤1000000:=by rw[HFC.out];exact HOK.out.edges
 have HLIM:=hid hlim
 have HAU:=hid hAU
 have HST3:=hid hst3
 have HS3:=hid hS3
 have HE3:=hid hE3
 clear hlim hAU hst3 hS3 hE3
 generalize hPb:w3.heap.size=P at*
 have HPG:=hid (show w.heap.size+1<P by omega)
 go_wp2_with fail
 go_loopg [] nE (fun n wr=>Hid (ParR f kE w2 n wr))
 case atStart=>exact HR0
 case round=>
  obtain⟨hbw,v1,k1,hP,hc,hb,hs,hrec⟩:=hrel.out
  obtain⟨r,t,q,b,sv,hpar,htr⟩:=hP.par
  obtain⟨svA,svn,svm,rfl⟩:=htr.1.sl
  have c11:=(hpar.cell 17).1
  have c10:=(hpar.cell 16).1
  have z10:=(hpar.cell 16).2
  have c7:=(hpar.cell 9).1
  simp only[parCells,List.getElem?_toArray,List.getElem?_cons_succ,List.getElem?_cons_zero]at c11 c10 c7
  rw[HFP.out]at c11 c10 z10 c7
  have HPAR:=hid hpar
  have HTR:=hid htr
  have HBW:=hid hbw
  have HP:=hid hP
  have HC:=hid hc
  have HB:=hid hb
  have HS:=hid hs
  have HREC:=hid hrec
  clear hpar htr hbw hP hc hb hs hrec hrel HR0
  cases he:k1.ended with
  | false=>
   rw[he]at c11
   obtain⟨m,hm,hrn⟩:=HREC.out.next he HKE.out
   have HRN:=hid hrn
   have HE:=hid he
   clear hrn he c10 z10 c7
   go_wp2_with fail
   have hstep:=stepP_any wr f v1 k1 au HLIM.out HP.out HC.out HS.out HB.out HE.out (HAU.out wr (by have:=HBW.out;rw[HFB.out]at this;exact this)) HRNG.out HVAL.out HST3.out HS3.out HE3.out
   rw[HFP.out]at hstep
   refine hstep.mono ?_
   rintro e w6 ⟨rfl,hb6,v6,hP6⟩
   have HB6:=hid (HBW.out.trans hb6)
   have HP6:=hid hP6
   clear hb6 hP6 hstep c11
   go_wp2
   go_roundg m
   case measure=>omega
   case rel=>exact hid ⟨HB6.out,v6,_,HP6.out,HC.out.step HRNG.out HVAL.out,HB.out.step HE.out,HS.out.step HRNG.out HVAL.out HC.out,HRN.out⟩
  | true=>
   rw[he]at c11
   have hkk:=HREC.out.zero he
   subst hkk
   have HBW2:=HBW.out
   rw[HFB.out]at HBW2
   have HT8:=hid ((HBW2.block (w.heap.size) (by omega)).trans HT8.out)
   have HT9:=hid ((HBW2.block (w.heap.size+1) (by omega)).trans HT9.out)
   have HANS:=hid (fun N (hN:f.c.fuel<(N:Nat))=>HANS.out N hN)
   by_cases he0:k1.e=0
   ·by_cases hq:k1.pos=(tn:Int)
    ·rw[he0]at c10
     rw[hq]at c7
     obtain⟨d11,d12,d13,d14,d15,d3,d4,d5⟩:=ParAt.tree HPAR.out
     rw[HFP.out]at d11 d12 d13 d14 d15 d3 d4 d5
     obtain⟨⟨a0,a1,a2,a3,a4⟩,za⟩:=cells5z HT8.out
     obtain⟨⟨b0,b1,b2⟩,zb⟩:=cells3z HT9.out
     go_upto_region 16 with fail
     have hPG:=HPG.out
     have kp8:∀(u:World) (o:Nat) (x:Value) (j:Nat),(u.setCell ⟨w.heap.size,o,none⟩ x).cell? ⟨P,j,none⟩=u.cell? ⟨P,j,none⟩:=fun u o x j=>by simp only[World.cell?];rw[heap_setCell_other _ _ _ _ (show¬P=w.heap.size by omega)]
     have kp9:∀(u:World) (o:Nat) (x:Value) (j:Nat),(u.setCell ⟨w.heap.size+1,o,none⟩ x).cell? ⟨P,j,none⟩=u.cell? ⟨P,j,none⟩:=fun u o x j=>by simp only[World.cell?];rw[heap_setCell_other _ _ _ _ (show¬P=w.heap.size+1 by omega)]
     have kc9:∀(u:World) (o:Nat) (x:Value) (j:Nat),(u.setCell ⟨w.heap.size,o,none⟩ x).cell? ⟨w.heap.size+1,j,none⟩=u.cell? ⟨w.heap.size+1,j,none⟩:=fun u o x j=>by simp only[World.cell?];rw[heap_setCell_other _ _ _ _ (show¬w.heap.size+1=w.heap.size by omega)]
     have kz9:∀(u:World) (o:Nat) (x:Value) (j:Nat),(u.setCell ⟨w.heap.size,o,none⟩ x).frozen? ⟨w.heap.size+1,j,none⟩=u.frozen? ⟨w.heap.size+1,j,none⟩:=fun u o x j=>by simp only[World.frozen?];rw[heap_setCell_other _ _ _ _ (show¬w.heap.size+1=w.heap.size by omega)]
     have zd8:∀i,wr.drew.frozen? ⟨w.heap.size,i,none⟩=false:=za
     have zd9:∀i,wr.drew.frozen? ⟨w.heap.size+1,i,none⟩=false:=zb
     have e8:wr.drew.cell? ⟨w.heap.size,0,none⟩=_∧wr.drew.cell? ⟨w.heap.size,1,none⟩=_∧wr.drew.cell? ⟨w.heap.size,2,none⟩=_∧wr.drew.cell? ⟨w.heap.size,3,none⟩=_∧wr.drew.cell? ⟨w.heap.size,4,none⟩=_:=⟨a0,a1,a2,a3,a4⟩
     obtain⟨e80,e81,e82,e83,e84⟩:=e8
     have e9:wr.drew.cell? ⟨w.heap.size+1,0,none⟩=_∧wr.drew.cell? ⟨w.heap.size+1,1,none⟩=_∧wr.drew.cell? ⟨w.heap.size+1,2,none⟩=_:=⟨b0,b1,b2⟩
     obtain⟨e90,e91,e92⟩:=e9
     go_region_held3 (fun w'=>w'.cell? ⟨P,11,none⟩=some (.int .i64 r)∧w'.cell? ⟨P,12,none⟩=some (.int .i64 t)∧w'.cell? ⟨P,13,none⟩=some (.int .i64 q)∧w'.cell? ⟨P,14,none⟩=some (.bool b)∧w'.cell? ⟨P,15,none⟩=some (.slice svA svn svm)∧w'.cell? ⟨P,3,none⟩=some (.int .i64 k1.used)∧w'.cell? ⟨P,4,none⟩=some (.int .i64 k1.deep)∧w'.cell? ⟨P,5,none⟩=some (.int .i64 k1.spec)) (simp only[cell_drewX,kp8,kp9,d11,d12,d13,d14,d15,d3,d4,d5,and_self]) (fail)
     obtain⟨g8,o8⟩:=set_five HT8.out (.int .i64 r) (.int .i64 t) (.int .i64 q) (.bool b) (.slice svA svn svm)
     generalize (((((wr.setCell ⟨w.heap.size,0,none⟩ (.int .i64 r)).setCell ⟨w.heap.size,1,none⟩ (.int .i64 t)).setCell ⟨w.heap.size,2,none⟩ (.int .i64 q)).setCell ⟨w.heap.size,3,none⟩ (.bool b)).setCell ⟨w.heap.size,4,none⟩ (.slice svA svn svm))=wA at g8 o8⊢
     have hlt9:=heap_lt HT9.out
     obtain⟨g9,o9⟩:=set_three ((o8.block (w.heap.size+1) hlt9 (by show¬w.heap.size+1=w.heap.size;omega)).trans HT9.out) (.int .i64 k1.used) (.int .i64 k1.deep) (.int .i64 k1.spec)
     have g8:=(o9.block w.heap.size (heap_lt g8) (by show¬w.heap.size=w.heap.size+1;omega)).trans g8
     have oF:Only (fun j=>j=w.heap.size∨j=w.heap.size+1) wr (((wA.setCell ⟨w.heap.size+1,0,none⟩ (.int .i64 k1.used)).setCell ⟨w.heap.size+1,1,none⟩ (.int .i64 k1.deep)).setCell ⟨w.heap.size+1,2,none⟩ (.int .i64 k1.spec)):=
      (o8.more fun _ _ e=>.inl e).trans (o9.more fun _ _ e=>Or.inr e) fun _ _ e=>e
     generalize (((wA.setCell ⟨w.heap.size+1,0,none⟩ (.int .i64 k1.used)).setCell ⟨w.heap.size+1,1,none⟩ (.int .i64 k1.deep)).setCell ⟨w.heap.size+1,2,none⟩ (.int .i64 k1.spec))=wF at g8 g9 oF⊢
     have oF:Only (fun j=>j=w.heap.size∨j=w.heap.size+1) wr wF.drew:=oF.trans (w2:=wF.drew) (S':=fun _=>False) ⟨rfl,rfl,rfl,Nat.le_refl _,fun _ _ _=>rfl⟩ fun _ _ e=>e.elim
     have g8:wF.drew.heap[w.heap.size]? =_:=g8
     have g9:wF.drew.heap[w.heap.size+1]? =_:=g9
     generalize wF.drew=wF at g8 g9 oF⊢
     clear kp8 kp9 kc9 kz9 zd8 zd9 e80 e81 e82 e83 e84 e90 e91 e92 a0 a1 a2 a3 a4 b0 b1 b2 za zb d11 d12 d13 d14 d15 d3 d4 d5 o8 o9
     have hTF:TrV wF (fun j=>j<w.heap.size) k1.tree [.int .i64 r,.int .i64 t,.int .i64 q,.bool b,.slice svA svn svm]:=by
      have hfb:=HFB.out
      have h5:=HTR.out
      unfold TrB at h5
      replace h5:=h5.1
      exact TrV.only (S:=fun j=>TS f v1 j∨j<f.B0) (oF.more fun j _ e=>.inr (by rcases e with e | e <;> (rw[e];omega))) (fun j _ e=>.inr (by have e:j<w.heap.size:=e;omega)) _ _ h5
     have hTT:TopT wF (fun j=>j<w.heap.size) w.heap.size [.int .i64 r,.int .i64 t,.int .i64 q,.bool b,.slice svA svn svm]:=by
      have hfb:=HFB.out
      have h5:=HTR.out
      unfold TrB at h5
      exact h5.2.only oF (fun j hj _ e=>by rcases e with e | e <;> omega) (fun j hj _ e=>by have e:j<w.heap.size:=e;omega) (by omega)
     have HTT:=hid hTT
     have hbF:Below w.heap.size w wF:=by
      have h1:Below w.heap.size w wr:=HB2.out.trans ⟨HBW2.os,HBW2.tape,HBW2.output,HBW2.size,fun j hj=>HBW2.block j (by omega)⟩
      exact oF.below (fun j e=>by rcases e with e | e <;> (rw[e];omega)) h1 h1.size
     have HTF:=hid hTF
     have HBF:=hid hbF
     clear hTF hbF oF hTT
     go_wp2
     refine bodyPost_ret (results_cct rfl _ _ w.heap.size (w.heap.size+1) 65 70 _ _ _ _ _ _ rfl g8 Try.underlying65 rfl infoTreeP rfl g9 Try.underlying70 rfl infoStatsP) rfl ?_
     refine⟨Drv.ansM f.c k1,fun N hN=>by rw[←HFC.out];exact HANS.out N (by rw[HFC.out];exact hN),HBF.out,r,t,q,b,.slice svA svn svm,?_,?_,HTT.out⟩
     ·rw[show Drv.ansM f.c k1=⟨k1.tree,k1.used,k1.deep,k1.spec,0⟩ by
       unfold Drv.ansM
       rw[if_neg (by omega),if_neg (by rw[hq,HFC.out];show¬(tn:Int)≠(toks.length:Int);rw[HTN.out];omega)]]
      rfl
     ·rw[show Drv.ansM f.c k1=⟨k1.tree,k1.used,k1.deep,k1.spec,0⟩ by
       unfold Drv.ansM
       rw[if_neg (by omega),if_neg (by rw[hq,HFC.out];show¬(tn:Int)≠(toks.length:Int);rw[HTN.out];omega)]]
      exact HTF.out
    ·have hdq:(k1.pos==(tn:Int))=false:=by rw[beq_eq_false_iff_ne];exact hq
     rw[he0]at c10
     obtain⟨d11,d12,d13,d14,d15,d3,d4,d5⟩:=ParAt.tree HPAR.out
     rw[HFP.out]at d3 d4 d5
     have z16:=(HPAR.out.cell 16).2
     rw[HFP.out]at z16
     have hP8:=(HPAR.out.next (Only.refl (fun _=>False) _) (fun e=>e)).set (v':=⟨k1.used,k1.deep,k1.spec,v1.vo,k1.pos,(Drv.nonreal k1.opn:Nat),r,t,q,b,.slice svA svn svm,8,k1.ended⟩) 16 (.int .i64 8) rfl
     have oP8:=Only.of_set wr P 16 (.int .i64 8)
     go_upto_region 14 with fail
     rw[HFP.out]at hP8
     clear c10 z10 z16 c7 c11 hdq d11 d12 d13 d14 d15 d3 d4 d5
     generalize wr.setCell ⟨P,16,none⟩ (.int .i64 8)=wz at hP8 oP8⊢
     have hPG:=HPG.out
     have T8:=(oP8.block w.heap.size (heap_lt HT8.out) (by show¬w.heap.size=P;omega)).trans HT8.out
     have T9:=(oP8.block (w.heap.size+1) (heap_lt HT9.out) (by show¬w.heap.size+1=P;omega)).trans HT9.out
     have HWR:=hid (oP8.below (B:=w.heap.size) (fun j e=>by rw[e];omega) (HB2.out.trans ⟨HBW2.os,HBW2.tape,HBW2.output,HBW2.size,fun j hj=>HBW2.block j (by omega)⟩) (by have:=HBW2.size;omega))
     obtain⟨d11,d12,d13,d14,d15,d3,d4,d5⟩:=ParAt.tree hP8
     have c10:=(hP8.cell 16).1
     simp only[parCells,List.getElem?_toArray,List.getElem?_cons_succ,List.getElem?_cons_zero]at c10
     clear hPG hP8 oP8
     obtain⟨⟨a0,a1,a2,a3,a4⟩,za⟩:=cells5z T8
     obtain⟨⟨b0,b1,b2⟩,zb⟩:=cells3z T9
     have i0:=set_same (j:=0) (x:=.int .i64 0) T8 rfl
     have i1:=set_same (j:=1) (x:=.int .i64 0) T8 rfl
     have i2:=set_same (j:=2) (x:=.int .i64 0) T8 rfl
     have i3:=set_same (j:=3) (x:=.bool false) T8 rfl
     have i4:=set_same (j:=4) (x:=.slice none 0 0) T8 rfl
     go_upto_region 15 with fail
     have hPG:=HPG.out
     have kp9:∀(u:World) (o:Nat) (x:Value) (j:Nat),(u.setCell ⟨w.heap.size+1,o,none⟩ x).cell? ⟨P,j,none⟩=u.cell? ⟨P,j,none⟩:=fun u o x j=>by simp only[World.cell?];rw[heap_setCell_other _ _ _ _ (show¬P=w.heap.size+1 by omega)]
     have kp8:∀(u:World) (o:Nat) (x:Value) (j:Nat),(u.setCell ⟨w.heap.size+1,o,none⟩ x).cell? ⟨w.heap.size,j,none⟩=u.cell? ⟨w.heap.size,j,none⟩:=fun u o x j=>by simp only[World.cell?];rw[heap_setCell_other _ _ _ _ (show¬w.heap.size=w.heap.size+1 by omega)]
     have zd8:∀i,wz.drew.frozen? ⟨w.heap.size,i,none⟩=false:=za
     have zd9:∀i,wz.drew.frozen? ⟨w.heap.size+1,i,none⟩=false:=zb
     have e8:wz.drew.cell? ⟨w.heap.size,0,none⟩=_∧wz.drew.cell? ⟨w.heap.size,1,none⟩=_∧wz.drew.cell? ⟨w.heap.size,2,none⟩=_∧wz.drew.cell? ⟨w.heap.size,3,none⟩=_∧wz.drew.cell? ⟨w.heap.size,4,none⟩=_:=⟨a0,a1,a2,a3,a4⟩
     obtain⟨e80,e81,e82,e83,e84⟩:=e8
     have e9:wz.drew.cell? ⟨w.heap.size+1,0,none⟩=_∧wz.drew.cell? ⟨w.heap.size+1,1,none⟩=_∧wz.drew.cell? ⟨w.heap.size+1,2,none⟩=_:=⟨b0,b1,b2⟩
     obtain⟨e90,e91,e92⟩:=e9
     go_region_held3 (fun w'=>w'.cell? ⟨w.heap.size,0,none⟩=some (.int .i64 0)∧w'.cell? ⟨w.heap.size,1,none⟩=some (.int .i64 0)∧w'.cell? ⟨w.heap.size,2,none⟩=some (.int .i64 0)∧w'.cell? ⟨w.heap.size,3,none⟩=some (.bool false)∧w'.cell? ⟨w.heap.size,4,none⟩=some (.slice none 0 0)∧w'.cell? ⟨P,3,none⟩=some (.int .i64 k1.used)∧w'.cell? ⟨P,4,none⟩=some (.int .i64 k1.deep)∧w'.cell? ⟨P,5,none⟩=some (.int .i64 k1.spec)∧w'.cell? ⟨P,16,none⟩=some (.int .i64 8)) (simp only[cell_drewX,kp8,kp9,a0,a1,a2,a3,a4,d3,d4,d5,c10,and_self]) (fail)
     have oG:=(set_three T9 (.int .i64 k1.used) (.int .i64 k1.deep) (.int .i64 k1.spec)).2
     have g9:=(set_three T9 (.int .i64 k1.used) (.int .i64 k1.deep) (.int .i64 k1.spec)).1
     have g8:=(oG.block w.heap.size (heap_lt T8) (by show¬w.heap.size=w.heap.size+1;omega)).trans T8
     generalize ((wz.setCell ⟨w.heap.size+1,0,none⟩ (.int .i64 k1.used)).setCell ⟨w.heap.size+1,1,none⟩ (.int .i64 k1.deep)).setCell ⟨w.heap.size+1,2,none⟩ (.int .i64 k1.spec)=wF at oG g8 g9⊢
     have oF:Only (fun j=>j=w.heap.size∨j=w.heap.size+1) wz wF.drew:=(oG.more fun _ _ e=>Or.inr e).trans (w2:=wF.drew) (S':=fun _=>False) ⟨rfl,rfl,rfl,Nat.le_refl _,fun _ _ _=>rfl⟩ fun _ _ e=>e.elim
     have g8:wF.drew.heap[w.heap.size]? =_:=g8
     have g9:wF.drew.heap[w.heap.size+1]? =_:=g9
     generalize wF.drew=wF at g8 g9 oF⊢
     have hbF:Below w.heap.size w wF:=by
      have h1:Below w.heap.size w wz:=HWR.out
      exact oF.below (fun j e=>by rcases e with e | e <;> (rw[e];omega)) h1 h1.size
     have HBF:=hid hbF
     clear kp8 kp9 zd8 zd9 e80 e81 e82 e83 e84 e90 e91 e92 a0 a1 a2 a3 a4 b0 b1 b2 za zb d11 d12 d13 d14 d15 d3 d4 d5 i0 i1 i2 i3 i4 oG oF hbF
     go_wp2
     refine bodyPost_ret (results_cct rfl _ _ w.heap.size (w.heap.size+1) 65 70 _ _ _ _ _ _ rfl g8 Try.underlying65 rfl infoTreeP rfl g9 Try.underlying70 rfl infoStatsP) rfl ?_
     have hAns:Drv.ansM f.c k1=⟨.zero,k1.used,k1.deep,k1.spec,8⟩:=by
      unfold Drv.ansM
      rw[if_neg (by omega),if_pos (by rw[HFC.out];show k1.pos≠(toks.length:Int);rw[HTN.out];exact hq)]
     refine⟨Drv.ansM f.c k1,fun N hN=>by rw[←HFC.out];exact HANS.out N (by rw[HFC.out];exact hN),HBF.out,0,0,0,false,.slice none 0 0,?_,?_,TopT.nil _ _ _ _ _ _ _⟩
     ·rw[hAns];rfl
     ·rw[hAns]
      show TrV wF _ (.node 0 0 0 false []) _
      unfold TrV
      exact⟨none,0,[],rfl,⟨rfl,fun h=>absurd h (Nat.lt_irrefl 0)⟩,by unfold TrsV;rfl⟩
   ·have hde:(k1.e==0)=false:=by rw[beq_eq_false_iff_ne];exact he0
    obtain⟨d11,d12,d13,d14,d15,d3,d4,d5⟩:=ParAt.tree HPAR.out
    rw[HFP.out]at d3 d4 d5
    have T8:=HT8.out
    have T9:=HT9.out
    have HWR:Hid (Below w.heap.size w wr):=hid (HB2.out.trans ⟨HBW2.os,HBW2.tape,HBW2.output,HBW2.size,fun j hj=>HBW2.block j (by omega)⟩)
    obtain⟨⟨a0,a1,a2,a3,a4⟩,za⟩:=cells5z T8
    obtain⟨⟨b0,b1,b2⟩,zb⟩:=cells3z T9
    have i0:=set_same (j:=0) (x:=.int .i64 0) T8 rfl
    have i1:=set_same (j:=1) (x:=.int .i64 0) T8 rfl
    have i2:=set_same (j:=2) (x:=.int .i64 0) T8 rfl
    have i3:=set_same (j:=3) (x:=.bool false) T8 rfl
    have i4:=set_same (j:=4) (x:=.slice none 0 0) T8 rfl
    go_upto_region 15 with fail
    have hPG:=HPG.out
    have kp9:∀(u:World) (o:Nat) (x:Value) (j:Nat),(u.setCell ⟨w.heap.size+1,o,none⟩ x).cell? ⟨P,j,none⟩=u.cell? ⟨P,j,none⟩:=fun u o x j=>by simp only[World.cell?];rw[heap_setCell_other _ _ _ _ (show¬P=w.heap.size+1 by omega)]
    have kp8:∀(u:World) (o:Nat) (x:Value) (j:Nat),(u.setCell ⟨w.heap.size+1,o,none⟩ x).cell? ⟨w.heap.size,j,none⟩=u.cell? ⟨w.heap.size,j,none⟩:=fun u o x j=>by simp only[World.cell?];rw[heap_setCell_other _ _ _ _ (show¬w.heap.size=w.heap.size+1 by omega)]
    have zd8:∀i,wr.drew.frozen? ⟨w.heap.size,i,none⟩=false:=za
    have zd9:∀i,wr.drew.frozen? ⟨w.heap.size+1,i,none⟩=false:=zb
    have e8:wr.drew.cell? ⟨w.heap.size,0,none⟩=_∧wr.drew.cell? ⟨w.heap.size,1,none⟩=_∧wr.drew.cell? ⟨w.heap.size,2,none⟩=_∧wr.drew.cell? ⟨w.heap.size,3,none⟩=_∧wr.drew.cell? ⟨w.heap.size,4,none⟩=_:=⟨a0,a1,a2,a3,a4⟩
    obtain⟨e80,e81,e82,e83,e84⟩:=e8
    have e9:wr.drew.cell? ⟨w.heap.size+1,0,none⟩=_∧wr.drew.cell? ⟨w.heap.size+1,1,none⟩=_∧wr.drew.cell? ⟨w.heap.size+1,2,none⟩=_:=⟨b0,b1,b2⟩
    obtain⟨e90,e91,e92⟩:=e9
    go_region_held3 (fun w'=>w'.cell? ⟨w.heap.size,0,none⟩=some (.int .i64 0)∧w'.cell? ⟨w.heap.size,1,none⟩=some (.int .i64 0)∧w'.cell? ⟨w.heap.size,2,none⟩=some (.int .i64 0)∧w'.cell? ⟨w.heap.size,3,none⟩=some (.bool false)∧w'.cell? ⟨w.heap.size,4,none⟩=some (.slice none 0 0)∧w'.cell? ⟨P,3,none⟩=some (.int .i64 k1.used)∧w'.cell? ⟨P,4,none⟩=some (.int .i64 k1.deep)∧w'.cell? ⟨P,5,none⟩=some (.int .i64 k1.spec)∧w'.cell? ⟨P,16,none⟩=some (.int .i64 k1.e)) (simp only[cell_drewX,kp8,kp9,a0,a1,a2,a3,a4,d3,d4,d5,c10,and_self]) (fail)
    have oG:=(set_three T9 (.int .i64 k1.used) (.int .i64 k1.deep) (.int .i64 k1.spec)).2
    have g9:=(set_three T9 (.int .i64 k1.used) (.int .i64 k1.deep) (.int .i64 k1.spec)).1
    have g8:=(oG.block w.heap.size (heap_lt T8) (by show¬w.heap.size=w.heap.size+1;omega)).trans T8
    generalize ((wr.setCell ⟨w.heap.size+1,0,none⟩ (.int .i64 k1.used)).setCell ⟨w.heap.size+1,1,none⟩ (.int .i64 k1.deep)).setCell ⟨w.heap.size+1,2,none⟩ (.int .i64 k1.spec)=wF at oG g8 g9⊢
    have oF:Only (fun j=>j=w.heap.size∨j=w.heap.size+1) wr wF.drew:=(oG.more fun _ _ e=>Or.inr e).trans (w2:=wF.drew) (S':=fun _=>False) ⟨rfl,rfl,rfl,Nat.le_refl _,fun _ _ _=>rfl⟩ fun _ _ e=>e.elim
    have g8:wF.drew.heap[w.heap.size]? =_:=g8
    have g9:wF.drew.heap[w.heap.size+1]? =_:=g9
    generalize wF.drew=wF at g8 g9 oF⊢
    have hbF:Below w.heap.size w wF:=by
     have h1:Below w.heap.size w wr:=HWR.out
     exact oF.below (fun j e=>by rcases e with e | e <;> (rw[e];omega)) h1 h1.size
    have HBF:=hid hbF
    clear kp8 kp9 zd8 zd9 e80 e81 e82 e83 e84 e90 e91 e92 a0 a1 a2 a3 a4 b0 b1 b2 za zb d11 d12 d13 d14 d15 d3 d4 d5 i0 i1 i2 i3 i4 oG oF hbF
    go_wp2
    refine bodyPost_ret (results_cct rfl _ _ w.heap.size (w.heap.size+1) 65 70 _ _ _ _ _ _ rfl g8 Try.underlying65 rfl infoTreeP rfl g9 Try.underlying70 rfl infoStatsP) rfl ?_
    have hAns:Drv.ansM f.c k1=⟨.zero,k1.used,k1.deep,k1.spec,k1.e⟩:=by
     unfold Drv.ansM
     rw[if_pos he0]
    refine⟨Drv.ansM f.c k1,fun N hN=>by rw[←HFC.out];exact HANS.out N (by rw[HFC.out];exact hN),HBF.out,0,0,0,false,.slice none 0 0,?_,?_,TopT.nil _ _ _ _ _ _ _⟩
    ·rw[hAns];rfl
    ·rw[hAns]
     show TrV wF _ (.node 0 0 0 false []) _
     unfold TrV
     exact⟨none,0,[],rfl,⟨rfl,fun h=>absurd h (Nat.lt_irrefl 0)⟩,by unfold TrsV;rfl⟩
theorem parseP_any (w:World) (D:Nat) (n:Drv.NNet) (au:List (List Drv.LSt)) (wd:Int) (toks:List Int) (WA:Option Addr) (wc:Nat) (fuel:Int) (depth:Nat) (hD:DrvAt w D w.heap.size n au wd) (hok:Drv.OkNet n au)
 (hW:Reads w w.heap.size 1 WA toks.length (toks.map (Value.int .i64))) (hwc:toks.length≤wc) (hwn:WA=none→wc=0) (hlen:toks.length≤16384) (hf0:0≤fuel) (hf1:fuel≤1000000) (hd1:depth≤100000):
 Calls Try.prog 14 #[.pointer (some ⟨D,0,none⟩),.slice WA toks.length wc,.int .i64 fuel,.int .i64 (depth:Int)] w (ParseP (Drv.mkDC n au toks fuel depth) w):=
 (parseP2_any w D n au wd toks WA wc fuel depth hD hok hW hwc hwn hlen hf0 hf1 hd1).mono fun _ _ ⟨a,h1,h2,r,t,q,b,s,h3,h4,_⟩=>⟨a,h1,h2,r,t,q,b,s,h3,h4⟩
end Go.Proofs.Ytgflanlniejflaa
