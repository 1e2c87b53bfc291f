/-
  Drivers: Rf7, Rdm (texts joined).
-/
import Derived.Test.YtgflanlniejflaaK22
import Derived.Test.YtgflanlniejflaaK24
namespace Go.Proofs.Ytgflanlniejflaa
open Go.RowKit Go.Maps
open Go.Sort (grow)
set_option maxRecDepth 100000
theorem RWalkP.shut {f:Rf}{kv:Value}{opn opn':Int}{r:List Drv.Tr×Int×Drv.PS}{w w0 w1:World}{A:Option Addr}{c:Nat}{kv':Value}{xs:List Value}(hA:RpAt w1 f kv' opn r.2.2) (ho:RO w1 (fun k=>RT f kv' k∨k<w.heap.size) 5 A r.1.length xs) (ht:TrsV w1 (fun k=>RT f kv' k∨k<w.heap.size) r.1 xs)
 (hw:Only (RT f kv) w0 w) (h1:Only (RT f kv) w w1) (hn:∀k,kv'.ownBlock=some k→kv.ownBlock=some k∨w.heap.size≤k) (x:Int) (hx:(rfCells f opn r.2.2 kv').setIfInBounds 4 (.int .i64 x)=rfCells f opn' r.2.2 kv'):
 RWalkP f kv opn' r w0 (.returned (.tuple #[.slice A r.1.length c,.int .i64 r.2.1])) (w1.setCell ⟨f.P,4,none⟩ (.int .i64 x)):=by
 have h2:=hA.set (opn':=opn') (p':=r.2.2) 4 (.int .i64 x) hx rfl
 have ho2:=Only.of_set w1 f.P 4 (.int .i64 x)
 have hS:∀b,b<w1.heap.size→(RT f kv' b∨b<w0.heap.size)→(RT f kv' b∨b<w.heap.size):=fun b _ e=>e.imp id fun e=>Nat.lt_of_lt_of_le e hw.size
 have ho3:Only (fun k=>RT f kv' k∨k<w.heap.size) w1 (w1.setCell ⟨f.P,4,none⟩ (.int .i64 x)):=ho2.more fun _ _ e=>.inl (.inl e)
 have h01:=hw.trans h1 fun _ _ e=>e
 refine⟨A,c,kv',xs,rfl,h2,ho.only ho3 hS,TrsV.only ho3 hS _ _ ht,h01.trans (ho2.more (S':=RT f kv) fun _ _ e=>.inl e) fun _ _ e=>e,fun k e=>(hn k e).imp id fun e=>Nat.le_trans hw.size e⟩
set_option maxHeartbeats 3200000 in
theorem rwalk_zero (f:Rf) (n:Drv.NNet) (au:List (List Drv.LSt)) (N:Nat):RWalkC f n au N 0:=by
 intro w kv st ov pos real p h _ _ _ _ _ _
 have c3:=(h.cell 3).1
 have c4:=(h.cell 4).1
 simp only[rfCells,List.getElem?_toArray,List.getElem?_cons_succ,List.getElem?_cons_zero]at c3 c4
 obtain⟨dp,hdp⟩:∃dp:Int,(f.c.depth:Int)-(0:Nat)=dp:=⟨_,rfl⟩
 have hb:decide ((f.c.depth:Int)≤dp)=true:=by rw[decide_eq_true_eq];omega
 rw[hdp]at h c4⊢
 have hw0:Drv.walkF f.c N 0 st ov pos real p=([],-1,{p with err:=7}):=rfl
 rw[hw0]
 have H:=hid h
 clear h hdp hw0
 go_enter Try.func31,Try.ntmps31
 go_upto_region 1 with fail
 go_quiet (fail)
 have ho1:=(Only.refl (fun _=>False) w).none_drew nq
 have h1:=H.out.only ho1 (fun _ _ e=>e)
 generalize w.drewN nq=w1 at ho1 h1⊢
 clear c3 c4
 have c9:=(h1.cell 9).1
 have z9:=(h1.cell 9).2
 simp only[rfCells,List.getElem?_toArray,List.getElem?_cons_succ,List.getElem?_cons_zero]at c9
 have HF:Hid (RWalkP f kv dp ([],-1,{p with err:=7}) w (.returned (.tuple #[.slice none 0 0,.int .i64 (-1)])) (w1.setCell ⟨f.P,9,none⟩ (.int .i64 7))):=hid
  ⟨none,0,kv,[],rfl,h1.set 9 (.int .i64 7) rfl rfl,⟨rfl,fun e=>absurd e (Nat.lt_irrefl 0)⟩,by unfold TrsV;rfl,(ho1.more (S':=RT f kv) fun _ _ e=>e.elim).trans ((Only.of_set w1 f.P 9 (.int .i64 7)).more (S':=RT f kv) fun _ _ e=>.inl e) fun _ _ e=>e,fun _ e=>.inl e⟩
 clear h1 ho1 H
 go_wp2_with fail
 go_ret2
 exact HF.out
set_option maxHeartbeats 3200000 in
theorem rwalk_succ (f:Rf) (n:Drv.NNet) (au:List (List Drv.LSt)) (N d:Nat) (ih:RWalkC f n au N d) (hd:d+1≤f.c.depth) (hN:f.c.fuel<N):RWalkC f n au N (d+1):=by
 intro w kv st ov pos real p h hst h1 _ hp h0 hl
 rw[Drv.walkF_succ]
 have c3:=(h.cell 3).1
 have c4:=(h.cell 4).1
 simp only[rfCells,List.getElem?_toArray,List.getElem?_cons_succ,List.getElem?_cons_zero]at c3 c4
 have hde:=hst.depth
 obtain⟨dp,hdp⟩:∃dp:Int,(f.c.depth:Int)-((d+1:Nat):Int)=dp:=⟨_,rfl⟩
 have hb:decide ((f.c.depth:Int)≤dp)=false:=by rw[decide_eq_false_iff_not];omega
 have hdp1:(f.c.depth:Int)-d=dp+1:=by omega
 have hdp0:0≤dp∧dp≤100000:=by omega
 obtain⟨hdp0,hdp9⟩:=hdp0
 have ew:IntKind.i64.wrap (dp+1)=dp+1:=w64 (by omega) (by omega)
 have ew2:IntKind.i64.wrap (dp+1-1)=dp:=by rw[w64 (by omega) (by omega)];omega
 rw[hdp]at h c4⊢
 have hC:=fun(w1:World) (p1:Drv.PS) (g1:RpAt w1 f kv ((f.c.depth:Int)-d) p1) (g2:RSta w1 f n au) (g3:Drv.POk f.c p1)=>rway_any f n au N d ih (by omega) hN w1 kv st ov pos real p1 g1 g2 h1 g3 h0 hl
 have hPl:=heap_lt h.blk
 have HC:=hid hC
 have H:=hid h
 have HST:=hid hst
 have HDP1:=hid hdp1
 have hdeep0:=hp.deep0
 have hdeep1:=hp.deep1
 have hmx:max p.deep ((f.c.depth:Int)-d)=max p.deep (dp+1):=by rw[hdp1]
 rw[hmx]
 have HP:Hid (Drv.POk f.c {p with deep:=max p.deep (dp+1)}):=hid ⟨hp.used0,hp.used1,hp.kn,hp.few,hp.spec0,hp.spec1,by show 0≤max p.deep (dp+1);omega,by show max p.deep (dp+1)≤_;omega⟩
 clear h hst ih hC hdp hdp1 hmx hp h1
 go_enter Try.func31,Try.ntmps31
 go_upto_region 1 with fail
 go_quiet (fail)
 have ho1:=(Only.refl (fun _=>False) w).none_drew nq
 have g1:=H.out.only ho1 (fun _ _ e=>e)
 generalize w.drewN nq=w1 at ho1 g1⊢
 clear c3 c4
 have c4:=(g1.cell 4).1
 have z4:=(g1.cell 4).2
 simp only[rfCells,List.getElem?_toArray,List.getElem?_cons_succ,List.getElem?_cons_zero]at c4
 have g2:=g1.set (opn':=dp+1) (p':=p) 4 (.int .i64 (dp+1)) rfl rfl
 have ho2:=Only.of_set w1 f.P 4 (.int .i64 (dp+1))
 have HO2:=hid ((ho1.more (S':=RT f kv) fun _ _ e=>e.elim).trans (ho2.more (S':=RT f kv) fun _ _ e=>.inl e) fun _ _ e=>e)
 go_upto_region 5 with fail
 clear c4 z4 g1 ho1 ho2
 generalize w1.setCell ⟨f.P,4,none⟩ (.int .i64 (dp+1))=w2 at g2 HO2⊢
 refine still_tail 14 (by kernel_rfl) (by kernel_rfl) ?_
 intro w3 HW3
 have ho3:Only (fun _=>False) w2 w3:=by rw[HW3.out];exact⟨rfl,rfl,rfl,Nat.le_refl _,fun _ _ _=>rfl⟩
 clear HW3
 have g3:=g2.only ho3 fun _ _ e=>e
 have HO3:=hid (HO2.out.trans (ho3.more (S':=RT f kv) fun _ _ e=>e.elim) fun _ _ e=>e)
 have c4:=(g3.cell 4).1
 have c6:=(g3.cell 6).1
 have z6:=(g3.cell 6).2
 simp only[rfCells,List.getElem?_toArray,List.getElem?_cons_succ,List.getElem?_cons_zero]at c4 c6
 clear g2 ho3 HO2
 simp only[List.take_succ_cons,List.take_zero,List.drop_succ_cons,List.drop_zero]
 repeat still_step
 refine wpStill_nil ?_
 have g4:=g3.set (opn':=dp+1) (p':={p with deep:=max p.deep (dp+1)}) 6 (.int .i64 (max p.deep (dp+1))) rfl rfl
 have ho4:=Only.of_set w3 f.P 6 (.int .i64 (max p.deep (dp+1)))
 have HO4:=hid (HO3.out.trans (ho4.more (S':=RT f kv) fun _ _ e=>.inl e) fun _ _ e=>e)
 have hst4:=HST.out.below (H.out.below HO4.out fun j e=>(H.out.lt j e).1)
 obtain⟨r,hr⟩:∃r,Drv.wayL f.c (Drv.walkF f.c N d) (Drv.lookF f.c N d) N st ov pos real [] {p with deep:=max p.deep (dp+1)}=r:=⟨_,rfl⟩
 have hC4:=HC.out _ _ (by rw[HDP1.out];exact g4) hst4 HP.out
 rw[hr,HDP1.out]at hC4
 have HR:=hid hr
 have HC4:=hid hC4
 clear hr HC HST H HDP1 HP hst4 hC4 g3 ho4 g4 HO3
 go_upto_region 6 with fail
 clear c4 c6 z6
 generalize w3.setCell ⟨f.P,6,none⟩ (.int .i64 (max p.deep (dp+1)))=w4 at HC4 HO4⊢
 go_wp2_with fail
 refine HC4.out.mono ?_
 rintro e w5 ⟨A,c,kv',xs,rfl,hA,ho,ht,h1,hn⟩
 have c4:=(hA.cell 4).1
 have z4:=(hA.cell 4).2
 simp only[rfCells,List.getElem?_toArray,List.getElem?_cons_succ,List.getElem?_cons_zero]at c4
 have HF:=hid (RWalkP.shut (c:=c) (w0:=w) (opn':=dp) hA ho ht HO4.out h1 hn dp rfl)
 have HF2:Hid (RWalkP f kv dp (Drv.wayL f.c (Drv.walkF f.c N d) (Drv.lookF f.c N d) N st ov pos real [] {p with deep:=max p.deep (dp+1)}) w (.returned (.tuple #[.slice A r.1.length c,.int .i64 r.2.1])) (w5.setCell ⟨f.P,4,none⟩ (.int .i64 dp))):=hid (by rw[HR.out];exact HF.out)
 generalize r.1.length=rl at HF2⊢
 generalize r.2.1=rp at HF2⊢
 clear hA ho ht h1 hn HC4 HO4 HF HR
 go_wp2_with fail
 go_ret2
 exact HF2.out
theorem rwalk_all (f:Rf) (n:Drv.NNet) (au:List (List Drv.LSt)) (N:Nat) (hN:f.c.fuel<N):∀d:Nat,d≤f.c.depth→RWalkC f n au N d
 | 0,_=>rwalk_zero f n au N
 | d+1,hd=>rwalk_succ f n au N d (rwalk_all f n au N hN d (by omega)) hd hN
end Go.Proofs.Ytgflanlniejflaa
namespace Go.Proofs.Ytgflanlniejflaa
open Go.RowKit
theorem RDrv.more {w:World}{D B B':Nat}{n:Drv.NNet}{au:List (List Drv.LSt)}(h:RDrv w D B n au) (hB:B≤B'):RDrv w D B' n au:=by
 obtain⟨A,c,h1,h2⟩:=h.states
 obtain⟨A',c',vs,g1,g2,g3⟩:=h.autos
 have hd:=h.dlt
 refine⟨by omega,⟨A,c,h1,h2.more hB⟩,h.starts.more hB,h.stops.more hB,h.preds.more hB,h.decs.more hB,⟨A',c',vs,g1,g2.more hB,fun i hi=>?_⟩⟩
 obtain⟨Ai,ci,e1,e2⟩:=g3 i hi
 exact⟨Ai,ci,e1,e2.more hB⟩
end Go.Proofs.Ytgflanlniejflaa
