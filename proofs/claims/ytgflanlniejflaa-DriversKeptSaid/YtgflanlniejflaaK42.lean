/-
  Drivers: Grt, Grt2, Grt3 (texts joined).
-/
import Derived.Test.YtgflanlniejflaaK22
import Derived.Test.YtgflanlniejflaaK39
import Derived.Test.YtgflanlniejflaaK41
namespace Go.Proofs.Ytgflanlniejflaa
open Go.RowKit
set_option maxRecDepth 100000
namespace Drv
def grA:List LSt→Int→Int
 | [],all=>all
 | s ::r,all=>if all≤400 then grA r (all+s.edges.length+s.alts.length)else all
theorem grA_cons (s:LSt) (r:List LSt) (all:Int):grA (s ::r) all=if all≤400 then grA r (all+s.edges.length+s.alts.length)else all:=rfl
def greatA (a:List LSt):Bool:=decide (400<grA a a.length) || decide (60<a.length)
theorem grA_ge:∀(l:List LSt) (all:Int),all≤grA l all
 | [],_=>Int.le_refl _
 | s ::r,all=>by
  unfold grA
  split
  ·have:=grA_ge r (all+s.edges.length+s.alts.length)
   omega
  ·exact Int.le_refl _
theorem grA_small:∀(l:List LSt) (all:Int),grA l all≤400→0≤all→∀s∈l,(s.edges.length:Int)≤400∧(s.alts.length:Int)≤400
 | [],_,_,_,_,h=>by cases h
 | s ::r,all,hg,h0,x,hx=>by
  unfold grA at hg
  split at hg
  ·have h1:=grA_ge r (all+s.edges.length+s.alts.length)
   rcases List.mem_cons.1 hx with rfl | hx
   ·omega
   ·exact grA_small r _ hg (by omega) x hx
  ·omega
theorem greatA_small {a:List LSt}(h:greatA a=false):a.length≤60∧∀s∈a,s.edges.length≤400∧s.alts.length≤400:=by
 unfold greatA at h
 simp only[Bool.or_eq_false_iff,decide_eq_false_iff_not]at h
 refine⟨by omega,fun s hs=>?_⟩
 have:=grA_small a a.length (by omega) (by omega) s hs
 omega
end Drv
def BoolP (b:Bool) (w:World) (e:Ending) (w':World):Prop:=e= .returned (.bool b)∧Below w.heap.size w w'
set_option maxHeartbeats 3200000 in
theorem autGreat_any (w:World) (a:List Drv.LSt) (A:Option Addr) (c:Nat) (h:AutR w w.heap.size A a) (hl:a.length≤100000000000000) (hs:∀s∈a,s.edges.length≤100000000000000∧s.alts.length≤100000000000000):
 Calls Try.prog 21 #[.agg #[.slice A a.length c]] w (BoolP (Drv.greatA a) w):=by
 obtain⟨n,hn⟩:∃m,a.length=m:=⟨_,rfl⟩
 obtain⟨w1,hw1⟩:∃x,x=w.alloc (.cells #[.slice A n c] 50):=⟨_,rfl⟩
 have b1:Below w.heap.size w w1:=by rw[hw1];exact below_new _ _
 have T1:w1.heap[w.heap.size]? =some (.cells #[.slice A n c] 50 (0,0)):=by rw[hw1];exact heap_alloc_new _ _
 have c0:w1.cell? ⟨w.heap.size,0,none⟩=some (.slice A n c):=by rw[Lib.cell_of_heap T1];rfl
 have hG:Drv.greatA a=(decide (400<Drv.grA a n) || decide (60<n)):=by unfold Drv.greatA;rw[hn]
 have H1:=hid h
 have HS:=hid hs
 have HB1:=hid b1
 have HW1:=hid hw1.symm
 have HG:=hid hG
 rw[hn]at hl⊢
 have HN:=hid hn
 have hl1:=heap_lt T1
 clear h b1 T1 hw1 hs hG hn
 go_enter Try.func21,Try.ntmps21
 go_upto_region 1 with fail
 rw[HW1.out]
 clear HW1
 have START:Hid (Drv.grA a n=Drv.grA (a.drop 0) (n:Int)∧(0:Int)≤(n:Int)∧(n:Int)≤300000000000000):=hid ⟨by rw[List.drop_zero],by omega,by omega⟩
 go_wp2_with fail
 go_loopw[3,4] (fun av i wr=>∃(k:Nat) (all:Int),k≤n∧av= .int .i64 all∧i= .int .i64 k∧Hid (Drv.grA a n=Drv.grA (a.drop k) all∧0≤all∧all≤300000000000000)∧Hid (Below w1.heap.size w1 wr)) (fun _ i _=>n-(intOf i).toNat)
 case atStart=>exact⟨0,n,Nat.zero_le _,rfl,rfl,START,hid (Below.refl _ _)⟩
 case round=>
  clear START
  obtain⟨k,all,hk,rfl,rfl,HK,HWR⟩:=hrel
  have c0:=(HWR.out.cell (p:=⟨w.heap.size,0,none⟩) hl1).trans c0
  have HBW:=hid (HB1.out.trans (HWR.out.mono HB1.out.size))
  have hE:=HK.out.1
  by_cases hlt:k<n
  ·have hltI:(k:Int)<(n:Int):=by omega
   have hka:k<a.length:=by rw[HN.out];exact hlt
   rw[List.drop_eq_getElem_cons hka]at hE
   by_cases hq:all≤400
   ·have hd:decide (all≤400)=true:=by rw[decide_eq_true_eq];exact hq
    obtain⟨b,off,AA,ac,EA,ec,rfl,hb,_,x1,x2,_,_⟩:=(H1.out.below HBW.out).at hka
    obtain⟨s1,s2⟩:=HS.out _ (List.getElem_mem hka)
    rw[Drv.grA_cons,if_pos hq]at hE
    have h0:=HK.out.2.1
    generalize a[k]=s at x1 x2 s1 s2 hE
    obtain⟨nA,hnA⟩:∃m,s.alts.length=m:=⟨_,rfl⟩
    obtain⟨nE,hnE⟩:∃m,s.edges.length=m:=⟨_,rfl⟩
    rw[hnA]at x1 s2 hE
    rw[hnE]at x2 s1 hE
    have e1:IntKind.i64.wrap (all+(nE:Int))=all+nE:=w64 (by omega) (by omega)
    have e2:IntKind.i64.wrap (all+(nE:Int)+(nA:Int))=all+nE+nA:=w64 (by omega) (by omega)
    have HN2:Hid (Drv.grA a n=Drv.grA (a.drop (k+1)) (all+nE+nA)∧0≤all+(nE:Int)+nA∧all+(nE:Int)+nA≤300000000000000):=hid ⟨hE,by omega,by omega⟩
    clear hE HK hnA hnE hq
    go_upto_region 5 with fail
    go_quiet (fail)
    have HW9:=hid (((Only.refl (fun _=>False) wr).none_drew nq).below (fun _ e=>e.elim) HWR.out HWR.out.size)
    clear x1 x2 c0
    generalize wr.drewN nq=w9 at HW9⊢
    go_wp2_with fail
    go_roundw
    case rel=>exact⟨k+1,_,by omega,rfl,by go_num,HN2,HW9⟩
    case measure=>simp[intOf];omega
   ·have hd:decide (all≤400)=false:=by rw[decide_eq_false_iff_not];exact hq
    rw[Drv.grA_cons,if_neg hq]at hE
    have hd2:decide (400<all)=true:=by rw[decide_eq_true_eq];omega
    have HF:Hid (Drv.greatA a=true):=hid (by rw[HG.out,hE,hd2];rfl)
    clear hE HK hq
    go_wp2_with fail
    go_ret
    exact⟨by rw[HF.out];rfl,HBW.out⟩
  ·have hkn:n=k:=by omega
   subst hkn
   have hltI:¬(n:Int)<(n:Int):=by omega
   rw[List.drop_eq_nil_of_le (by rw[HN.out];exact Nat.le_refl _)]at hE
   have hE:Drv.grA a n=all:=hE
   have HF:Hid (Drv.greatA a=(decide (400<all) || decide (60<n))):=hid (by rw[HG.out,hE])
   have h60:decide ((60:Int)<(n:Int))=decide (60<n):=by
    by_cases h:60<n
    ·rw[decide_eq_true h,decide_eq_true_eq];omega
    ·rw[decide_eq_false h,decide_eq_false_iff_not];omega
   clear hE HK
   by_cases hq:400<all
   ·have hd2:decide (400<all)=true:=by rw[decide_eq_true_eq];exact hq
    rw[hd2]at HF
    clear hq
    go_wp2_with fail
    go_ret
    exact⟨by rw[HF.out];rfl,HBW.out⟩
   ·have hd2:decide (400<all)=false:=by rw[decide_eq_false_iff_not];exact hq
    rw[hd2]at HF
    clear hq
    go_wp2_with fail
    go_ret
    exact⟨by rw[HF.out];rfl,HBW.out⟩
end Go.Proofs.Ytgflanlniejflaa
namespace Go.Proofs.Ytgflanlniejflaa
open Go.RowKit
set_option maxRecDepth 100000
namespace Drv
def grN:List NSt→Int→Int
 | [],all=>all
 | s ::r,all=>if all<9000 then grN r (all+1+s.edges.length+s.ends.length)else all
theorem grN_cons (s:NSt) (r:List NSt) (all:Int):grN (s ::r) all=if all<9000 then grN r (all+1+s.edges.length+s.ends.length)else all:=rfl
def greatN (n:NNet):Bool:=decide (4000<grN n.states ((n.starts.length:Int)+n.stops.length+n.preds.length+n.decs.length))
theorem grN_ge:∀(l:List NSt) (all:Int),all≤grN l all
 | [],_=>Int.le_refl _
 | s ::r,all=>by
  rw[grN_cons]
  split
  ·have:=grN_ge r (all+1+s.edges.length+s.ends.length)
   omega
  ·exact Int.le_refl _
theorem grN_small:∀(l:List NSt) (all:Int),grN l all≤4000→0≤all→∀s∈l,(s.edges.length:Int)≤4000∧(s.ends.length:Int)≤4000
 | [],_,_,_,_,h=>by cases h
 | s ::r,all,hg,h0,x,hx=>by
  rw[grN_cons]at hg
  split at hg
  ·have h1:=grN_ge r (all+1+s.edges.length+s.ends.length)
   rcases List.mem_cons.1 hx with rfl | hx
   ·omega
   ·exact grN_small r _ hg (by omega) x hx
  ·omega
theorem greatN_small {n:NNet}(h:greatN n=false):n.starts.length≤4000∧n.stops.length≤4000∧n.preds.length≤4000∧n.decs.length≤4000∧∀s∈n.states,s.edges.length≤4000∧s.ends.length≤4000:=by
 unfold greatN at h
 rw[decide_eq_false_iff_not]at h
 have h1:=grN_ge n.states ((n.starts.length:Int)+n.stops.length+n.preds.length+n.decs.length)
 refine⟨by omega,by omega,by omega,by omega,fun s hs=>?_⟩
 have:=grN_small n.states ((n.starts.length:Int)+n.stops.length+n.preds.length+n.decs.length) (by omega) (by omega) s hs
 omega
end Drv
set_option maxHeartbeats 3200000 in
theorem netGreat_any (w:World) (n:Drv.NNet) (SA TA UA QA DA:Option Addr) (sc tc uc qc dc:Nat) (h:NetR w w.heap.size SA TA UA QA DA n) (hS:n.states.length≤100000000000000) (hT:n.starts.length≤100000000000000) (hU:n.stops.length≤100000000000000) (hQ:n.preds.length≤100000000000000) (hD:n.decs.length≤100000000000000)
 (hs:∀s∈n.states,s.edges.length≤100000000000000∧s.ends.length≤100000000000000):
 Calls Try.prog 20 #[netAgg SA TA UA QA DA sc tc uc qc dc n] w (BoolP (Drv.greatN n) w):=by
 have hG:Drv.greatN n=decide (4000<Drv.grN n.states ((n.starts.length:Int)+n.stops.length+n.preds.length+n.decs.length)):=rfl
 unfold netAgg
 obtain⟨nS,hnS⟩:∃m,n.states.length=m:=⟨_,rfl⟩
 obtain⟨nT,hnT⟩:∃m,n.starts.length=m:=⟨_,rfl⟩
 obtain⟨nU,hnU⟩:∃m,n.stops.length=m:=⟨_,rfl⟩
 obtain⟨nQ,hnQ⟩:∃m,n.preds.length=m:=⟨_,rfl⟩
 obtain⟨nD,hnD⟩:∃m,n.decs.length=m:=⟨_,rfl⟩
 rw[hnS,hnT,hnU,hnQ,hnD]
 rw[hnT,hnU,hnQ,hnD]at hG
 rw[hnS]at hS
 rw[hnT]at hT
 rw[hnU]at hU
 rw[hnQ]at hQ
 rw[hnD]at hD
 obtain⟨w1,hw1⟩:∃x,x=w.alloc (.cells #[.slice SA nS sc,.slice TA nT tc,.slice UA nU uc,.slice QA nQ qc,.slice DA nD dc] 25):=⟨_,rfl⟩
 have b1:Below w.heap.size w w1:=by rw[hw1];exact below_new _ _
 have T1:w1.heap[w.heap.size]? =some (.cells #[.slice SA nS sc,.slice TA nT tc,.slice UA nU uc,.slice QA nQ qc,.slice DA nD dc] 25 (0,0)):=by rw[hw1];exact heap_alloc_new _ _
 have c0:w1.cell? ⟨w.heap.size,0,none⟩=some (.slice SA nS sc):=by rw[Lib.cell_of_heap T1];rfl
 have c1:w1.cell? ⟨w.heap.size,1,none⟩=some (.slice TA nT tc):=by rw[Lib.cell_of_heap T1];rfl
 have c2:w1.cell? ⟨w.heap.size,2,none⟩=some (.slice UA nU uc):=by rw[Lib.cell_of_heap T1];rfl
 have c3:w1.cell? ⟨w.heap.size,3,none⟩=some (.slice QA nQ qc):=by rw[Lib.cell_of_heap T1];rfl
 have c4:w1.cell? ⟨w.heap.size,4,none⟩=some (.slice DA nD dc):=by rw[Lib.cell_of_heap T1];rfl
 have e1:IntKind.i64.wrap ((nT:Int)+nU)=(nT:Int)+nU:=w64 (by omega) (by omega)
 have e2:IntKind.i64.wrap ((nT:Int)+nU+nQ)=(nT:Int)+nU+nQ:=w64 (by omega) (by omega)
 have e3:IntKind.i64.wrap ((nT:Int)+nU+nQ+nD)=(nT:Int)+nU+nQ+nD:=w64 (by omega) (by omega)
 have H1:=hid h.sts
 have HS:=hid hs
 have HB1:=hid b1
 have HW1:=hid hw1.symm
 have hl1:=heap_lt T1
 have HN:=hid hnS
 obtain⟨a0,ha0⟩:∃a0:Int,(nT:Int)+nU+nQ+nD=a0:=⟨_,rfl⟩
 rw[ha0]at e3 hG
 have hb0:0≤a0∧a0≤400000000000000:=by omega
 have HG:=hid hG
 have HA0:=hid ha0
 have START:Hid (Drv.grN n.states a0=Drv.grN (n.states.drop 0) a0∧0≤a0∧a0≤900000000000000):=hid ⟨by rw[List.drop_zero],by omega,by omega⟩
 clear h b1 T1 hw1 hs hG hnS hnT hnU hnQ hnD ha0 hb0
 go_enter Try.func20,Try.ntmps20
 go_upto_region 1 with fail
 rw[HW1.out]
 clear HW1
 go_wp2_with fail
 clear c1 c2 c3 c4 e1 e2 e3
 go_loopw[3,4] (fun av i wr=>∃(k:Nat) (all:Int),k≤nS∧av= .int .i64 all∧i= .int .i64 k∧Hid (Drv.grN n.states a0=Drv.grN (n.states.drop k) all∧0≤all∧all≤900000000000000)∧Hid (Below w1.heap.size w1 wr)) (fun _ i _=>nS-(intOf i).toNat)
 case atStart=>exact⟨0,a0,Nat.zero_le _,by rw[HA0.out],rfl,START,hid (Below.refl _ _)⟩
 case round=>
  clear START
  obtain⟨k,all,hk,rfl,rfl,HK,HWR⟩:=hrel
  have c0:=(HWR.out.cell (p:=⟨w.heap.size,0,none⟩) hl1).trans c0
  have HBW:=hid (HB1.out.trans (HWR.out.mono HB1.out.size))
  have hE:=HK.out.1
  by_cases hlt:k<nS
  ·have hltI:(k:Int)<(nS:Int):=by omega
   have hka:k<n.states.length:=by rw[HN.out];exact hlt
   rw[List.drop_eq_getElem_cons hka]at hE
   by_cases hq:all<9000
   ·have hd:decide (all<9000)=true:=by rw[decide_eq_true_eq];exact hq
    obtain⟨b,off,EA,ec,XA,xc,rfl,hb,_,x1,x2,_,_⟩:=(H1.out.below HBW.out).at hka
    obtain⟨s1,s2⟩:=HS.out _ (List.getElem_mem hka)
    rw[Drv.grN_cons,if_pos hq]at hE
    have h0:=HK.out.2.1
    generalize n.states[k]=s at x1 x2 s1 s2 hE
    obtain⟨nX,hnX⟩:∃m,s.ends.length=m:=⟨_,rfl⟩
    obtain⟨nE,hnE⟩:∃m,s.edges.length=m:=⟨_,rfl⟩
    rw[hnX]at x2 s2 hE
    rw[hnE]at x1 s1 hE
    have e0:IntKind.i64.wrap (all+1)=all+1:=w64 (by omega) (by omega)
    have e1:IntKind.i64.wrap (all+1+(nE:Int))=all+1+nE:=w64 (by omega) (by omega)
    have e2:IntKind.i64.wrap (all+1+(nE:Int)+(nX:Int))=all+1+nE+nX:=w64 (by omega) (by omega)
    have HN2:Hid (Drv.grN n.states a0=Drv.grN (n.states.drop (k+1)) (all+1+nE+nX)∧0≤all+1+(nE:Int)+nX∧all+1+(nE:Int)+nX≤900000000000000):=hid ⟨hE,by omega,by omega⟩
    clear hE HK hnX hnE hq
    go_upto_region 5 with fail
    go_quiet (fail)
    have HW9:=hid (((Only.refl (fun _=>False) wr).none_drew nq).below (fun _ e=>e.elim) HWR.out HWR.out.size)
    clear x1 x2 c0
    generalize wr.drewN nq=w9 at HW9⊢
    go_wp2_with fail
    go_roundw
    case rel=>exact⟨k+1,_,by omega,rfl,by go_num,HN2,HW9⟩
    case measure=>simp[intOf];omega
   ·have hd:decide (all<9000)=false:=by rw[decide_eq_false_iff_not];exact hq
    rw[Drv.grN_cons,if_neg hq]at hE
    have hd2:decide (4000<all)=true:=by rw[decide_eq_true_eq];omega
    have HF:Hid (Drv.greatN n=decide (4000<all)):=hid (by rw[HG.out,hE])
    clear hE HK hq
    go_wp2_with fail
    go_ret
    exact⟨by rw[HF.out,hd2];rfl,HBW.out⟩
  ·have hkn:nS=k:=by omega
   subst hkn
   have hltI:¬(nS:Int)<(nS:Int):=by omega
   rw[List.drop_eq_nil_of_le (by rw[HN.out];exact Nat.le_refl _)]at hE
   have hE:Drv.grN n.states a0=all:=hE
   have HF:Hid (Drv.greatN n=decide (4000<all)):=hid (by rw[HG.out,hE])
   clear hE HK
   go_wp2_with fail
   go_ret
   exact⟨by rw[HF.out];rfl,HBW.out⟩
end Go.Proofs.Ytgflanlniejflaa
namespace Go.Proofs.Ytgflanlniejflaa
open Go.RowKit
set_option maxRecDepth 100000
namespace Drv
def great21 (n:NNet) (au:List (List LSt)):Bool:=greatN n || decide (200<n.states.length) || decide (12<n.starts.length) || decide (100<au.length) || au.any greatA
structure Few (n:NNet) (au:List (List LSt)):Prop where
 net:greatN n=false
 states:n.states.length≤200
 starts:n.starts.length≤12
 autos:au.length≤100
 each:∀a∈au,greatA a=false
theorem few_of {n:NNet}{au:List (List LSt)}(h:great21 n au=false):Few n au:=by
 unfold great21 at h
 simp only[Bool.or_eq_false_iff,decide_eq_false_iff_not,List.any_eq_false]at h
 exact⟨h.1.1.1.1,by omega,by omega,by omega,fun a ha=>by simpa using h.2 a ha⟩
end Drv
set_option maxHeartbeats 3200000 in
theorem great21_any (w:World) (n:Drv.NNet) (SA TA UA QA DA AA:Option Addr) (sc tc uc qc dc ac:Nat) (au:List (List Drv.LSt)) (h:NetR w w.heap.size SA TA UA QA DA n) (ha:AusR w w.heap.size AA au) (hS:n.states.length≤100000000000000) (hT:n.starts.length≤100000000000000) (hU:n.stops.length≤100000000000000) (hQ:n.preds.length≤100000000000000) (hD:n.decs.length≤100000000000000)
 (hs:∀s∈n.states,s.edges.length≤100000000000000∧s.ends.length≤100000000000000) (hL:au.length≤100000000000000) (hau:∀a∈au,a.length≤100000000000000∧∀s∈a,s.edges.length≤100000000000000∧s.alts.length≤100000000000000):
 Calls Try.prog 6 #[netAgg SA TA UA QA DA sc tc uc qc dc n,.slice AA au.length ac] w (BoolP (Drv.great21 n au) w):=by
 obtain⟨nS,hnS⟩:∃m,n.states.length=m:=⟨_,rfl⟩
 obtain⟨nT,hnT⟩:∃m,n.starts.length=m:=⟨_,rfl⟩
 obtain⟨nU,hnU⟩:∃m,n.stops.length=m:=⟨_,rfl⟩
 obtain⟨nQ,hnQ⟩:∃m,n.preds.length=m:=⟨_,rfl⟩
 obtain⟨nD,hnD⟩:∃m,n.decs.length=m:=⟨_,rfl⟩
 obtain⟨nL,hnL⟩:∃m,au.length=m:=⟨_,rfl⟩
 obtain⟨w1,hw1⟩:∃x,x=w.alloc (.cells #[.slice SA nS sc,.slice TA nT tc,.slice UA nU uc,.slice QA nQ qc,.slice DA nD dc] 25):=⟨_,rfl⟩
 have b1:Below w.heap.size w w1:=by rw[hw1];exact below_new _ _
 have T1:w1.heap[w.heap.size]? =some (.cells #[.slice SA nS sc,.slice TA nT tc,.slice UA nU uc,.slice QA nQ qc,.slice DA nD dc] 25 (0,0)):=by rw[hw1];exact heap_alloc_new _ _
 have HM:=hid (netGreat_any w1 n SA TA UA QA DA sc tc uc qc dc (h.up b1 b1.size) hS hT hU hQ hD hs)
 have hl1:=heap_lt T1
 have CN:=hid (fun(w':World) (hb:Below w1.heap.size w1 w')=>(show w'.cell? ⟨w.heap.size,0,none⟩=some (.slice SA nS sc)∧w'.cell? ⟨w.heap.size,1,none⟩=some (.slice TA nT tc)∧w'.cell? ⟨w.heap.size,2,none⟩=some (.slice UA nU uc)∧w'.cell? ⟨w.heap.size,3,none⟩=some (.slice QA nQ qc)∧w'.cell? ⟨w.heap.size,4,none⟩=some (.slice DA nD dc)from by
  have T:=(hb.block _ hl1).trans T1
  refine⟨?_,?_,?_,?_,?_⟩ <;> (rw[Lib.cell_of_heap T];rfl)))
 have hG:Drv.great21 n au=(Drv.greatN n || decide (200<nS) || decide (12<nT) || decide (100<nL) || au.any Drv.greatA):=by unfold Drv.great21;rw[hnS,hnT,hnL]
 unfold netAgg at HM⊢
 rw[hnS,hnT,hnU,hnQ,hnD]at HM⊢
 rw[hnL]at hL⊢
 have HW1:=hid hw1.symm
 have HB1:=hid b1
 have HA:=hid ha
 have HAU:=hid hau
 have HNL:=hid hnL
 have HG:=hid hG
 clear h hs ha hau hw1 b1 T1 hnS hnT hnU hnQ hnD hnL hG
 obtain⟨cn0,cn1,cn2,cn3,cn4⟩:=CN.out w1 (Below.refl _ _)
 go_enter Try.func6,Try.ntmps6
 go_upto_region 1 with fail
 rw[HW1.out]
 clear HW1
 go_wp2_with fail
 refine HM.out.mono ?_
 rintro e w2 ⟨rfl,hb2⟩
 have HB12:=hid hb2
 have HB2:=hid (HB1.out.trans (hb2.mono HB1.out.size))
 clear hb2 cn0 cn1 cn2 cn3 cn4 HM
 obtain⟨cn0,cn1,cn2,cn3,cn4⟩:=CN.out w2 HB12.out
 cases hg:Drv.greatN n with
 | true=>
  dsimp only
  have HF:Hid (Drv.great21 n au=true):=hid (by rw[HG.out,hg];simp)
  clear hg
  go_wp2_with fail
  go_ret
  exact⟨by rw[HF.out];rfl,HB2.out⟩
 | false=>
  dsimp only
  by_cases q1:200<nS
  ·have d1n:decide (200<nS)=true:=by rw[decide_eq_true_eq];exact q1
   have d1i:decide ((200:Int)<(nS:Int))=true:=by rw[decide_eq_true_eq];omega
   have HF:Hid (Drv.great21 n au=true):=hid (by rw[HG.out,d1n];simp)
   clear hg q1
   go_wp2_with fail
   go_ret
   exact⟨by rw[HF.out];rfl,HB2.out⟩
  ·have d1n:decide (200<nS)=false:=by rw[decide_eq_false_iff_not];exact q1
   have d1i:decide ((200:Int)<(nS:Int))=false:=by rw[decide_eq_false_iff_not];omega
   by_cases q2:12<nT
   ·have d2n:decide (12<nT)=true:=by rw[decide_eq_true_eq];exact q2
    have d2i:decide ((12:Int)<(nT:Int))=true:=by rw[decide_eq_true_eq];omega
    have HF:Hid (Drv.great21 n au=true):=hid (by rw[HG.out,d2n];simp)
    clear hg q1 q2
    go_wp2_with fail
    go_ret
    exact⟨by rw[HF.out];rfl,HB2.out⟩
   ·have d2n:decide (12<nT)=false:=by rw[decide_eq_false_iff_not];exact q2
    have d2i:decide ((12:Int)<(nT:Int))=false:=by rw[decide_eq_false_iff_not];omega
    by_cases q3:100<nL
    ·have d3n:decide (100<nL)=true:=by rw[decide_eq_true_eq];exact q3
     have d3i:decide ((100:Int)<(nL:Int))=true:=by rw[decide_eq_true_eq];omega
     have HF:Hid (Drv.great21 n au=true):=hid (by rw[HG.out,d3n];simp)
     clear hg q1 q2 q3
     go_wp2_with fail
     go_ret
     exact⟨by rw[HF.out];rfl,HB2.out⟩
    ·have d3n:decide (100<nL)=false:=by rw[decide_eq_false_iff_not];exact q3
     have d3i:decide ((100:Int)<(nL:Int))=false:=by rw[decide_eq_false_iff_not];omega
     have HG2:Hid (Drv.great21 n au=au.any Drv.greatA):=hid (by rw[HG.out,hg,d1n,d2n,d3n];simp)
     clear hg q1 q2 q3 HG
     go_wp2_with fail
     go_loopw[5] (fun i wr=>∃k:Nat,k≤nL∧i= .int .i64 k∧Hid (Below w.heap.size w wr∧∀j (h:j<au.length),j<k→Drv.greatA au[j]=false)) (fun i _=>nL-(intOf i).toNat)
     case atStart=>exact⟨0,Nat.zero_le _,rfl,hid ⟨HB2.out,fun _ _ h=>absurd h (Nat.not_lt_zero _)⟩⟩
     case round=>
      obtain⟨k,hk,rfl,HK⟩:=hrel
      clear cn0 cn1 cn2 cn3 cn4 d1n d1i d2n d2i d3n d3i
      have HBW:=hid HK.out.1
      by_cases hlt:k<nL
      ·have hltI:(k:Int)<(nL:Int):=by omega
       have hka:k<au.length:=by rw[HNL.out];exact hlt
       obtain⟨vs,g1,g2⟩:=HA.out.up HBW.out HBW.out.size
       obtain⟨ab,ao,rfl,hab,ca⟩:=g1.2 (by omega)
       obtain⟨Ai,ci,e1,e2⟩:=g2 k hka
       have y1:=ca k _ e1
       have HC:=hid (autGreat_any wr au[k] Ai ci e2 (HAU.out _ (List.getElem_mem hka)).1 (HAU.out _ (List.getElem_mem hka)).2)
       have HNX:=hid (fun(h:Drv.greatA au[k]=false)=>(show∀j (h:j<au.length),j<k+1→Drv.greatA au[j]=false from fun j hj hjk=>by
        rcases Nat.lt_succ_iff_lt_or_eq.1 hjk with h1 | rfl
        ·exact HK.out.2 j hj h1
        ·exact h))
       have HYS:=hid (fun(h:Drv.greatA au[k]=true)=>(show au.any Drv.greatA=true from List.any_eq_true.2 ⟨_,List.getElem_mem hka,h⟩))
       obtain⟨ak,hak⟩:∃x,au[k]=x:=⟨_,rfl⟩
       rw[hak]at y1 HC HNX HYS
       clear g1 g2 ca e1 e2 hak HK
       go_wp2_with fail
       refine HC.out.mono ?_
       rintro e w3 ⟨rfl,hb3⟩
       have HB3:=hid (HBW.out.trans (hb3.mono HBW.out.size))
       clear hb3 HC y1
       cases hx:Drv.greatA ak with
       | true=>
        have HF:Hid (Drv.great21 n au=true):=hid (by rw[HG2.out];exact HYS.out hx)
        clear hx
        dsimp only
        go_wp2_with fail
        go_ret
        exact⟨by rw[HF.out];rfl,HB3.out⟩
       | false=>
        have HN:=hid (HNX.out hx)
        clear hx
        dsimp only
        go_wp2_with fail
        go_roundw
        case rel=>exact⟨k+1,by omega,by go_num,hid ⟨HB3.out,HN.out⟩⟩
        case measure=>simp[intOf];omega
      ·have hkn:nL=k:=by omega
       subst hkn
       have hltI:¬(nL:Int)<(nL:Int):=by omega
       have HF:Hid (Drv.great21 n au=false):=hid (by
        rw[HG2.out,List.any_eq_false]
        intro x hx
        obtain⟨j,hj,rfl⟩:=List.mem_iff_getElem.1 hx
        rw[HK.out.2 j hj (by rw[←HNL.out];exact hj)]
        decide)
       clear HK
       go_wp2_with fail
       go_ret
       exact⟨by rw[HF.out];rfl,HBW.out⟩
end Go.Proofs.Ytgflanlniejflaa
