/-
  Drivers: Any, AnyProof (texts joined).
-/
import Derived.ProofKit
import Derived.Carry
import Derived.Lib.SmallJoins
import Derived.Test.YtgflanlniejflaaA42
import Derived.Test.YtgflanlniejflaaA45
import Derived.Test.YtgflanlniejflaaA46
import Derived.Test.YtgflanlniejflaaA48
import Derived.Test.YtgflanlniejflaaA50
import Derived.Test.YtgflanlniejflaaA51
import Derived.Test.YtgflanlniejflaaA52
import Derived.Test.YtgflanlniejflaaA53
namespace Go.Proofs.Ytgflanlniejflaa
open Go.RowKit Go.Sort
set_option maxRecDepth 100000
theorem Reads.pre {w:World}{B n m:Nat}{A:Option Addr}{xs ys:List Value}(h:Reads w B 1 A (n+m) (xs++ys)) (hl:xs.length=n):Reads w B 1 A n xs:=
 ⟨by omega,fun hn=>by
  obtain⟨b,off,e,hb,hc⟩:=h.2 (by omega)
  exact⟨b,off,e,hb,fun j u hj=>hc j u (by rw[List.getElem?_append_left (List.getElem?_eq_some_iff.1 hj).1];exact hj)⟩⟩
theorem Few.nets {n:Drv.NNet}{au:List (List Drv.LSt)}(h:Drv.Few n au) (hk:∀s∈n.states,∀e∈s.edges,0≤e.kind∧e.kind≤255):NetS n:=by
 obtain⟨h1,h2,h3,h4,h5⟩:=Drv.greatN_small h.net
 exact⟨by have:=h.states;omega,by omega,by omega,by omega,by omega,fun s hs=>⟨by have:=(h5 s hs).1;omega,by have:=(h5 s hs).2;omega,fun e he=>(hk s hs e he).1⟩⟩
theorem Few.auts {n:Drv.NNet}{au:List (List Drv.LSt)}(h:Drv.Few n au):∀a∈au,AutS a:=fun a ha=>by
 obtain⟨h1,h2⟩:=Drv.greatA_small (h.each a ha)
 exact⟨by omega,fun s hs=>⟨by have:=(h2 s hs).2;omega,by have:=(h2 s hs).1;omega⟩⟩
theorem Few.okNet {n:Drv.NNet}{au:List (List Drv.LSt)}(h:Drv.Few n au) (hb:Drv.newB n au=true):Drv.OkNet n au:=by
 obtain⟨h1,h2,h3,h4,h5⟩:=Drv.greatN_small h.net
 exact Drv.okNet_of hb (by have:=h.states;omega) (fun s hs=>by have:=(h5 s hs).1;omega) (fun a ha=>by
  obtain⟨g1,g2⟩:=Drv.greatA_small (h.each a ha)
  exact⟨by omega,fun s hs=>⟨by have:=(g2 s hs).2;omega,by have:=(g2 s hs).1;omega⟩⟩)
theorem two_boxes {w w2:World}{cs cs':Array Value}{T T':TypeId}(h2:w2=(w.alloc (.cells cs T)).alloc (.cells cs' T')):
 Below w.heap.size w w2∧w2.heap[w.heap.size]? =some (.cells cs T (0,0))∧w2.heap[w.heap.size+1]? =some (.cells cs' T' (0,0)):=by
 have z1:(w.alloc (.cells cs T)).heap.size=w.heap.size+1:=by simp
 refine⟨by rw[h2];exact(below_new _ _).alloc (by omega) _,?_,?_⟩
 ·rw[h2,Below.heap_alloc _ _ _ (by omega)];exact heap_alloc_new _ _
 ·rw[h2,←z1];exact heap_alloc_new _ _
theorem tr_form {w:World}{S:Nat→Prop}{t:Drv.Tr}{r k q:Int}{b:Bool}{s:Value}(h:TrV w S t [.int .i64 r,.int .i64 k,.int .i64 q,.bool b,s]):∃A m c,s= .slice A m c:=by
 cases t
 unfold TrV at h
 obtain⟨A,c,xs,e,_⟩:=h
 simp only[List.cons.injEq]at e
 exact⟨A,_,c,e.2.2.2.2.1⟩
set_option maxHeartbeats 12800000 in
theorem any_any (w:World) (n:Drv.NNet) (au:List (List Drv.LSt)) (toks:List Int) (SA TA UA QA DA AA WA:Option Addr) (sc tc uc qc dc ac wc:Nat) (fu de tk:Int) (h:NetR w w.heap.size SA TA UA QA DA n) (ha:AusR w w.heap.size AA au) (hW:Reads w w.heap.size 1 WA toks.length (toks.map (Value.int .i64))) (hwc:toks.length≤wc∧(WA=none→wc=0))
 (hS:n.states.length≤100000000000000) (hT:n.starts.length≤100000000000000) (hU:n.stops.length≤100000000000000) (hQ:n.preds.length≤100000000000000) (hD:n.decs.length≤100000000000000)
 (hs:∀s∈n.states,s.edges.length≤100000000000000∧s.ends.length≤100000000000000∧∀e∈s.edges,0≤e.kind∧e.kind≤255) (hL:au.length≤100000000000000) (hau:∀a∈au,a.length≤100000000000000∧∀s∈a,s.edges.length≤100000000000000∧s.alts.length≤100000000000000∧0≤s.kind∧s.kind≤255) (hWl:toks.length≤100000000000000):
 Calls Try.prog 4 #[netAgg SA TA UA QA DA sc tc uc qc dc n,.slice AA au.length ac,.agg #[.slice WA toks.length wc,.int .i64 fu,.int .i64 de,.int .i64 tk]] w fun e w'=>e= .returned (.bool true)∧Below w.heap.size w w':=by
 obtain⟨nS,hnS⟩:∃m,n.states.length=m:=⟨_,rfl⟩
 obtain⟨nT,hnT⟩:∃m,n.starts.length=m:=⟨_,rfl⟩
 obtain⟨nU,hnU⟩:∃m,n.stops.length=m:=⟨_,rfl⟩
 obtain⟨nQ,hnQ⟩:∃m,n.preds.length=m:=⟨_,rfl⟩
 obtain⟨nD,hnD⟩:∃m,n.decs.length=m:=⟨_,rfl⟩
 obtain⟨nL,hnL⟩:∃m,au.length=m:=⟨_,rfl⟩
 obtain⟨nW,hnW⟩:∃m,toks.length=m:=⟨_,rfl⟩
 obtain⟨w1,hw1⟩:∃x,x=w.alloc (.cells #[.slice SA nS sc,.slice TA nT tc,.slice UA nU uc,.slice QA nQ qc,.slice DA nD dc] 25):=⟨_,rfl⟩
 obtain⟨w2,hw2⟩:∃x,x=w1.alloc (.cells #[.slice WA nW wc,.int .i64 fu,.int .i64 de,.int .i64 tk] 28):=⟨_,rfl⟩
 have z1:w1.heap.size=w.heap.size+1:=by rw[hw1];simp
 have b1:Below w.heap.size w w1:=by rw[hw1];exact below_new _ _
 have b2:Below w.heap.size w w2:=by rw[hw2];exact b1.alloc (by omega) _
 have T1:w2.heap[w.heap.size]? =some (.cells #[.slice SA nS sc,.slice TA nT tc,.slice UA nU uc,.slice QA nQ qc,.slice DA nD dc] 25 (0,0)):=by rw[hw2,Below.heap_alloc _ _ _ (by omega),hw1];exact heap_alloc_new _ _
 have T2:w2.heap[w.heap.size+1]? =some (.cells #[.slice WA nW wc,.int .i64 fu,.int .i64 de,.int .i64 tk] 28 (0,0)):=by rw[hw2,←z1];exact heap_alloc_new _ _
 have l1:=heap_lt T1
 have l2:=heap_lt T2
 have CN:=hid (fun(u:World) (hb:Below w2.heap.size w2 u)=>(show u.cell? ⟨w.heap.size,0,none⟩=some (.slice SA nS sc)∧u.cell? ⟨w.heap.size,1,none⟩=some (.slice TA nT tc)∧u.cell? ⟨w.heap.size,2,none⟩=some (.slice UA nU uc)∧u.cell? ⟨w.heap.size,3,none⟩=some (.slice QA nQ qc)∧u.cell? ⟨w.heap.size,4,none⟩=some (.slice DA nD dc)∧u.cell? ⟨w.heap.size+1,0,none⟩=some (.slice WA nW wc)∧u.cell? ⟨w.heap.size+1,1,none⟩=some (.int .i64 fu)∧u.cell? ⟨w.heap.size+1,2,none⟩=some (.int .i64 de)∧u.cell? ⟨w.heap.size+1,3,none⟩=some (.int .i64 tk)from by
  have U1:=(hb.block _ l1).trans T1
  have U2:=(hb.block _ l2).trans T2
  refine⟨?_,?_,?_,?_,?_,?_,?_,?_,?_⟩ <;> first | (rw[Lib.cell_of_heap U1];rfl) | (rw[Lib.cell_of_heap U2];rfl)))
 have HW:=hid (show(w.alloc (.cells #[.slice SA nS sc,.slice TA nT tc,.slice UA nU uc,.slice QA nQ qc,.slice DA nD dc] 25)).alloc (.cells #[.slice WA nW wc,.int .i64 fu,.int .i64 de,.int .i64 tk] 28)=w2 by rw[hw2,hw1])
 have HG:=hid (great21_any w2 n SA TA UA QA DA AA sc tc uc qc dc ac au (h.up b2 b2.size) (ha.up b2 b2.size) hS hT hU hQ hD (fun s hs'=>⟨(hs s hs').1,(hs s hs').2.1⟩) hL (fun a ha'=>⟨(hau a ha').1,fun s hs'=>⟨((hau a ha').2 s hs').1,((hau a ha').2 s hs').2.1⟩⟩))
 have HNW:=hid hnW
 rw[hnW]at hwc
 unfold netAgg at HG⊢
 rw[hnS,hnT,hnU,hnQ,hnD,hnL]at HG⊢
 rw[hnW]at hWl⊢
 have H:=hid h
 have HA:=hid ha
 have HW0:=hid hW
 have HB2:=hid b2
 have HNS:=hid (And.intro hnS (And.intro hnT (And.intro hnU (And.intro hnQ (And.intro hnD hnL)))))
 have HKE:=hid (fun s hs'=>(hs s hs').2.2)
 have HKA:=hid (fun a ha' s hs'=>((hau a ha').2 s hs').2.2)
 have HWC:=hid hwc
 clear h ha hW hs hau hw1 hw2 z1 b1 b2 T1 T2 hnS hnT hnU hnQ hnD hnL hnW hS hT hU hQ hD hL hwc
 obtain⟨k0,k1,k2,k3,k4,x0,x1,x2,x3⟩:=CN.out w2 (Below.refl _ _)
 go_enter Try.func4,Try.ntmps4
 go_upto_region 1 with fail
 rw[HW.out]
 clear HW
 go_wp2_with fail
 refine HG.out.mono ?_
 rintro e w3 ⟨rfl,hb3⟩
 have HB3:=hid (HB2.out.trans (hb3.mono HB2.out.size))
 have HC3:=hid hb3
 clear hb3 HG k0 k1 k2 k3 k4 x0 x1 x2 x3
 obtain⟨k0,k1,k2,k3,k4,x0,x1,x2,x3⟩:=CN.out w3 HC3.out
 cases hgb:Drv.great21 n au with
 | true=>
  clear hgb
  dsimp only
  go_wp2_with fail
  refine(lives_any w3).mono ?_
  rintro e wl ⟨rfl,hbl⟩
  have HBL:=hid (HB3.out.trans (hbl.mono HB3.out.size))
  clear hbl
  dsimp only
  go_wp2_with fail
  go_ret
  exact⟨rfl,HBL.out⟩
 | false=>
  have HFEW:=hid (Drv.few_of hgb)
  clear hgb
  dsimp only
  by_cases q1:40<nW
  ·have d1:decide ((40:Int)<(nW:Int))=true:=by rw[decide_eq_true_eq];omega
   go_wp2_with fail
   refine(lives_any w3).mono ?_
   rintro e wl ⟨rfl,hbl⟩
   have HBL:=hid (HB3.out.trans (hbl.mono HB3.out.size))
   clear hbl
   dsimp only
   go_wp2_with fail
   go_ret
   exact⟨rfl,HBL.out⟩
  ·have d1:decide ((40:Int)<(nW:Int))=false:=by rw[decide_eq_false_iff_not];omega
   by_cases q2:3000<fu
   ·have d2:decide (3000<fu)=true:=by rw[decide_eq_true_eq];exact q2
    go_wp2_with fail
    refine(lives_any w3).mono ?_
    rintro e wl ⟨rfl,hbl⟩
    have HBL:=hid (HB3.out.trans (hbl.mono HB3.out.size))
    clear hbl
    dsimp only
    go_wp2_with fail
    go_ret
    exact⟨rfl,HBL.out⟩
   ·have d2:decide (3000<fu)=false:=by rw[decide_eq_false_iff_not];exact q2
    by_cases q3:60<de
    ·have d3:decide (60<de)=true:=by rw[decide_eq_true_eq];exact q3
     go_wp2_with fail
     refine(lives_any w3).mono ?_
     rintro e wl ⟨rfl,hbl⟩
     have HBL:=hid (HB3.out.trans (hbl.mono HB3.out.size))
     clear hbl
     dsimp only
     go_wp2_with fail
     go_ret
     exact⟨rfl,HBL.out⟩
    ·have d3:decide (60<de)=false:=by rw[decide_eq_false_iff_not];exact q3
     have HNEW:=hid (new_any w3 n SA TA UA QA DA AA sc tc uc qc dc ac au (H.out.up HB3.out HB3.out.size) (Few.nets HFEW.out HKE.out) (HA.out.up HB3.out HB3.out.size) (by have:=HFEW.out.autos;omega) (Few.auts HFEW.out))
     obtain⟨m1,m2,m3,m4,m5,m6⟩:=HNS.out
     unfold netAgg at HNEW
     rw[m1,m2,m3,m4,m5,m6]at HNEW
     clear m1 m2 m3 m4 m5 m6
     go_wp2_with fail
     refine HNEW.out.mono ?_
     rintro e w4 ⟨hb4,hcase⟩
     have HB4:=hid (HB3.out.trans (hb4.mono HB3.out.size))
     have HC4:=hid (HC3.out.trans (hb4.mono HC3.out.size))
     have HS34:=hid hb4.size
     have HON:=hid (netOther_any w4 n SA TA UA QA DA sc tc uc qc dc (H.out.up HB4.out HB4.out.size) (Few.nets HFEW.out HKE.out) (fun s hs' e he=>(HKE.out s hs' e he).2))
     obtain⟨m1,m2,m3,m4,m5,m6⟩:=HNS.out
     unfold netAgg at HON
     rw[m1,m2,m3,m4,m5]at HON
     clear hb4 HNEW k0 k1 k2 k3 k4 x0 x1 x2 x3
     obtain⟨k0,k1,k2,k3,k4,x0,x1,x2,x3⟩:=CN.out w4 HC4.out
     cases hnb:Drv.newB n au with
     | false=>
      obtain⟨hnf,rfl⟩:=hcase.resolve_right (fun h=>by rw[hnb]at h;exact absurd h.1 (by decide))
      clear hnf m1 m2 m3 m4 m5 m6
      have HNB:=hid hnb
      clear hnb
      dsimp only
      go_upto_region 4 with fail
      go_wp2_with fail
      refine HON.out.mono ?_
      rintro e w5 ⟨A5,c5,rfl,hb5,hn5⟩
      have HB5:=hid (HB4.out.trans (hb5.mono HB4.out.size))
      have HC5:=hid (HC4.out.trans (hb5.mono HC4.out.size))
      have HOS:=hid (others_any w5 au AA ac (HA.out.up HB5.out HB5.out.size) (by have:=HFEW.out.autos;omega) (Few.auts HFEW.out) HKA.out)
      obtain⟨m1,m2,m3,m4,m5,m6⟩:=HNS.out
      rw[m6]at HOS
      unfold netAgg
      rw[m1,m2,m3,m4,m5]
      have HN5:=hid hn5
      have HU5:=hid hb5
      clear hb5 hn5 HON m1 m2 m3 m4 m5 m6
      go_wp2_with fail
      refine HOS.out.mono ?_
      rintro e w6 ⟨A6,c6,rfl,hb6,ha6⟩
      have HB6:=hid (HB5.out.trans (hb6.mono HB5.out.size))
      have HC6:=hid (HC5.out.trans (hb6.mono HC5.out.size))
      have HU6:=hid (HU5.out.trans (hb6.mono HU5.out.size))
      have HRN:=hid (rnew_any w6 n A5 TA UA QA DA A6 c5 tc uc qc dc c6 au ((HN5.out.below hb6).more hb6.size) (Few.nets HFEW.out HKE.out) ha6 (by have:=HFEW.out.autos;omega) (Few.auts HFEW.out))
      obtain⟨m1,m2,m3,m4,m5,m6⟩:=HNS.out
      unfold netAgg at HRN
      rw[m1,m2,m3,m4,m5,m6]at HRN
      rw[m6]
      clear hb6 ha6 HN5 HOS m1 m2 m3 m4 m5 m6
      go_wp2_with fail
      refine HRN.out.mono ?_
      rintro e w7 ⟨hb7,hcase2⟩
      have HB7:=hid (HB6.out.trans (hb7.mono HB6.out.size))
      have HC7:=hid (HC6.out.trans (hb7.mono HC6.out.size))
      have HU7:=hid (HU6.out.trans (hb7.mono HU6.out.size))
      clear hb7 HRN k0 k1 k2 k3 k4 x0 x1 x2 x3
      obtain⟨k0,k1,k2,k3,k4,x0,x1,x2,x3⟩:=CN.out w7 HC7.out
      obtain⟨_,rfl⟩:=hcase2.resolve_right (fun h=>by rw[HNB.out]at h;exact absurd h.1 (by decide))
      dsimp only
      go_wp2_with fail
      refine(lives_any w7).mono ?_
      rintro e wl ⟨rfl,hbl⟩
      have HBL:=hid (HB7.out.trans (hbl.mono HB7.out.size))
      clear hbl
      dsimp only
      go_wp2_with fail
      go_ret
      exact⟨rfl,HBL.out⟩
     | true=>
      obtain⟨_,D,kn,rfl,hDge,hkn,hDr⟩:=hcase.resolve_left (fun h=>by rw[hnb]at h;exact absurd h.1 (by decide))
      clear m1 m2 m3 m4 m5 m6
      have HNB:=hid hnb
      have HOK:=hid (Few.okNet HFEW.out hnb)
      have HKN:=hid hkn
      have HDR:=hid hDr
      clear hnb hDge hkn hDr
      dsimp only
      go_upto_region 4 with fail
      go_wp2_with fail
      refine HON.out.mono ?_
      rintro e w5 ⟨A5,c5,rfl,hb5,hn5⟩
      have HB5:=hid (HB4.out.trans (hb5.mono HB4.out.size))
      have HC5:=hid (HC4.out.trans (hb5.mono HC4.out.size))
      have HOS:=hid (others_any w5 au AA ac (HA.out.up HB5.out HB5.out.size) (by have:=HFEW.out.autos;omega) (Few.auts HFEW.out) HKA.out)
      obtain⟨m1,m2,m3,m4,m5,m6⟩:=HNS.out
      rw[m6]at HOS
      unfold netAgg
      rw[m1,m2,m3,m4,m5]
      have HN5:=hid hn5
      have HU5:=hid hb5
      clear hb5 hn5 HON m1 m2 m3 m4 m5 m6
      go_wp2_with fail
      refine HOS.out.mono ?_
      rintro e w6 ⟨A6,c6,rfl,hb6,ha6⟩
      have HB6:=hid (HB5.out.trans (hb6.mono HB5.out.size))
      have HC6:=hid (HC5.out.trans (hb6.mono HC5.out.size))
      have HU6:=hid (HU5.out.trans (hb6.mono HU5.out.size))
      have HRN:=hid (rnew_any w6 n A5 TA UA QA DA A6 c5 tc uc qc dc c6 au ((HN5.out.below hb6).more hb6.size) (Few.nets HFEW.out HKE.out) ha6 (by have:=HFEW.out.autos;omega) (Few.auts HFEW.out))
      obtain⟨m1,m2,m3,m4,m5,m6⟩:=HNS.out
      unfold netAgg at HRN
      rw[m1,m2,m3,m4,m5,m6]at HRN
      rw[m6]
      clear hb6 ha6 HN5 HOS m1 m2 m3 m4 m5 m6
      go_wp2_with fail
      refine HRN.out.mono ?_
      rintro e w7 ⟨hb7,hcase2⟩
      have HB7:=hid (HB6.out.trans (hb7.mono HB6.out.size))
      have HC7:=hid (HC6.out.trans (hb7.mono HC6.out.size))
      have HU7:=hid (HU6.out.trans (hb7.mono HU6.out.size))
      clear hb7 HRN k0 k1 k2 k3 k4 x0 x1 x2 x3
      obtain⟨k0,k1,k2,k3,k4,x0,x1,x2,x3⟩:=CN.out w7 HC7.out
      obtain⟨_,M,rfl,hM⟩:=hcase2.resolve_left (fun h=>by rw[HNB.out]at h;exact absurd h.1 (by decide))
      have HM:=hid hM
      clear hM
      dsimp only
      have hl4:toks.length≤1000000:=by rw[HNW.out];omega
      have HTW:=hid (twinN_any toks WA wc w7 hl4 ((HW0.out.below HB7.out).more HB7.out.size))
      rw[HNW.out]at HTW
      clear hl4
      go_wp2_with fail
      refine HTW.out.mono ?_
      rintro e w8 ⟨g,rfl,hown8,hb8⟩
      rw[HNW.out]
      have HB8:=hid (HB7.out.trans (hb8.mono HB7.out.size))
      have HC8:=hid (HC7.out.trans (hb8.mono HC7.out.size))
      have HU8:=hid (HU7.out.trans (hb8.mono HU7.out.size))
      have HM8:=hid ((HM.out.below hb8).more hb8.size)
      have HG8:=hid (Reads.of_own hown8)
      have HP:=hid (dparse_any w8 D n au (Drv.wideR n kn.rul) toks (some ⟨g,0,none⟩) (nW+2) fu de (HDR.out w8 (Up.of_below HU8.out)) HOK.out ((show Reads w8 w8.heap.size 1 (some ⟨g,0,none⟩) (toks.length+2) (toks.map (Value.int .i64)++ [Value.int .i64 (-77),Value.int .i64 (-77)]) by have:=HG8.out;rw[List.map_append]at this;exact this).pre (by simp)) (by rw[HNW.out];omega) (fun h=>by cases h) (by rw[HNW.out];omega) (by omega) (by omega))
      rw[HNW.out]at HP
      obtain⟨an,han⟩:∃x,Drv.ansB n au toks fu de=x:=⟨_,rfl⟩
      have HAN:=hid han
      have HSM:Hid (Drv.smTr an.tree):=hid (by rw[←han];exact Drv.ansB_sm HOK.out toks fu de (by omega))
      rw[HAN.out]at HP
      clear han
      clear hb8 hown8 HTW HM k0 k1 k2 k3 k4 x0 x1 x2 x3
      obtain⟨k0,k1,k2,k3,k4,x0,x1,x2,x3⟩:=CN.out w8 HC8.out
      go_wp2_with fail
      refine HP.out.mono ?_
      rintro e w9 ⟨hb9,r,t,q,b,s,rfl,ht9⟩
      dsimp only
      obtain⟨A9,m9,c9,rfl⟩:=tr_form ht9
      go_upto_region 11 with fail
      obtain⟨w10,hw10⟩:∃x,x=(w9.alloc (.cells #[.int .i64 r,.int .i64 t,.int .i64 q,.bool b,.slice A9 m9 c9] 65)).alloc (.cells #[.int .i64 an.used,.int .i64 an.deep,.int .i64 an.spec] 70):=⟨_,rfl⟩
      rw[←hw10]
      obtain⟨hb10,t10,s10⟩:=two_boxes hw10
      generalize hg9:w9.heap.size=g9 at t10 s10⊢
      have hb10':=hb9.trans (hb10.mono hb9.size)
      have HB10:=hid (HB8.out.trans (hb10'.mono HB8.out.size))
      have HC10:=hid (HC8.out.trans (hb10'.mono HC8.out.size))
      have HU10:=hid (HU8.out.trans (hb10'.mono HU8.out.size))
      have HM10:=hid ((HM8.out.below hb10').more hb10'.size)
      have HG10:=hid ((HG8.out.below hb10').more hb10'.size)
      have HT10:=hid t10
      have HS10:=hid s10
      have HTR:=hid (TrV.only (S':=fun j=>j<w8.heap.size) (Only.of_below hb10) (fun _ _ e=>e) _ _ ht9)
      have HQ:=hid (rdparse_any w10 M n au toks WA wc fu de HM10.out HOK.out ((HW0.out.below HB10.out).more HB10.out.size) (by rw[HNW.out];exact HWC.out.1) HWC.out.2 (by rw[HNW.out];omega) (by omega) (by omega))
      rw[HNW.out,HAN.out]at HQ
      clear hb9 ht9 hb10 t10 s10 hw10 hb10' HP HM8 HG8 k0 k1 k2 k3 k4 x0 x1 x2 x3
      obtain⟨k0,k1,k2,k3,k4,x0,x1,x2,x3⟩:=CN.out w10 HC10.out
      go_wp2_with fail
      refine HQ.out.mono ?_
      rintro e w11 ⟨hb11,r',t',q',b',s',rfl,ht11⟩
      dsimp only
      obtain⟨A11,m11,c11,rfl⟩:=tr_form ht11
      go_upto_region 12 with fail
      obtain⟨w12,hw12⟩:∃x,x=(w11.alloc (.cells #[.int .i64 r',.int .i64 t',.int .i64 q',.bool b',.slice A11 m11 c11] 65)).alloc (.cells #[.int .i64 an.used,.int .i64 an.deep,.int .i64 an.spec] 67):=⟨_,rfl⟩
      rw[←hw12]
      obtain⟨hb12,t12,s12⟩:=two_boxes hw12
      generalize hg11:w11.heap.size=g11 at t12 s12⊢
      have hb12':=hb11.trans (hb12.mono hb11.size)
      have HB12:=hid (HB10.out.trans (hb12'.mono HB10.out.size))
      have HC12:=hid (HC10.out.trans (hb12'.mono HC10.out.size))
      have HU12:=hid (HU10.out.trans (hb12'.mono HU10.out.size))
      have HM12:=hid ((HM10.out.below hb12').more hb12'.size)
      have HG12:=hid ((HG10.out.below hb12').more hb12'.size)
      have HTX:=hid (TrV.only (S':=fun j=>j<w8.heap.size) (Only.of_below hb12') (fun _ _ e=>e) _ _ HTR.out)
      have HTY:=hid (TrV.only (S':=fun j=>j<w10.heap.size) (Only.of_below hb12) (fun _ _ e=>e) _ _ ht11)
      have BX:=hid (fun(u:World) (hb:Below w12.heap.size w12 u)=>(show(u.heap[g9]? =some (.cells #[.int .i64 r,.int .i64 t,.int .i64 q,.bool b,.slice A9 m9 c9] 65 (0,0))∧u.heap[g9+1]? =some (.cells #[.int .i64 an.used,.int .i64 an.deep,.int .i64 an.spec] 70 (0,0)))∧(u.heap[g11]? =some (.cells #[.int .i64 r',.int .i64 t',.int .i64 q',.bool b',.slice A11 m11 c11] 65 (0,0))∧u.heap[g11+1]? =some (.cells #[.int .i64 an.used,.int .i64 an.deep,.int .i64 an.spec] 67 (0,0)))from
       ⟨⟨(hb.block _ (Nat.lt_of_lt_of_le (heap_lt HT10.out) hb12'.size)).trans ((hb12'.block _ (heap_lt HT10.out)).trans HT10.out),(hb.block _ (Nat.lt_of_lt_of_le (heap_lt HS10.out) hb12'.size)).trans ((hb12'.block _ (heap_lt HS10.out)).trans HS10.out)⟩,(hb.block _ (heap_lt t12)).trans t12,(hb.block _ (heap_lt s12)).trans s12⟩))
      clear hb11 ht11 hb12 t12 s12 hw12 hb12' HQ HM10 HG10 HT10 HS10 HTR k0 k1 k2 k3 k4 x0 x1 x2 x3 HU8 HU10 HB10 HC10 HB8 HC8
      obtain⟨k0,k1,k2,k3,k4,x0,x1,x2,x3⟩:=CN.out w12 HC12.out
      obtain⟨⟨X,Y⟩,Z,V⟩:=BX.out w12 (Below.refl _ _)
      obtain⟨⟨a0,a1,a2,a3,a4⟩,az⟩:=cells5z X
      obtain⟨⟨a5,a6,a7⟩,az'⟩:=cells3z Y
      obtain⟨⟨b0,b1,b2,b3,b4⟩,bz⟩:=cells5z Z
      obtain⟨⟨b5,b6,b7⟩,bz'⟩:=cells3z V
      clear X Y Z V az az' bz bz'
      go_wp2_with fail
      refine(sameStats_any w12 _ _ _ _ _ _).mono ?_
      rintro e w13 ⟨rfl,hb13⟩
      rw[beq_self_eq_true,beq_self_eq_true,beq_self_eq_true]
      dsimp only[Bool.and_true,Bool.and_self]
      have HB13:=hid (HB12.out.trans (hb13.mono HB12.out.size))
      have HC13:=hid (HC12.out.trans (hb13.mono HC12.out.size))
      have HD13:=hid hb13
      have HCS:=hid (sameTree_any (Drv.szTr an.tree) an.tree an.tree w13 (fun j=>j<w8.heap.size) (fun j=>j<w10.heap.size) _ _ (Nat.le_refl _) HSM.out (TrV.only (S':=fun j=>j<w8.heap.size) (Only.of_below hb13) (fun _ _ e=>e) _ _ HTX.out) (TrV.only (S':=fun j=>j<w10.heap.size) (Only.of_below hb13) (fun _ _ e=>e) _ _ HTY.out))
      clear hb13 k0 k1 k2 k3 k4 x0 x1 x2 x3 a0 a1 a2 a3 a4 a5 a6 a7 b0 b1 b2 b3 b4 b5 b6 b7
      obtain⟨k0,k1,k2,k3,k4,x0,x1,x2,x3⟩:=CN.out w13 HC13.out
      obtain⟨⟨X,Y⟩,Z,V⟩:=BX.out w13 HD13.out
      obtain⟨⟨a0,a1,a2,a3,a4⟩,az⟩:=cells5z X
      obtain⟨⟨b0,b1,b2,b3,b4⟩,bz⟩:=cells5z Z
      clear X Y Z V az bz
      go_wp2_with fail
      refine HCS.out.mono ?_
      rintro e w14 ⟨rfl,hb14⟩
      rw[(Drv.sameTr_iff _ _).2 rfl]
      dsimp only
      have HB14:=hid (HB13.out.trans (hb14.mono HB13.out.size))
      have HC14:=hid (HC13.out.trans (hb14.mono HC13.out.size))
      have HD14:=hid (HD13.out.trans (hb14.mono HD13.out.size))
      have HLF:=hid (leftN_any toks g WA wc w14 (by rw[HNW.out];omega) ((HG12.out.below HD14.out).more HD14.out.size) ((HW0.out.below HB14.out).more HB14.out.size))
      rw[HNW.out]at HLF
      clear hb14 k0 k1 k2 k3 k4 x0 x1 x2 x3 a0 a1 a2 a3 a4 b0 b1 b2 b3 b4 HCS
      obtain⟨k0,k1,k2,k3,k4,x0,x1,x2,x3⟩:=CN.out w14 HC14.out
      go_wp2_with fail
      refine HLF.out.mono ?_
      rintro e w15 ⟨rfl,hb15⟩
      dsimp only
      have HB15:=hid (HB14.out.trans (hb15.mono HB14.out.size))
      have HC15:=hid (HC14.out.trans (hb15.mono HC14.out.size))
      have HD15:=hid (HD14.out.trans (hb15.mono HD14.out.size))
      have HE1:=hid (denough_any w15 D n au kn tk (HDR.out w15 (Up.of_below (HU12.out.trans (HD15.out.mono HU12.out.size)))) HOK.out)
      clear hb15 k0 k1 k2 k3 k4 x0 x1 x2 x3 HLF
      obtain⟨k0,k1,k2,k3,k4,x0,x1,x2,x3⟩:=CN.out w15 HC15.out
      go_wp2_with fail
      refine HE1.out.mono ?_
      rintro e w16 ⟨rfl,hb16⟩
      dsimp only
      have HB16:=hid (HB15.out.trans (hb16.mono HB15.out.size))
      have HC16:=hid (HC15.out.trans (hb16.mono HC15.out.size))
      have HD16:=hid (HD15.out.trans (hb16.mono HD15.out.size))
      have HE2:=hid (rdenough_any w16 M n au kn HKN.out tk ((HM12.out.below HD16.out).more HD16.out.size) HOK.out)
      generalize Drv.enoB n (Drv.wideR n kn.rul) tk=eb at HE2⊢
      clear hb16 k0 k1 k2 k3 k4 x0 x1 x2 x3 HE1
      obtain⟨k0,k1,k2,k3,k4,x0,x1,x2,x3⟩:=CN.out w16 HC16.out
      go_wp2_with fail
      refine HE2.out.mono ?_
      rintro e w17 ⟨rfl,hb17⟩
      dsimp only
      have HB17:=hid (HB16.out.trans (hb17.mono HB16.out.size))
      clear hb17 HE2 k0 k1 k2 k3 k4 x0 x1 x2 x3
      go_wp2_with fail
      refine(lives_any w17).mono ?_
      rintro e wl ⟨rfl,hbl⟩
      have HBL:=hid (HB17.out.trans (hbl.mono HB17.out.size))
      clear hbl
      dsimp only
      go_wp2_with fail
      go_ret
      exact⟨rfl,HBL.out⟩
end Go.Proofs.Ytgflanlniejflaa
namespace Go.Proofs.Ytgflanlniejflaa
open Go.ChangeShapes Go.WideShapes Go.ChangeAt Go.RowKit Go.Deep
set_option maxRecDepth 100000
theorem ownAny:ownKnob Try.prog.godebug=none:=by kernel_rfl
theorem laidOutAny:laidOutB Try.prog=true:=by kernel_rfl
theorem liftedAny (os:Os) (started:os.Started) (H:Type) (enc:TypeId×Value→H):
 ReturnsInHanded {} Try.checked os 4 .any (Rows.driversAnySpec.pre6 enc Try.prog Try.f4 Rows.driversAnyRow.domain false) (Rows.driversAnySpec.post enc Try.prog Try.f4 false true false false):=by
 refine returnsInHanded_of_change_sized (C:=Try.checked) ownAny started (by kernel_rfl) Try.func4
  (ChangeSpec.witness6 (enc:=enc) (C:=Try.checked) false ⟨#[],#[.agg #[.slice none 0 0,.slice none 0 0,.slice none 0 0,.slice none 0 0,.slice none 0 0],.slice none 0 0,.agg #[.slice none 0 0,.int .i64 0,.int .i64 0,.int .i64 0]],[]⟩ 8 (by kernel_rfl) (by kernel_rfl) (by kernel_rfl) (by kernel_rfl)) ?_
 intro W base args ds gs before hval0 hW hcnd hsz _
 have hval:∀(j:Nat) t v,Try.f4.params[j]? =some t→args[j]? =some v→Value.okWide Try.prog W .any base t v:=hval0
 have hsz0:(DataW.weightsEach Try.prog (Try.f4.params.toList++Rows.driversAnySpec.plain.varTypes Try.prog) (ds++gs)).all (·≤reachBytes)=true:=hsz
 have hW':=hW
 obtain⟨p,q,hA0,hV,rfl,hfz,hnd⟩:=hW
 have hA:DataW.TrodAll enc Try.prog W 0 (fun _=>true) true Try.f4.params.toList args.toList ds p:=hA0
 rw[Try.params4]at hA hval hsz0
 obtain⟨v0,v1,v2,d0,d1,d2,p0,p1,p2,rfl,rfl,rfl,h0,h1,h2⟩:=trodAll_three hA
 obtain⟨rfl,rfl⟩:=trodVars_none hV
 have k0:=h0
 have k1:=h1
 have k2:=h2
 have lt0:∀x∈p0,x.block<W.heap.size:=by obtain⟨m,hm⟩:=k0;exact DataW.trod_lt m _ _ _ hm
 have lt1:∀x∈p1,x.block<W.heap.size:=by obtain⟨m,hm⟩:=k1;exact DataW.trod_lt m _ _ _ hm
 have lt2:∀x∈p2,x.block<W.heap.size:=by obtain⟨m,hm⟩:=k2;exact DataW.trod_lt m _ _ _ hm
 have fit0:Fits d0 25:=fits_of_each hsz0 (j:=0) rfl rfl
 have fit1:Fits d1 26:=fits_of_each hsz0 (j:=1) rfl rfl
 have fit2:Fits d2 28:=fits_of_each hsz0 (j:=2) rfl rfl
 obtain⟨c0,rfl,hc0⟩:=okWide_struct Try.underlying25 (hval 0 25 v0 rfl rfl)
 obtain⟨c2,rfl,hc2⟩:=okWide_struct Try.underlying28 (hval 2 28 v2 rfl rfl)
 obtain⟨n0,g0⟩:=h0
 obtain⟨n1,g1⟩:=h1
 obtain⟨n2,g2⟩:=h2
 obtain⟨_,u0,u1,u2,u3,u4,y0,y1,y2,y3,y4,e0,t0,t1,t2,t3,t4⟩:=sp_net (x:=(d0,p0)) (by rw[Array.length_toList];exact hc0.trans (by kernel_rfl)) g0 fit0
 obtain⟨_,x0,x1,x2,x3,z0,z1,z2,z3,e2,r0,r1,r2,r3⟩:=sp_ask (x:=(d2,p2)) (by rw[Array.length_toList];exact hc2.trans (by kernel_rfl)) g2 fit2
 obtain rfl:c0=#[u0,u1,u2,u3,u4]:=by cases c0;exact congrArg Array.mk e0
 obtain rfl:c2=#[x0,x1,x2,x3]:=by cases c2;exact congrArg Array.mk e2
 obtain⟨sts,SA,sc,E0,hSl,hS,hSs⟩:=open_Sts t0.1 t0.2
 obtain⟨starts,TA,tc,E1,_,hTl,hT,_⟩:=open_Z t1.1 t1.2
 obtain⟨stops,UA,uc,E2,_,hUl,hU,_⟩:=open_Z t2.1 t2.2
 obtain⟨preds,QA,qc,E3,_,hQl,hQ,_⟩:=open_Z t3.1 t3.2
 obtain⟨decs,DA,dc,E4,_,hDl,hD,_⟩:=open_Z t4.1 t4.2
 obtain⟨toks,WA,wc,E5,hwc,hWl,hWr,_⟩:=open_Z r0.1 r0.2
 obtain⟨fu,E6,_⟩:=open_i64 3 Try.underlying3 r1.1
 obtain⟨de,E7,_⟩:=open_i64 3 Try.underlying3 r2.1
 obtain⟨tk,E8,_⟩:=open_i64 3 Try.underlying3 r3.1
 obtain⟨au,AA,ac,E9,hAl,hAr,hAs⟩:=open_Aus g1 fit1
 injection E0 with E0 _
 injection E1 with E1 _
 injection E2 with E2 _
 injection E3 with E3 _
 injection E4 with E4 _
 injection E5 with E5 _
 injection E6 with E6 _
 injection E7 with E7 _
 injection E8 with E8 _
 subst E0 E1 E2 E3 E4 E5 E6 E7 E8
 have hv1:v1= .slice AA au.length ac:=by
  obtain⟨a,l,c,rfl⟩:=okWide_slice Try.underlying26 (hval 1 26 v1 rfl rfl)
  have:[Value.slice a l c]= [Value.slice AA au.length ac]:=E9
  injection this
 subst hv1
 clear hA0 hval0
 unfold reachBytes at hTl hUl hQl hDl hWl
 refine(any_any W ⟨sts,starts,stops,preds,decs⟩ au toks SA TA UA QA DA AA WA sc tc uc qc dc ac wc fu de tk ⟨hS,hT,hU,hQ,hD⟩ hAr hWr hwc hSl (by show starts.length≤_;omega) (by show stops.length≤_;omega) (by show preds.length≤_;omega) (by show decs.length≤_;omega) hSs hAl hAs (by omega)).mono fun e W' ⟨he,bel⟩=>?_
 subst he
 exact⟨_,rfl,_,_,_,[],_,[],hW',trodAll_mk1 (shut_bool Try.underlying4 _),(trodAll_cons_mk (Below.trod laidOutAny (by kernel_rfl) (of_decide_eq_true (by kernel_rfl)) k0 bel lt0) (trodAll_cons_mk (Below.trod laidOutAny (by kernel_rfl) (of_decide_eq_true (by kernel_rfl)) k1 bel lt1) (trodAll_cons_mk (Below.trod laidOutAny (by kernel_rfl) (of_decide_eq_true (by kernel_rfl)) k2 bel lt2) trodAll_mk0))),rfl,bel.frame _,fun h=>by cases h⟩
theorem any_over:Rows.driversAnyRow.holds Try.pinned (OpenSpec.ofChange Rows.driversAnySpec):=
 OpenClaim.holds_of_wide 4 Try.f4 rfl rfl rfl rfl rfl rfl rfl ⟨rfl,rfl,rfl,rfl,rfl⟩ rfl rfl rfl rfl rfl (by kernel_rfl) Try.func4 (by kernel_rfl)
  (of_decide_eq_true (by kernel_rfl)) (by unfold Func.isWrapper;first | (rw[if_pos (by decide +kernel)];kernel_rfl) | (rw[if_neg (by decide +kernel)];exact⟨rfl,rfl⟩))
  (fun os started H enc _=>liftedAny os started H enc)
theorem any_proved:Rows.DriversAnySaid:=any_over
end Go.Proofs.Ytgflanlniejflaa
