/-
  DriversKept: the walk. Printed by gen_kpt.py.
-/
import Derived.Deep.CutRange
import Derived.Test.YtgflanlniejflaaK41
import Derived.Test.YtgflanlniejflaaK43
import Derived.Test.YtgflanlniejflaaK45
import Derived.Test.YtgflanlniejflaaK47
import Derived.Test.YtgflanlniejflaaK48
import Derived.Test.YtgflanlniejflaaK49
import Derived.Test.YtgflanlniejflaaK50
namespace Go.Proofs.Ytgflanlniejflaa
open Go.RowKit Go.Sort
set_option maxRecDepth 100000
theorem infoKE:(Try.prog.info? 60).map (fun i=>(i.zero,i.size,i.bytes))=some (some (.agg #[.int .u8 0,.int .i64 0,.int .i64 0]),3,24):=by kernel_rfl
theorem infoKS:(Try.prog.info? 47).map (fun i=>(i.zero,i.size,i.bytes))=some (some (.agg #[.int .i64 0,.slice none 0 0,.slice none 0 0]),3,56):=by kernel_rfl
theorem infoKLE:(Try.prog.info? 62).map (fun i=>(i.zero,i.size,i.bytes))=some (some (.agg #[.int .i64 0,.int .i64 0]),2,16):=by kernel_rfl
theorem infoKLA:(Try.prog.info? 50).map (fun i=>(i.zero,i.size,i.bytes))=some (some (.agg #[.slice none 0 0]),1,24):=by kernel_rfl
set_option maxHeartbeats 25600000 in
theorem kept_any (w:World) (n:Drv.NNet) (au:List (List Drv.LSt)) (toks:List Int) (SA TA UA QA DA AA WA:Option Addr) (sc tc uc qc dc ac wc:Nat) (fu de tk:Int) (h:NetR w w.heap.size SA TA UA QA DA n) (ha:AusR w w.heap.size AA au) (hW:Reads w w.heap.size 1 WA toks.length (toks.map (Value.int .i64))) (hwc:toks.length≤wc∧(WA=none→wc=0))
 (hS:n.states.length≤100000000000000) (hT:n.starts.length≤100000000000000) (hU:n.stops.length≤100000000000000) (hQ:n.preds.length≤100000000000000) (hD:n.decs.length≤100000000000000)
 (hs:∀s∈n.states,s.edges.length≤100000000000000∧s.ends.length≤100000000000000∧∀e∈s.edges,0≤e.kind∧e.kind≤255) (hL:au.length≤100000000000000) (hau:∀a∈au,a.length≤100000000000000∧∀s∈a,s.edges.length≤100000000000000∧s.alts.length≤100000000000000∧0≤s.kind∧s.kind≤255) (hWl:toks.length≤100000000000000):
 Calls Try.prog 3 #[netAgg SA TA UA QA DA sc tc uc qc dc n,.slice AA au.length ac,.agg #[.slice WA toks.length wc,.int .i64 fu,.int .i64 de,.int .i64 tk]] w fun e w'=>e= .returned (.bool true)∧Below w.heap.size w w':=by
 obtain⟨nS,hnS⟩:∃m,n.states.length=m:=⟨_,rfl⟩
 obtain⟨nT,hnT⟩:∃m,n.starts.length=m:=⟨_,rfl⟩
 obtain⟨nU,hnU⟩:∃m,n.stops.length=m:=⟨_,rfl⟩
 obtain⟨nQ,hnQ⟩:∃m,n.preds.length=m:=⟨_,rfl⟩
 obtain⟨nD,hnD⟩:∃m,n.decs.length=m:=⟨_,rfl⟩
 obtain⟨nL,hnL⟩:∃m,au.length=m:=⟨_,rfl⟩
 obtain⟨nW,hnW⟩:∃m,toks.length=m:=⟨_,rfl⟩
 obtain⟨w1,hw1⟩:∃x,x=w.alloc (.cells #[.slice SA nS sc,.slice TA nT tc,.slice UA nU uc,.slice QA nQ qc,.slice DA nD dc] 25):=⟨_,rfl⟩
 obtain⟨w2,hw2⟩:∃x,x=w1.alloc (.cells #[.slice WA nW wc,.int .i64 fu,.int .i64 de,.int .i64 tk] 28):=⟨_,rfl⟩
 have z1:w1.heap.size=w.heap.size+1:=by rw[hw1];simp
 have b1:Below w.heap.size w w1:=by rw[hw1];exact below_new _ _
 have b2:Below w.heap.size w w2:=by rw[hw2];exact b1.alloc (by omega) _
 have T1:w2.heap[w.heap.size]? =some (.cells #[.slice SA nS sc,.slice TA nT tc,.slice UA nU uc,.slice QA nQ qc,.slice DA nD dc] 25 (0,0)):=by rw[hw2,Below.heap_alloc _ _ _ (by omega),hw1];exact heap_alloc_new _ _
 have T2:w2.heap[w.heap.size+1]? =some (.cells #[.slice WA nW wc,.int .i64 fu,.int .i64 de,.int .i64 tk] 28 (0,0)):=by rw[hw2,←z1];exact heap_alloc_new _ _
 have l1:=heap_lt T1
 have l2:=heap_lt T2
 have CN:=hid (fun(u:World) (hb:Below w2.heap.size w2 u)=>(show u.cell? ⟨w.heap.size,0,none⟩=some (.slice SA nS sc)∧u.cell? ⟨w.heap.size,1,none⟩=some (.slice TA nT tc)∧u.cell? ⟨w.heap.size,2,none⟩=some (.slice UA nU uc)∧u.cell? ⟨w.heap.size,3,none⟩=some (.slice QA nQ qc)∧u.cell? ⟨w.heap.size,4,none⟩=some (.slice DA nD dc)∧u.cell? ⟨w.heap.size+1,0,none⟩=some (.slice WA nW wc)∧u.cell? ⟨w.heap.size+1,1,none⟩=some (.int .i64 fu)∧u.cell? ⟨w.heap.size+1,2,none⟩=some (.int .i64 de)∧u.cell? ⟨w.heap.size+1,3,none⟩=some (.int .i64 tk)from by
  have U1:=(hb.block _ l1).trans T1
  have U2:=(hb.block _ l2).trans T2
  refine⟨?_,?_,?_,?_,?_,?_,?_,?_,?_⟩ <;> first | (rw[Lib.cell_of_heap U1];rfl) | (rw[Lib.cell_of_heap U2];rfl)))
 have HW:=hid (show(w.alloc (.cells #[.slice SA nS sc,.slice TA nT tc,.slice UA nU uc,.slice QA nQ qc,.slice DA nD dc] 25)).alloc (.cells #[.slice WA nW wc,.int .i64 fu,.int .i64 de,.int .i64 tk] 28)=w2 by rw[hw2,hw1])
 have HG:=hid (great21_any w2 n SA TA UA QA DA AA sc tc uc qc dc ac au (h.up b2 b2.size) (ha.up b2 b2.size) hS hT hU hQ hD (fun s hs'=>⟨(hs s hs').1,(hs s hs').2.1⟩) hL (fun a ha'=>⟨(hau a ha').1,fun s hs'=>⟨((hau a ha').2 s hs').1,((hau a ha').2 s hs').2.1⟩⟩))
 have HNW:=hid hnW
 rw[hnW]at hwc
 unfold netAgg at HG⊢
 rw[hnS,hnT,hnU,hnQ,hnD,hnL]at HG⊢
 rw[hnW]at hWl⊢
 have H:=hid h
 have HA:=hid ha
 have HW0:=hid hW
 have HB2:=hid b2
 have HNS:=hid (And.intro hnS (And.intro hnT (And.intro hnU (And.intro hnQ (And.intro hnD hnL)))))
 have HKE:=hid (fun s hs'=>(hs s hs').2.2)
 have HKA:=hid (fun a ha' s hs'=>((hau a ha').2 s hs').2.2)
 have HWC:=hid hwc
 clear h ha hW hs hau hw1 hw2 z1 b1 b2 T1 T2 hnS hnT hnU hnQ hnD hnL hnW hS hT hU hQ hD hL hwc
 obtain⟨k0,k1,k2,k3,k4,x0,x1,x2,x3⟩:=CN.out w2 (Below.refl _ _)
 go_enter Try.func3,Try.ntmps3
 go_upto_region 1 with fail
 rw[HW.out]
 clear HW
 go_wp2_with fail
 refine HG.out.mono ?_
 rintro e w3 ⟨rfl,hb3⟩
 have HB3:=hid (HB2.out.trans (hb3.mono HB2.out.size))
 have HC3:=hid hb3
 clear hb3 HG k0 k1 k2 k3 k4 x0 x1 x2 x3
 obtain⟨k0,k1,k2,k3,k4,x0,x1,x2,x3⟩:=CN.out w3 HC3.out
 cases hgb:Drv.great21 n au with
 | true=>
  clear hgb
  dsimp only
  go_wp2_with fail
  refine(lives_any w3).mono ?_
  rintro e wl ⟨rfl,hbl⟩
  have HBL:=hid (HB3.out.trans (hbl.mono HB3.out.size))
  clear hbl
  dsimp only
  go_wp2_with fail
  go_ret
  exact⟨rfl,HBL.out⟩
 | false=>
  have HFEW:=hid (Drv.few_of hgb)
  clear hgb
  dsimp only
  by_cases q1:40<nW
  ·have d1:decide ((40:Int)<(nW:Int))=true:=by rw[decide_eq_true_eq];omega
   go_wp2_with fail
   refine(lives_any w3).mono ?_
   rintro e wl ⟨rfl,hbl⟩
   have HBL:=hid (HB3.out.trans (hbl.mono HB3.out.size))
   clear hbl
   dsimp only
   go_wp2_with fail
   go_ret
   exact⟨rfl,HBL.out⟩
  ·have d1:decide ((40:Int)<(nW:Int))=false:=by rw[decide_eq_false_iff_not];omega
   by_cases q2:3000<fu
   ·have d2:decide (3000<fu)=true:=by rw[decide_eq_true_eq];exact q2
    go_wp2_with fail
    refine(lives_any w3).mono ?_
    rintro e wl ⟨rfl,hbl⟩
    have HBL:=hid (HB3.out.trans (hbl.mono HB3.out.size))
    clear hbl
    dsimp only
    go_wp2_with fail
    go_ret
    exact⟨rfl,HBL.out⟩
   ·have d2:decide (3000<fu)=false:=by rw[decide_eq_false_iff_not];exact q2
    by_cases q3:60<de
    ·have d3:decide (60<de)=true:=by rw[decide_eq_true_eq];exact q3
     go_wp2_with fail
     refine(lives_any w3).mono ?_
     rintro e wl ⟨rfl,hbl⟩
     have HBL:=hid (HB3.out.trans (hbl.mono HB3.out.size))
     clear hbl
     dsimp only
     go_wp2_with fail
     go_ret
     exact⟨rfl,HBL.out⟩
    ·have d3:decide (60<de)=false:=by rw[decide_eq_false_iff_not];exact q3
     have HNS4:=HNS
     have lS:nS≤200:=by have:=HFEW.out.states;have:=HNS.out.1;omega
     have lT:nT≤12:=by have:=HFEW.out.starts;have:=HNS.out.2.1;omega
     have lU:nU≤4000:=by have:=(Drv.greatN_small HFEW.out.net).2.1;have:=HNS.out.2.2.1;omega
     have lQ:nQ≤4000:=by have:=(Drv.greatN_small HFEW.out.net).2.2.1;have:=HNS.out.2.2.2.1;omega
     have lD:nD≤4000:=by have:=(Drv.greatN_small HFEW.out.net).2.2.2.1;have:=HNS.out.2.2.2.2.1;omega
     have lL:nL≤100:=by have:=HFEW.out.autos;have:=HNS.out.2.2.2.2.2;omega
     clear HNS4
     have HON:=hid (netOther_any w3 n SA TA UA QA DA sc tc uc qc dc (H.out.up HB3.out HB3.out.size) (Few.nets HFEW.out HKE.out) (fun s hs' e he=>(HKE.out s hs' e he).2))
     obtain⟨m1,m2,m3,m4,m5,m6⟩:=HNS.out
     unfold netAgg at HON
     rw[m1,m2,m3,m4,m5]at HON
     clear m1 m2 m3 m4 m5 m6
     go_wp2_with fail
     refine HON.out.mono ?_
     rintro e w4 ⟨A4,c4,rfl,hb,hn⟩
     have HB4:=hid (HB3.out.trans (hb.mono HB3.out.size))
     have HC4:=hid (HC3.out.trans (hb.mono HC3.out.size))
     obtain⟨m1,m2,m3,m4,m5,m6⟩:=HNS.out
     unfold netAgg
     rw[m1,m2,m3,m4,m5]
     have HN4:=hid hn
     have HBX:=hid hb
     clear hb hn HON m1 m2 m3 m4 m5 m6
     have HOS:=hid (others_any w4 au AA ac (HA.out.up HB4.out HB4.out.size) (by have:=HFEW.out.autos;omega) (Few.auts HFEW.out) HKA.out)
     obtain⟨m1,m2,m3,m4,m5,m6⟩:=HNS.out
     rw[m6]at HOS
     clear m1 m2 m3 m4 m5 m6
     go_wp2_with fail
     refine HOS.out.mono ?_
     rintro e w5 ⟨A5,c5,rfl,hb5,ha5⟩
     have HB5:=hid (HB4.out.trans (hb5.mono HB4.out.size))
     have HC5:=hid (HC4.out.trans (hb5.mono HC4.out.size))
     have HRN:=hid (rnew_any w5 n A4 TA UA QA DA A5 c4 tc uc qc dc c5 au ((HN4.out.below hb5).more hb5.size) (Few.nets HFEW.out HKE.out) ha5 (by have:=HFEW.out.autos;omega) (Few.auts HFEW.out))
     obtain⟨m1,m2,m3,m4,m5,m6⟩:=HNS.out
     unfold netAgg at HRN
     rw[m1,m2,m3,m4,m5,m6]at HRN
     rw[m6]
     clear hb5 ha5 HN4 HOS m1 m2 m3 m4 m5 m6
     go_wp2_with fail
     refine HRN.out.mono ?_
     rintro e w6 ⟨hb6,hcase⟩
     have HB6:=hid (HB5.out.trans (hb6.mono HB5.out.size))
     have HC6:=hid (HC5.out.trans (hb6.mono HC5.out.size))
     clear hb6 HRN k0 k1 k2 k3 k4 x0 x1 x2 x3 HBX
     obtain⟨k0,k1,k2,k3,k4,x0,x1,x2,x3⟩:=CN.out w6 HC6.out
     cases hnb:Drv.newB n au with
     | false=>
      obtain⟨hnf,rfl⟩:=hcase.resolve_right (fun h=>by rw[hnb]at h;exact absurd h.1 (by decide))
      clear hnf hnb
      dsimp only
      go_wp2_with fail
      refine(lives_any w6).mono ?_
      rintro e wl ⟨rfl,hbl⟩
      have HBL:=hid (HB6.out.trans (hbl.mono HB6.out.size))
      clear hbl
      dsimp only
      go_wp2_with fail
      go_ret
      exact⟨rfl,HBL.out⟩
     | true=>
      obtain⟨_,M,rfl,hM⟩:=hcase.resolve_left (fun h=>by rw[hnb]at h;exact absurd h.1 (by decide))
      have HNB:=hid hnb
      have HOK:=hid (Few.okNet HFEW.out hnb)
      have HM:=hid hM
      clear hnb hM
      dsimp only
      have HON:=hid (netOther_any w6 n SA TA UA QA DA sc tc uc qc dc (H.out.up HB6.out HB6.out.size) (Few.nets HFEW.out HKE.out) (fun s hs' e he=>(HKE.out s hs' e he).2))
      obtain⟨m1,m2,m3,m4,m5,m6⟩:=HNS.out
      unfold netAgg at HON
      rw[m1,m2,m3,m4,m5]at HON
      clear m1 m2 m3 m4 m5 m6
      go_wp2_with fail
      refine HON.out.mono ?_
      rintro e w7 ⟨A7,c7,rfl,hb,hn⟩
      have HB7:=hid (HB6.out.trans (hb.mono HB6.out.size))
      have HC7:=hid (HC6.out.trans (hb.mono HC6.out.size))
      obtain⟨m1,m2,m3,m4,m5,m6⟩:=HNS.out
      unfold netAgg
      rw[m1,m2,m3,m4,m5]
      have HN7:=hid hn
      have HBX:=hid hb
      clear hb hn HON m1 m2 m3 m4 m5 m6
      have HM7:=hid ((HM.out.below HBX.out).more HBX.out.size)
      clear HM HBX k0 k1 k2 k3 k4 x0 x1 x2 x3
      obtain⟨k0,k1,k2,k3,k4,x0,x1,x2,x3⟩:=CN.out w7 HC7.out
      go_upto_region 7 with fail
      obtain⟨w8,hw8⟩:∃x,x=w7.alloc (.cells #[.slice A7 nS c7,.slice TA nT tc,.slice UA nU uc,.slice QA nQ qc,.slice DA nD dc] 37):=⟨_,rfl⟩
      rw[←hw8]
      have hb8:Below w7.heap.size w7 w8:=by rw[hw8];exact below_new _ _
      have t8:w8.heap[w7.heap.size]? =some (.cells #[.slice A7 nS c7,.slice TA nT tc,.slice UA nU uc,.slice QA nQ qc,.slice DA nD dc] 37 (0,0)):=by rw[hw8];exact heap_alloc_new _ _
      have hol:=heap_lt t8
      have HB8:=hid (HB7.out.trans (hb8.mono HB7.out.size))
      have HC8:=hid (HC7.out.trans (hb8.mono HC7.out.size))
      have HM8:=hid ((HM7.out.below hb8).more hb8.size)
      have HT8:=hid t8
      have HO8:=hid (HN7.out.sts.below hb8)
      have HZ78:=hid hb8.size
      generalize hob:w7.heap.size=ob at HT8 HO8 HZ78 hol⊢
      clear hb8 t8 hw8 hob HM7 HN7 k0 k1 k2 k3 k4 x0 x1 x2 x3
      obtain⟨k0,k1,k2,k3,k4,x0,x1,x2,x3⟩:=CN.out w8 HC8.out
      have lnb:w.heap.size<w8.heap.size:=by have:=HB8.out.size;have:=HC8.out.size;omega
      have CT1:=hid (fun(u:World) (hb:Below w8.heap.size w8 u)=>twinN_any n.starts TA tc u (by have:=HNS.out.2.1;omega) ((H.out.starts.below (HB8.out.trans (hb.mono HB8.out.size))).more (Nat.le_trans HB8.out.size hb.size)))
      have CT2:=hid (fun(u:World) (hb:Below w8.heap.size w8 u)=>twinN_any n.stops UA uc u (by have:=HNS.out.2.2.1;omega) ((H.out.stops.below (HB8.out.trans (hb.mono HB8.out.size))).more (Nat.le_trans HB8.out.size hb.size)))
      have CT3:=hid (fun(u:World) (hb:Below w8.heap.size w8 u)=>twinN_any n.preds QA qc u (by have:=HNS.out.2.2.2.1;omega) ((H.out.preds.below (HB8.out.trans (hb.mono HB8.out.size))).more (Nat.le_trans HB8.out.size hb.size)))
      have CT4:=hid (fun(u:World) (hb:Below w8.heap.size w8 u)=>twinN_any n.decs DA dc u (by have:=HNS.out.2.2.2.2.1;omega) ((H.out.decs.below (HB8.out.trans (hb.mono HB8.out.size))).more (Nat.le_trans HB8.out.size hb.size)))
      obtain⟨m1,m2,m3,m4,m5,m6⟩:=HNS.out
      rw[m2]at CT1
      rw[m3]at CT2
      rw[m4]at CT3
      rw[m5]at CT4
      have HM2:=hid m2
      have HM3:=hid m3
      have HM4:=hid m4
      have HM5:=hid m5
      clear m1 m2 m3 m4 m5 m6
      have ST:=hid (fun(u:World) (hb:Below w8.heap.size w8 u)=>(show u.cell? ⟨w.heap.size,1,none⟩=some (.slice TA nT tc)∧u.cell? ⟨w.heap.size,2,none⟩=some (.slice UA nU uc)∧u.cell? ⟨w.heap.size,3,none⟩=some (.slice QA nQ qc)∧u.cell? ⟨w.heap.size,4,none⟩=some (.slice DA nD dc)from
       ⟨(hb.cell (p:=⟨w.heap.size,1,none⟩) lnb).trans k1,(hb.cell (p:=⟨w.heap.size,2,none⟩) lnb).trans k2,(hb.cell (p:=⟨w.heap.size,3,none⟩) lnb).trans k3,(hb.cell (p:=⟨w.heap.size,4,none⟩) lnb).trans k4⟩))
      go_cut[10]from 34 (fun v wx=>∃(cb g1 g2 g3 g4:Nat),v= .pointer (some ⟨cb,0,none⟩)∧Hid (CbK w8 n nT nU nQ nD cb g1 g2 g3 g4 wx))
      case first=>
       as_aux_lemma=>
        refine wp_region_late (l:=15) (S:=(fun w'=>w'.cell? ⟨w.heap.size,1,none⟩=some (.slice TA nT tc)∧w'.cell? ⟨w.heap.size,2,none⟩=some (.slice UA nU uc)∧w'.cell? ⟨w.heap.size,3,none⟩=some (.slice QA nQ qc)∧w'.cell? ⟨w.heap.size,4,none⟩=some (.slice DA nD dc))) (by kernel_rfl) ⟨k1,k2,k3,k4⟩ (fun hHeld=>?_)
        have HLwd:Below w8.heap.size w8 w8.drew:=⟨rfl,rfl,rfl,Nat.le_refl _,fun _ _=>rfl⟩
        generalize w8.drew=wd at hHeld HLwd⊢
        clear k0 k1 k2 k3 k4 x0 x1 x2 x3
        refine wpAnyF_take (i:=0) (.pointer (some ⟨w.heap.size,1,none⟩)) rfl (by kernel_rfl) (by kernel_rfl) (by kernel_rfl) (by kernel_rfl) (fun _ _ _ h=>h) hHeld (by rfl) (fun w' hSw=>?_) ?_
        ·obtain⟨k1,k2,k3,k4⟩:=hSw;go_simp
        try simp only[Act.put,List.getElem_toArray,List.getElem_cons_zero,List.setIfInBounds_toArray,List.set_cons_zero,List.set_cons_succ]
        refine wpAnyF_take (i:=1) (.slice TA nT tc) rfl (by kernel_rfl) (by kernel_rfl) (by kernel_rfl) (by kernel_rfl) (fun _ _ _ h=>h) hHeld (by rfl) (fun w' hSw=>?_) ?_
        ·obtain⟨k1,k2,k3,k4⟩:=hSw;go_simp
        try simp only[Act.put,List.getElem_toArray,List.getElem_cons_zero,List.getElem_cons_succ,List.setIfInBounds_toArray,List.set_cons_zero,List.set_cons_succ]
        refine wpAnyF_take (i:=3) (.pointer (some ⟨w.heap.size,2,none⟩)) rfl (by kernel_rfl) (by kernel_rfl) (by kernel_rfl) (by kernel_rfl) (fun _ _ _ h=>h) hHeld (by rfl) (fun w' hSw=>?_) ?_
        ·obtain⟨k1,k2,k3,k4⟩:=hSw;go_simp
        try simp only[Act.put,List.getElem_toArray,List.getElem_cons_zero,List.getElem_cons_succ,List.setIfInBounds_toArray,List.set_cons_zero,List.set_cons_succ]
        refine wpAnyF_take (i:=4) (.slice UA nU uc) rfl (by kernel_rfl) (by kernel_rfl) (by kernel_rfl) (by kernel_rfl) (fun _ _ _ h=>h) hHeld (by rfl) (fun w' hSw=>?_) ?_
        ·obtain⟨k1,k2,k3,k4⟩:=hSw;go_simp
        try simp only[Act.put,List.getElem_toArray,List.getElem_cons_zero,List.getElem_cons_succ,List.setIfInBounds_toArray,List.set_cons_zero,List.set_cons_succ]
        refine wpAnyF_take (i:=6) (.pointer (some ⟨w.heap.size,3,none⟩)) rfl (by kernel_rfl) (by kernel_rfl) (by kernel_rfl) (by kernel_rfl) (fun _ _ _ h=>h) hHeld (by rfl) (fun w' hSw=>?_) ?_
        ·obtain⟨k1,k2,k3,k4⟩:=hSw;go_simp
        try simp only[Act.put,List.getElem_toArray,List.getElem_cons_zero,List.getElem_cons_succ,List.setIfInBounds_toArray,List.set_cons_zero,List.set_cons_succ]
        refine wpAnyF_take (i:=7) (.slice QA nQ qc) rfl (by kernel_rfl) (by kernel_rfl) (by kernel_rfl) (by kernel_rfl) (fun _ _ _ h=>h) hHeld (by rfl) (fun w' hSw=>?_) ?_
        ·obtain⟨k1,k2,k3,k4⟩:=hSw;go_simp
        try simp only[Act.put,List.getElem_toArray,List.getElem_cons_zero,List.getElem_cons_succ,List.setIfInBounds_toArray,List.set_cons_zero,List.set_cons_succ]
        refine wpAnyF_take (i:=9) (.pointer (some ⟨w.heap.size,4,none⟩)) rfl (by kernel_rfl) (by kernel_rfl) (by kernel_rfl) (by kernel_rfl) (fun _ _ _ h=>h) hHeld (by rfl) (fun w' hSw=>?_) ?_
        ·obtain⟨k1,k2,k3,k4⟩:=hSw;go_simp
        try simp only[Act.put,List.getElem_toArray,List.getElem_cons_zero,List.getElem_cons_succ,List.setIfInBounds_toArray,List.set_cons_zero,List.set_cons_succ]
        refine wpAnyF_take (i:=10) (.slice DA nD dc) rfl (by kernel_rfl) (by kernel_rfl) (by kernel_rfl) (by kernel_rfl) (fun _ _ _ h=>h) hHeld (by rfl) (fun w' hSw=>?_) ?_
        ·obtain⟨k1,k2,k3,k4⟩:=hSw;go_simp
        try simp only[Act.put,List.getElem_toArray,List.getElem_cons_zero,List.getElem_cons_succ,List.setIfInBounds_toArray,List.set_cons_zero,List.set_cons_succ]
        refine wpAnyF_two 2 13 (by kernel_rfl) rfl rfl (fun K hK=>?_) (fun K hK=>?_)
        ·go_simp
         go_at_call 11
         refine(CT1.out wd HLwd).mono ?_
         rintro e wdc ⟨g1,rfl,own1,hbwdc⟩
         rw[HM2.out]
         have HLwdc:=HLwd.trans (hbwdc.mono HLwd.size)
         have r1:TwK wdc w8.heap.size g1 n.starts:=TwK.base own1 HLwd.size
         dsimp only
         refine hK _ _ (ST.out _ HLwdc) (fun hHeld=>?_)
         clear hK own1
         clear K
         try simp only[Act.put,List.getElem_toArray,List.getElem_cons_zero,List.getElem_cons_succ,List.setIfInBounds_toArray,List.set_cons_zero,List.set_cons_succ]
         refine wpAnyF_two 5 13 (by kernel_rfl) rfl rfl (fun K hK=>?_) (fun K hK=>?_)
         ·go_simp
          go_at_call 11
          refine(CT2.out wdc HLwdc).mono ?_
          rintro e wdcc ⟨g2,rfl,own2,hbwdcc⟩
          rw[HM3.out]
          have HLwdcc:=HLwdc.trans (hbwdcc.mono HLwdc.size)
          have r2:TwK wdcc w8.heap.size g2 n.stops:=TwK.base own2 HLwdc.size
          dsimp only
          have r1:=r1.next hbwdcc
          refine hK _ _ (ST.out _ HLwdcc) (fun hHeld=>?_)
          clear hK own2
          clear K
          try simp only[Act.put,List.getElem_toArray,List.getElem_cons_zero,List.getElem_cons_succ,List.setIfInBounds_toArray,List.set_cons_zero,List.set_cons_succ]
          refine wpAnyF_two 8 13 (by kernel_rfl) rfl rfl (fun K hK=>?_) (fun K hK=>?_)
          ·go_simp
           go_at_call 11
           refine(CT3.out wdcc HLwdcc).mono ?_
           rintro e wdccc ⟨g3,rfl,own3,hbwdccc⟩
           rw[HM4.out]
           have HLwdccc:=HLwdcc.trans (hbwdccc.mono HLwdcc.size)
           have r3:TwK wdccc w8.heap.size g3 n.preds:=TwK.base own3 HLwdcc.size
           dsimp only
           have r1:=r1.next hbwdccc
           have r2:=r2.next hbwdccc
           refine hK _ _ (ST.out _ HLwdccc) (fun hHeld=>?_)
           clear hK own3
           clear K
           try simp only[Act.put,List.getElem_toArray,List.getElem_cons_zero,List.getElem_cons_succ,List.setIfInBounds_toArray,List.set_cons_zero,List.set_cons_succ]
           refine wpAnyF_two 11 13 (by kernel_rfl) rfl rfl (fun K hK=>?_) (fun K hK=>?_)
           ·go_simp
            go_at_call 11
            refine(CT4.out wdccc HLwdccc).mono ?_
            rintro e wdcccc ⟨g4,rfl,own4,hbwdcccc⟩
            rw[HM5.out]
            have HLwdcccc:=HLwdccc.trans (hbwdcccc.mono HLwdccc.size)
            have r4:TwK wdcccc w8.heap.size g4 n.decs:=TwK.base own4 HLwdccc.size
            dsimp only
            have r1:=r1.next hbwdcccc
            have r2:=r2.next hbwdcccc
            have r3:=r3.next hbwdcccc
            refine hK _ _ (ST.out _ HLwdcccc) (fun hHeld=>?_)
            clear hK own4
            clear K
            try simp only[Act.put,List.getElem_toArray,List.getElem_cons_zero,List.getElem_cons_succ,List.setIfInBounds_toArray,List.set_cons_zero,List.set_cons_succ]
            refine wpAnyF_take (i:=12) (.agg #[.slice none 0 0,.slice (some ⟨g1,0,none⟩) nT (nT+2),.slice (some ⟨g2,0,none⟩) nU (nU+2),.slice (some ⟨g3,0,none⟩) nQ (nQ+2),.slice (some ⟨g4,0,none⟩) nD (nD+2)]) rfl (by kernel_rfl) (by kernel_rfl) (by kernel_rfl) (by kernel_rfl) (fun _ _ _ h=>h) hHeld (by rfl) (fun w' hSw=>?_) ?_
            ·obtain⟨k1,k2,k3,k4⟩:=hSw;go_simp
            try simp only[Act.put,List.getElem_toArray,List.getElem_cons_zero,List.getElem_cons_succ,List.setIfInBounds_toArray,List.set_cons_zero,List.set_cons_succ]
            refine wpAnyF_step 13 (by kernel_rfl) rfl (fun K hK=>?_)
            go_simp
            have hbwdcccca:Below wdcccc.heap.size wdcccc (wdcccc.alloc (.cells #[.slice none 0 0,.slice none 0 0,.slice none 0 0,.slice none 0 0,.slice none 0 0] 25)):=below_new _ _
            have TB:=heap_alloc_new wdcccc (.cells #[.slice none 0 0,.slice none 0 0,.slice none 0 0,.slice none 0 0,.slice none 0 0] 25)
            have HLwdcccca:=HLwdcccc.trans (hbwdcccca.mono HLwdcccc.size)
            have hcb:=HLwdcccc.size
            have r1:=r1.next hbwdcccca
            have r2:=r2.next hbwdcccca
            have r3:=r3.next hbwdcccca
            have r4:=r4.next hbwdcccca
            refine hK _ _ (ST.out _ HLwdcccca) (fun hHeld=>?_)
            clear hK
            clear K
            generalize wdcccc.alloc (.cells #[.slice none 0 0,.slice none 0 0,.slice none 0 0,.slice none 0 0,.slice none 0 0] 25)=wdcccca at hbwdcccca TB HLwdcccca r1 r2 r3 r4 hHeld⊢
            generalize wdcccc.heap.size=cb at TB hcb⊢
            try simp only[Act.put,List.getElem_toArray,List.getElem_cons_zero,List.getElem_cons_succ,List.setIfInBounds_toArray,List.set_cons_zero,List.set_cons_succ]
            have HF:=hid (cbk (nT:=nT) (nU:=nU) (nQ:=nQ) (nD:=nD) HLwdcccca hcb TB r1 r2 r3 r4)
            refine wpAnyF_step 14 (by kernel_rfl) rfl (fun K hK=>?_)
            obtain⟨⟨y0,y1,y2,y3,y4⟩,yz⟩:=cells5z TB
            go_simp
            refine hK _ _ (ST.out _ HF.out.below) (fun hHeld=>?_)
            clear hK
            clear K
            try simp only[Act.put,List.getElem_toArray,List.getElem_cons_zero,List.getElem_cons_succ,List.setIfInBounds_toArray,List.set_cons_zero,List.set_cons_succ]
            refine⟨by kernel_rfl,?_⟩
            clear y0 y1 y2 y3 y4 yz hHeld r1 r2 r3 r4 TB
            go_wp2_with fail
            go_meet
            exact⟨cb,g1,g2,g3,g4,rfl,HF⟩
           ·go_simp
            have hbwdccca:Below wdccc.heap.size wdccc (wdccc.alloc (.cells #[.slice none 0 0,.slice none 0 0,.slice none 0 0,.slice none 0 0,.slice none 0 0] 25)):=below_new _ _
            have TB:=heap_alloc_new wdccc (.cells #[.slice none 0 0,.slice none 0 0,.slice none 0 0,.slice none 0 0,.slice none 0 0] 25)
            have HLwdccca:=HLwdccc.trans (hbwdccca.mono HLwdccc.size)
            have hcb:=HLwdccc.size
            have r1:=r1.next hbwdccca
            have r2:=r2.next hbwdccca
            have r3:=r3.next hbwdccca
            refine hK _ _ (ST.out _ HLwdccca) (fun hHeld=>?_)
            clear hK
            clear K
            generalize wdccc.alloc (.cells #[.slice none 0 0,.slice none 0 0,.slice none 0 0,.slice none 0 0,.slice none 0 0] 25)=wdccca at hbwdccca TB HLwdccca r1 r2 r3 hHeld⊢
            generalize wdccc.heap.size=cb at TB hcb⊢
            try simp only[Act.put,List.getElem_toArray,List.getElem_cons_zero,List.getElem_cons_succ,List.setIfInBounds_toArray,List.set_cons_zero,List.set_cons_succ]
            refine wpAnyF_step 11 (by kernel_rfl) rfl (fun K hK=>?_)
            go_simp
            go_at_call 11
            refine(CT4.out wdccca HLwdccca).mono ?_
            rintro e wdcccac ⟨g4,rfl,own4,hbwdcccac⟩
            rw[HM5.out]
            have HLwdcccac:=HLwdccca.trans (hbwdcccac.mono HLwdccca.size)
            have r4:TwK wdcccac w8.heap.size g4 n.decs:=TwK.base own4 HLwdccca.size
            dsimp only
            have r1:=r1.next hbwdcccac
            have r2:=r2.next hbwdcccac
            have r3:=r3.next hbwdcccac
            have TB:=(hbwdcccac.block _ (heap_lt TB)).trans TB
            refine hK _ _ (ST.out _ HLwdcccac) (fun hHeld=>?_)
            clear hK own4
            clear K
            try simp only[Act.put,List.getElem_toArray,List.getElem_cons_zero,List.getElem_cons_succ,List.setIfInBounds_toArray,List.set_cons_zero,List.set_cons_succ]
            refine wpAnyF_take (i:=12) (.agg #[.slice none 0 0,.slice (some ⟨g1,0,none⟩) nT (nT+2),.slice (some ⟨g2,0,none⟩) nU (nU+2),.slice (some ⟨g3,0,none⟩) nQ (nQ+2),.slice (some ⟨g4,0,none⟩) nD (nD+2)]) rfl (by kernel_rfl) (by kernel_rfl) (by kernel_rfl) (by kernel_rfl) (fun _ _ _ h=>h) hHeld (by rfl) (fun w' hSw=>?_) ?_
            ·obtain⟨k1,k2,k3,k4⟩:=hSw;go_simp
            try simp only[Act.put,List.getElem_toArray,List.getElem_cons_zero,List.getElem_cons_succ,List.setIfInBounds_toArray,List.set_cons_zero,List.set_cons_succ]
            have HF:=hid (cbk (nT:=nT) (nU:=nU) (nQ:=nQ) (nD:=nD) HLwdcccac hcb TB r1 r2 r3 r4)
            refine wpAnyF_step 14 (by kernel_rfl) rfl (fun K hK=>?_)
            obtain⟨⟨y0,y1,y2,y3,y4⟩,yz⟩:=cells5z TB
            go_simp
            refine hK _ _ (ST.out _ HF.out.below) (fun hHeld=>?_)
            clear hK
            clear K
            try simp only[Act.put,List.getElem_toArray,List.getElem_cons_zero,List.getElem_cons_succ,List.setIfInBounds_toArray,List.set_cons_zero,List.set_cons_succ]
            refine⟨by kernel_rfl,?_⟩
            clear y0 y1 y2 y3 y4 yz hHeld r1 r2 r3 r4 TB
            go_wp2_with fail
            go_meet
            exact⟨cb,g1,g2,g3,g4,rfl,HF⟩
          ·go_simp
           have hbwdcca:Below wdcc.heap.size wdcc (wdcc.alloc (.cells #[.slice none 0 0,.slice none 0 0,.slice none 0 0,.slice none 0 0,.slice none 0 0] 25)):=below_new _ _
           have TB:=heap_alloc_new wdcc (.cells #[.slice none 0 0,.slice none 0 0,.slice none 0 0,.slice none 0 0,.slice none 0 0] 25)
           have HLwdcca:=HLwdcc.trans (hbwdcca.mono HLwdcc.size)
           have hcb:=HLwdcc.size
           have r1:=r1.next hbwdcca
           have r2:=r2.next hbwdcca
           refine hK _ _ (ST.out _ HLwdcca) (fun hHeld=>?_)
           clear hK
           clear K
           generalize wdcc.alloc (.cells #[.slice none 0 0,.slice none 0 0,.slice none 0 0,.slice none 0 0,.slice none 0 0] 25)=wdcca at hbwdcca TB HLwdcca r1 r2 hHeld⊢
           generalize wdcc.heap.size=cb at TB hcb⊢
           try simp only[Act.put,List.getElem_toArray,List.getElem_cons_zero,List.getElem_cons_succ,List.setIfInBounds_toArray,List.set_cons_zero,List.set_cons_succ]
           refine wpAnyF_step 8 (by kernel_rfl) rfl (fun K hK=>?_)
           go_simp
           go_at_call 11
           refine(CT3.out wdcca HLwdcca).mono ?_
           rintro e wdccac ⟨g3,rfl,own3,hbwdccac⟩
           rw[HM4.out]
           have HLwdccac:=HLwdcca.trans (hbwdccac.mono HLwdcca.size)
           have r3:TwK wdccac w8.heap.size g3 n.preds:=TwK.base own3 HLwdcca.size
           dsimp only
           have r1:=r1.next hbwdccac
           have r2:=r2.next hbwdccac
           have TB:=(hbwdccac.block _ (heap_lt TB)).trans TB
           refine hK _ _ (ST.out _ HLwdccac) (fun hHeld=>?_)
           clear hK own3
           clear K
           try simp only[Act.put,List.getElem_toArray,List.getElem_cons_zero,List.getElem_cons_succ,List.setIfInBounds_toArray,List.set_cons_zero,List.set_cons_succ]
           refine wpAnyF_step 11 (by kernel_rfl) rfl (fun K hK=>?_)
           go_simp
           go_at_call 11
           refine(CT4.out wdccac HLwdccac).mono ?_
           rintro e wdccacc ⟨g4,rfl,own4,hbwdccacc⟩
           rw[HM5.out]
           have HLwdccacc:=HLwdccac.trans (hbwdccacc.mono HLwdccac.size)
           have r4:TwK wdccacc w8.heap.size g4 n.decs:=TwK.base own4 HLwdccac.size
           dsimp only
           have r1:=r1.next hbwdccacc
           have r2:=r2.next hbwdccacc
           have r3:=r3.next hbwdccacc
           have TB:=(hbwdccacc.block _ (heap_lt TB)).trans TB
           refine hK _ _ (ST.out _ HLwdccacc) (fun hHeld=>?_)
           clear hK own4
           clear K
           try simp only[Act.put,List.getElem_toArray,List.getElem_cons_zero,List.getElem_cons_succ,List.setIfInBounds_toArray,List.set_cons_zero,List.set_cons_succ]
           refine wpAnyF_take (i:=12) (.agg #[.slice none 0 0,.slice (some ⟨g1,0,none⟩) nT (nT+2),.slice (some ⟨g2,0,none⟩) nU (nU+2),.slice (some ⟨g3,0,none⟩) nQ (nQ+2),.slice (some ⟨g4,0,none⟩) nD (nD+2)]) rfl (by kernel_rfl) (by kernel_rfl) (by kernel_rfl) (by kernel_rfl) (fun _ _ _ h=>h) hHeld (by rfl) (fun w' hSw=>?_) ?_
           ·obtain⟨k1,k2,k3,k4⟩:=hSw;go_simp
           try simp only[Act.put,List.getElem_toArray,List.getElem_cons_zero,List.getElem_cons_succ,List.setIfInBounds_toArray,List.set_cons_zero,List.set_cons_succ]
           have HF:=hid (cbk (nT:=nT) (nU:=nU) (nQ:=nQ) (nD:=nD) HLwdccacc hcb TB r1 r2 r3 r4)
           refine wpAnyF_step 14 (by kernel_rfl) rfl (fun K hK=>?_)
           obtain⟨⟨y0,y1,y2,y3,y4⟩,yz⟩:=cells5z TB
           go_simp
           refine hK _ _ (ST.out _ HF.out.below) (fun hHeld=>?_)
           clear hK
           clear K
           try simp only[Act.put,List.getElem_toArray,List.getElem_cons_zero,List.getElem_cons_succ,List.setIfInBounds_toArray,List.set_cons_zero,List.set_cons_succ]
           refine⟨by kernel_rfl,?_⟩
           clear y0 y1 y2 y3 y4 yz hHeld r1 r2 r3 r4 TB
           go_wp2_with fail
           go_meet
           exact⟨cb,g1,g2,g3,g4,rfl,HF⟩
         ·go_simp
          have hbwdca:Below wdc.heap.size wdc (wdc.alloc (.cells #[.slice none 0 0,.slice none 0 0,.slice none 0 0,.slice none 0 0,.slice none 0 0] 25)):=below_new _ _
          have TB:=heap_alloc_new wdc (.cells #[.slice none 0 0,.slice none 0 0,.slice none 0 0,.slice none 0 0,.slice none 0 0] 25)
          have HLwdca:=HLwdc.trans (hbwdca.mono HLwdc.size)
          have hcb:=HLwdc.size
          have r1:=r1.next hbwdca
          refine hK _ _ (ST.out _ HLwdca) (fun hHeld=>?_)
          clear hK
          clear K
          generalize wdc.alloc (.cells #[.slice none 0 0,.slice none 0 0,.slice none 0 0,.slice none 0 0,.slice none 0 0] 25)=wdca at hbwdca TB HLwdca r1 hHeld⊢
          generalize wdc.heap.size=cb at TB hcb⊢
          try simp only[Act.put,List.getElem_toArray,List.getElem_cons_zero,List.getElem_cons_succ,List.setIfInBounds_toArray,List.set_cons_zero,List.set_cons_succ]
          refine wpAnyF_step 5 (by kernel_rfl) rfl (fun K hK=>?_)
          go_simp
          go_at_call 11
          refine(CT2.out wdca HLwdca).mono ?_
          rintro e wdcac ⟨g2,rfl,own2,hbwdcac⟩
          rw[HM3.out]
          have HLwdcac:=HLwdca.trans (hbwdcac.mono HLwdca.size)
          have r2:TwK wdcac w8.heap.size g2 n.stops:=TwK.base own2 HLwdca.size
          dsimp only
          have r1:=r1.next hbwdcac
          have TB:=(hbwdcac.block _ (heap_lt TB)).trans TB
          refine hK _ _ (ST.out _ HLwdcac) (fun hHeld=>?_)
          clear hK own2
          clear K
          try simp only[Act.put,List.getElem_toArray,List.getElem_cons_zero,List.getElem_cons_succ,List.setIfInBounds_toArray,List.set_cons_zero,List.set_cons_succ]
          refine wpAnyF_step 8 (by kernel_rfl) rfl (fun K hK=>?_)
          go_simp
          go_at_call 11
          refine(CT3.out wdcac HLwdcac).mono ?_
          rintro e wdcacc ⟨g3,rfl,own3,hbwdcacc⟩
          rw[HM4.out]
          have HLwdcacc:=HLwdcac.trans (hbwdcacc.mono HLwdcac.size)
          have r3:TwK wdcacc w8.heap.size g3 n.preds:=TwK.base own3 HLwdcac.size
          dsimp only
          have r1:=r1.next hbwdcacc
          have r2:=r2.next hbwdcacc
          have TB:=(hbwdcacc.block _ (heap_lt TB)).trans TB
          refine hK _ _ (ST.out _ HLwdcacc) (fun hHeld=>?_)
          clear hK own3
          clear K
          try simp only[Act.put,List.getElem_toArray,List.getElem_cons_zero,List.getElem_cons_succ,List.setIfInBounds_toArray,List.set_cons_zero,List.set_cons_succ]
          refine wpAnyF_step 11 (by kernel_rfl) rfl (fun K hK=>?_)
          go_simp
          go_at_call 11
          refine(CT4.out wdcacc HLwdcacc).mono ?_
          rintro e wdcaccc ⟨g4,rfl,own4,hbwdcaccc⟩
          rw[HM5.out]
          have HLwdcaccc:=HLwdcacc.trans (hbwdcaccc.mono HLwdcacc.size)
          have r4:TwK wdcaccc w8.heap.size g4 n.decs:=TwK.base own4 HLwdcacc.size
          dsimp only
          have r1:=r1.next hbwdcaccc
          have r2:=r2.next hbwdcaccc
          have r3:=r3.next hbwdcaccc
          have TB:=(hbwdcaccc.block _ (heap_lt TB)).trans TB
          refine hK _ _ (ST.out _ HLwdcaccc) (fun hHeld=>?_)
          clear hK own4
          clear K
          try simp only[Act.put,List.getElem_toArray,List.getElem_cons_zero,List.getElem_cons_succ,List.setIfInBounds_toArray,List.set_cons_zero,List.set_cons_succ]
          refine wpAnyF_take (i:=12) (.agg #[.slice none 0 0,.slice (some ⟨g1,0,none⟩) nT (nT+2),.slice (some ⟨g2,0,none⟩) nU (nU+2),.slice (some ⟨g3,0,none⟩) nQ (nQ+2),.slice (some ⟨g4,0,none⟩) nD (nD+2)]) rfl (by kernel_rfl) (by kernel_rfl) (by kernel_rfl) (by kernel_rfl) (fun _ _ _ h=>h) hHeld (by rfl) (fun w' hSw=>?_) ?_
          ·obtain⟨k1,k2,k3,k4⟩:=hSw;go_simp
          try simp only[Act.put,List.getElem_toArray,List.getElem_cons_zero,List.getElem_cons_succ,List.setIfInBounds_toArray,List.set_cons_zero,List.set_cons_succ]
          have HF:=hid (cbk (nT:=nT) (nU:=nU) (nQ:=nQ) (nD:=nD) HLwdcaccc hcb TB r1 r2 r3 r4)
          refine wpAnyF_step 14 (by kernel_rfl) rfl (fun K hK=>?_)
          obtain⟨⟨y0,y1,y2,y3,y4⟩,yz⟩:=cells5z TB
          go_simp
          refine hK _ _ (ST.out _ HF.out.below) (fun hHeld=>?_)
          clear hK
          clear K
          try simp only[Act.put,List.getElem_toArray,List.getElem_cons_zero,List.getElem_cons_succ,List.setIfInBounds_toArray,List.set_cons_zero,List.set_cons_succ]
          refine⟨by kernel_rfl,?_⟩
          clear y0 y1 y2 y3 y4 yz hHeld r1 r2 r3 r4 TB
          go_wp2_with fail
          go_meet
          exact⟨cb,g1,g2,g3,g4,rfl,HF⟩
        ·go_simp
         have hbwda:Below wd.heap.size wd (wd.alloc (.cells #[.slice none 0 0,.slice none 0 0,.slice none 0 0,.slice none 0 0,.slice none 0 0] 25)):=below_new _ _
         have TB:=heap_alloc_new wd (.cells #[.slice none 0 0,.slice none 0 0,.slice none 0 0,.slice none 0 0,.slice none 0 0] 25)
         have HLwda:=HLwd.trans (hbwda.mono HLwd.size)
         have hcb:=HLwd.size
         refine hK _ _ (ST.out _ HLwda) (fun hHeld=>?_)
         clear hK
         clear K
         generalize wd.alloc (.cells #[.slice none 0 0,.slice none 0 0,.slice none 0 0,.slice none 0 0,.slice none 0 0] 25)=wda at hbwda TB HLwda hHeld⊢
         generalize wd.heap.size=cb at TB hcb⊢
         try simp only[Act.put,List.getElem_toArray,List.getElem_cons_zero,List.getElem_cons_succ,List.setIfInBounds_toArray,List.set_cons_zero,List.set_cons_succ]
         refine wpAnyF_step 2 (by kernel_rfl) rfl (fun K hK=>?_)
         go_simp
         go_at_call 11
         refine(CT1.out wda HLwda).mono ?_
         rintro e wdac ⟨g1,rfl,own1,hbwdac⟩
         rw[HM2.out]
         have HLwdac:=HLwda.trans (hbwdac.mono HLwda.size)
         have r1:TwK wdac w8.heap.size g1 n.starts:=TwK.base own1 HLwda.size
         dsimp only
         have TB:=(hbwdac.block _ (heap_lt TB)).trans TB
         refine hK _ _ (ST.out _ HLwdac) (fun hHeld=>?_)
         clear hK own1
         clear K
         try simp only[Act.put,List.getElem_toArray,List.getElem_cons_zero,List.getElem_cons_succ,List.setIfInBounds_toArray,List.set_cons_zero,List.set_cons_succ]
         refine wpAnyF_step 5 (by kernel_rfl) rfl (fun K hK=>?_)
         go_simp
         go_at_call 11
         refine(CT2.out wdac HLwdac).mono ?_
         rintro e wdacc ⟨g2,rfl,own2,hbwdacc⟩
         rw[HM3.out]
         have HLwdacc:=HLwdac.trans (hbwdacc.mono HLwdac.size)
         have r2:TwK wdacc w8.heap.size g2 n.stops:=TwK.base own2 HLwdac.size
         dsimp only
         have r1:=r1.next hbwdacc
         have TB:=(hbwdacc.block _ (heap_lt TB)).trans TB
         refine hK _ _ (ST.out _ HLwdacc) (fun hHeld=>?_)
         clear hK own2
         clear K
         try simp only[Act.put,List.getElem_toArray,List.getElem_cons_zero,List.getElem_cons_succ,List.setIfInBounds_toArray,List.set_cons_zero,List.set_cons_succ]
         refine wpAnyF_step 8 (by kernel_rfl) rfl (fun K hK=>?_)
         go_simp
         go_at_call 11
         refine(CT3.out wdacc HLwdacc).mono ?_
         rintro e wdaccc ⟨g3,rfl,own3,hbwdaccc⟩
         rw[HM4.out]
         have HLwdaccc:=HLwdacc.trans (hbwdaccc.mono HLwdacc.size)
         have r3:TwK wdaccc w8.heap.size g3 n.preds:=TwK.base own3 HLwdacc.size
         dsimp only
         have r1:=r1.next hbwdaccc
         have r2:=r2.next hbwdaccc
         have TB:=(hbwdaccc.block _ (heap_lt TB)).trans TB
         refine hK _ _ (ST.out _ HLwdaccc) (fun hHeld=>?_)
         clear hK own3
         clear K
         try simp only[Act.put,List.getElem_toArray,List.getElem_cons_zero,List.getElem_cons_succ,List.setIfInBounds_toArray,List.set_cons_zero,List.set_cons_succ]
         refine wpAnyF_step 11 (by kernel_rfl) rfl (fun K hK=>?_)
         go_simp
         go_at_call 11
         refine(CT4.out wdaccc HLwdaccc).mono ?_
         rintro e wdacccc ⟨g4,rfl,own4,hbwdacccc⟩
         rw[HM5.out]
         have HLwdacccc:=HLwdaccc.trans (hbwdacccc.mono HLwdaccc.size)
         have r4:TwK wdacccc w8.heap.size g4 n.decs:=TwK.base own4 HLwdaccc.size
         dsimp only
         have r1:=r1.next hbwdacccc
         have r2:=r2.next hbwdacccc
         have r3:=r3.next hbwdacccc
         have TB:=(hbwdacccc.block _ (heap_lt TB)).trans TB
         refine hK _ _ (ST.out _ HLwdacccc) (fun hHeld=>?_)
         clear hK own4
         clear K
         try simp only[Act.put,List.getElem_toArray,List.getElem_cons_zero,List.getElem_cons_succ,List.setIfInBounds_toArray,List.set_cons_zero,List.set_cons_succ]
         refine wpAnyF_take (i:=12) (.agg #[.slice none 0 0,.slice (some ⟨g1,0,none⟩) nT (nT+2),.slice (some ⟨g2,0,none⟩) nU (nU+2),.slice (some ⟨g3,0,none⟩) nQ (nQ+2),.slice (some ⟨g4,0,none⟩) nD (nD+2)]) rfl (by kernel_rfl) (by kernel_rfl) (by kernel_rfl) (by kernel_rfl) (fun _ _ _ h=>h) hHeld (by rfl) (fun w' hSw=>?_) ?_
         ·obtain⟨k1,k2,k3,k4⟩:=hSw;go_simp
         try simp only[Act.put,List.getElem_toArray,List.getElem_cons_zero,List.getElem_cons_succ,List.setIfInBounds_toArray,List.set_cons_zero,List.set_cons_succ]
         have HF:=hid (cbk (nT:=nT) (nU:=nU) (nQ:=nQ) (nD:=nD) HLwdacccc hcb TB r1 r2 r3 r4)
         refine wpAnyF_step 14 (by kernel_rfl) rfl (fun K hK=>?_)
         obtain⟨⟨y0,y1,y2,y3,y4⟩,yz⟩:=cells5z TB
         go_simp
         refine hK _ _ (ST.out _ HF.out.below) (fun hHeld=>?_)
         clear hK
         clear K
         try simp only[Act.put,List.getElem_toArray,List.getElem_cons_zero,List.getElem_cons_succ,List.setIfInBounds_toArray,List.set_cons_zero,List.set_cons_succ]
         refine⟨by kernel_rfl,?_⟩
         clear y0 y1 y2 y3 y4 yz hHeld r1 r2 r3 r4 TB
         go_wp2_with fail
         go_meet
         exact⟨cb,g1,g2,g3,g4,rfl,HF⟩
      case rest=>
       rename World=>w9
       obtain⟨cb,g1,g2,g3,g4,rfl,hK9⟩:=hcut
       have CB:=hK9.out
       have HCB:=hid CB
       have hcl:=heap_lt CB.blk
       have s89:=CB.below.size
       have hcge:=CB.ge
       have HB9:=hid (HB8.out.trans (CB.below.mono HB8.out.size))
       have HC9:=hid (HC8.out.trans (CB.below.mono HC8.out.size))
       have HI0:Hid (KcI w9 cb (ncK g1 g2 g3 g4 nT nU nQ nD) n.states 0 w9):=hid ⟨_,_,RowBox.start CB.blk,fun _ _ h=>absurd h (Nat.not_lt_zero _)⟩
       have s28:=HC8.out.size
       clear CB hK9 k0 k1 k2 k3 k4 x0 x1 x2 x3 ST CT1 CT2 CT3 CT4
       go_wp2_with fail
       go_loopw[11] (fun i wr=>∃k:Nat,k≤nS∧i= .int .i64 k∧Hid (KcI w9 cb (ncK g1 g2 g3 g4 nT nU nQ nD) n.states k wr)) (fun i _=>nS-(intOf i).toNat)
       case atStart=>exact⟨0,by omega,by simp,HI0⟩
       case round=>
        clear HI0
        obtain⟨k,hk,rfl,hH⟩:=hrel
        obtain⟨v,vs,hR,hst⟩:=hH.out
        have sR:=hR.only.size
        have hBR:Below w8.heap.size w8 wr:=hR.only.below (fun j e=>by omega) HCB.out.below s89
        have hCR:=HC8.out.trans (hBR.mono s28)
        have hBw:=HB8.out.trans (hBR.mono HB8.out.size)
        obtain⟨k0,k1,k2,k3,k4,x0,x1,x2,x3⟩:=CN.out wr hCR
        have o0:wr.cell? ⟨ob,0,none⟩=some (.slice A7 nS c7):=(hBR.cell (p:=⟨ob,0,none⟩) hol).trans (by rw[Lib.cell_of_heap HT8.out];rfl)
        by_cases hlt:k<nS
        ·as_aux_lemma=>
          have hkl:k<n.states.length:=by rw[HNS.out.1];exact hlt
          have hBo:Below ob w8 wr:=hBR.mono (Nat.le_of_lt hol)
          obtain⟨b2,off2,EA2,ec2,XA,xc,rfl,hbl2,f0,f1,f2,rr0,rr1⟩:=(HO8.out.below hBo).at hkl
          obtain⟨b,off,EA,ec,XA2,xc2,rfl,hbl,e0,e1,e2,r0,r1⟩:=(H.out.sts.below hBw).at hkl
          have hsz:=(Few.nets HFEW.out HKE.out).st _ (List.getElem_mem hkl)
          generalize hxk:n.states[k]=x at e0 e1 e2 f0 f1 f2 r0 r1 rr0 rr1 hsz
          obtain⟨nX,hnX⟩:∃m,x.ends.length=m:=⟨_,rfl⟩
          obtain⟨nE,hnE⟩:∃m,x.edges.length=m:=⟨_,rfl⟩
          rw[hnX]at f2 rr1
          rw[hnE]at e1 r0
          rw[hnX,hnE]at hsz
          obtain⟨q1',q2',_⟩:=hsz
          have hbl':b<wr.heap.size:=by have:=hBw.size;omega
          have hbl2':b2<wr.heap.size:=by omega
          have hnbl:w.heap.size<wr.heap.size:=by omega
          have hobl:ob<wr.heap.size:=by omega
          have HX:=hid hxk
          have HNX:=hid hnX
          have HNE:=hid hnE
          have HR:=hid hR
          have HST:=hid hst
          have HBR:=hid hBR
          have CTX:=hid (fun(u:World) (hb:Below wr.heap.size wr u)=>twinN_any x.ends XA xc u (by rw[hnX];omega) (by rw[hnX];exact(rr1.below (hb.mono (by omega))).more (by have:=hb.size;omega)))
          rw[hnX]at CTX
          have RE:=hid (fun(u:World) (hb:Below wr.heap.size wr u)=>(show Reads u u.heap.size 3 EA nE (flat encEd x.edges)from(r0.below (hb.mono hBw.size)).more (Nat.le_trans hBw.size hb.size)))
          clear hxk hnX hnE hR hst hBR hCR hBw hBo r0 r1 rr0 rr1 hH f1 e0 e2 k1 k2 k3 k4 x0 x1 x2 x3
          go_upto_region 11 with fail
          have ST:=hid (fun(u:World) (hb:Below wr.heap.size wr u)=>(show u.cell? ⟨ob,0,none⟩=some (.slice (some ⟨b2,off2,none⟩) nS c7)∧u.cell? ⟨b2,off2+k*3,none⟩=some (.int .i64 x.rule)∧u.cell? ⟨b2,off2+k*3+2,none⟩=some (.slice XA nX xc)∧u.cell? ⟨w.heap.size,0,none⟩=some (.slice (some ⟨b,off,none⟩) nS sc)∧u.cell? ⟨b,off+k*3+1,none⟩=some (.slice EA nE ec)from
           ⟨(hb.cell (p:=⟨ob,0,none⟩) hobl).trans o0,(hb.cell (p:=⟨b2,off2+k*3,none⟩) hbl2').trans f0,(hb.cell (p:=⟨b2,off2+k*3+2,none⟩) hbl2').trans f2,(hb.cell (p:=⟨w.heap.size,0,none⟩) hnbl).trans k0,(hb.cell (p:=⟨b,off+k*3+1,none⟩) hbl').trans e1⟩))
          obtain⟨ie,hie,hze,hse,hye⟩:=info_of infoKE
          go_cut[12]from 80 to 113 (fun v wx=>∃(sb gx:Nat) (E1:Option Addr) (e1:Nat),v= .pointer (some ⟨sb,0,none⟩)∧Hid (SbK wr x sb E1 nE e1 gx nX wx))
          case first=>
           as_aux_lemma=>
            refine wp_region_late (l:=23) (S:=(fun w'=>w'.cell? ⟨ob,0,none⟩=some (.slice (some ⟨b2,off2,none⟩) nS c7)∧w'.cell? ⟨b2,off2+k*3,none⟩=some (.int .i64 x.rule)∧w'.cell? ⟨b2,off2+k*3+2,none⟩=some (.slice XA nX xc)∧w'.cell? ⟨w.heap.size,0,none⟩=some (.slice (some ⟨b,off,none⟩) nS sc)∧w'.cell? ⟨b,off+k*3+1,none⟩=some (.slice EA nE ec))) (by kernel_rfl) ⟨o0,f0,f2,k0,e1⟩ (fun hHeld=>?_)
            have HLwd:Below wr.heap.size wr wr.drew:=⟨rfl,rfl,rfl,Nat.le_refl _,fun _ _=>rfl⟩
            generalize wr.drew=wd at hHeld HLwd⊢
            clear o0 f0 f2 k0 e1
            refine wpAnyF_take (i:=0) (.pointer (some ⟨ob,0,none⟩)) rfl (by kernel_rfl) (by kernel_rfl) (by kernel_rfl) (by kernel_rfl) (fun _ _ _ h=>h) hHeld (by rfl) (fun w' hSw=>?_) ?_
            ·obtain⟨o0,f0,f2,k0,e1⟩:=hSw;go_simp
            try simp only[Act.put,List.getElem_toArray,List.getElem_cons_zero,List.setIfInBounds_toArray,List.set_cons_zero,List.set_cons_succ]
            refine wpAnyF_take (i:=1) (.slice (some ⟨b2,off2,none⟩) nS c7) rfl (by kernel_rfl) (by kernel_rfl) (by kernel_rfl) (by kernel_rfl) (fun _ _ _ h=>h) hHeld (by rfl) (fun w' hSw=>?_) ?_
            ·obtain⟨o0,f0,f2,k0,e1⟩:=hSw;go_simp
            try simp only[Act.put,List.getElem_toArray,List.getElem_cons_zero,List.getElem_cons_succ,List.setIfInBounds_toArray,List.set_cons_zero,List.set_cons_succ]
            refine wpAnyF_take (i:=2) (.int .i64 k) rfl (by kernel_rfl) (by kernel_rfl) (by kernel_rfl) (by kernel_rfl) (fun _ _ _ h=>h) hHeld (by rfl) (fun w' hSw=>?_) ?_
            ·obtain⟨o0,f0,f2,k0,e1⟩:=hSw;go_simp
            try simp only[Act.put,List.getElem_toArray,List.getElem_cons_zero,List.getElem_cons_succ,List.setIfInBounds_toArray,List.set_cons_zero,List.set_cons_succ]
            refine wpAnyF_take (i:=3) (.pointer (some ⟨b2,off2+k*3,none⟩)) rfl (by kernel_rfl) (by kernel_rfl) (by kernel_rfl) (by kernel_rfl) (fun _ _ _ h=>h) hHeld (by rfl) (fun w' hSw=>?_) ?_
            ·obtain⟨o0,f0,f2,k0,e1⟩:=hSw;go_simp
            try simp only[Act.put,List.getElem_toArray,List.getElem_cons_zero,List.getElem_cons_succ,List.setIfInBounds_toArray,List.set_cons_zero,List.set_cons_succ]
            refine wpAnyF_take (i:=4) (.pointer (some ⟨b2,off2+k*3,none⟩)) rfl (by kernel_rfl) (by kernel_rfl) (by kernel_rfl) (by kernel_rfl) (fun _ _ _ h=>h) hHeld (by rfl) (fun w' hSw=>?_) ?_
            ·obtain⟨o0,f0,f2,k0,e1⟩:=hSw;go_simp
            try simp only[Act.put,List.getElem_toArray,List.getElem_cons_zero,List.getElem_cons_succ,List.setIfInBounds_toArray,List.set_cons_zero,List.set_cons_succ]
            refine wpAnyF_take (i:=5) (.int .i64 x.rule) rfl (by kernel_rfl) (by kernel_rfl) (by kernel_rfl) (by kernel_rfl) (fun _ _ _ h=>h) hHeld (by rfl) (fun w' hSw=>?_) ?_
            ·obtain⟨o0,f0,f2,k0,e1⟩:=hSw;go_simp
            try simp only[Act.put,List.getElem_toArray,List.getElem_cons_zero,List.getElem_cons_succ,List.setIfInBounds_toArray,List.set_cons_zero,List.set_cons_succ]
            refine wpAnyF_take (i:=6) (.pointer (some ⟨ob,0,none⟩)) rfl (by kernel_rfl) (by kernel_rfl) (by kernel_rfl) (by kernel_rfl) (fun _ _ _ h=>h) hHeld (by rfl) (fun w' hSw=>?_) ?_
            ·obtain⟨o0,f0,f2,k0,e1⟩:=hSw;go_simp
            try simp only[Act.put,List.getElem_toArray,List.getElem_cons_zero,List.getElem_cons_succ,List.setIfInBounds_toArray,List.set_cons_zero,List.set_cons_succ]
            refine wpAnyF_take (i:=7) (.slice (some ⟨b2,off2,none⟩) nS c7) rfl (by kernel_rfl) (by kernel_rfl) (by kernel_rfl) (by kernel_rfl) (fun _ _ _ h=>h) hHeld (by rfl) (fun w' hSw=>?_) ?_
            ·obtain⟨o0,f0,f2,k0,e1⟩:=hSw;go_simp
            try simp only[Act.put,List.getElem_toArray,List.getElem_cons_zero,List.getElem_cons_succ,List.setIfInBounds_toArray,List.set_cons_zero,List.set_cons_succ]
            refine wpAnyF_take (i:=8) (.int .i64 k) rfl (by kernel_rfl) (by kernel_rfl) (by kernel_rfl) (by kernel_rfl) (fun _ _ _ h=>h) hHeld (by rfl) (fun w' hSw=>?_) ?_
            ·obtain⟨o0,f0,f2,k0,e1⟩:=hSw;go_simp
            try simp only[Act.put,List.getElem_toArray,List.getElem_cons_zero,List.getElem_cons_succ,List.setIfInBounds_toArray,List.set_cons_zero,List.set_cons_succ]
            refine wpAnyF_take (i:=9) (.pointer (some ⟨b2,off2+k*3,none⟩)) rfl (by kernel_rfl) (by kernel_rfl) (by kernel_rfl) (by kernel_rfl) (fun _ _ _ h=>h) hHeld (by rfl) (fun w' hSw=>?_) ?_
            ·obtain⟨o0,f0,f2,k0,e1⟩:=hSw;go_simp
            try simp only[Act.put,List.getElem_toArray,List.getElem_cons_zero,List.getElem_cons_succ,List.setIfInBounds_toArray,List.set_cons_zero,List.set_cons_succ]
            refine wpAnyF_take (i:=10) (.pointer (some ⟨b2,off2+k*3+2,none⟩)) rfl (by kernel_rfl) (by kernel_rfl) (by kernel_rfl) (by kernel_rfl) (fun _ _ _ h=>h) hHeld (by rfl) (fun w' hSw=>?_) ?_
            ·obtain⟨o0,f0,f2,k0,e1⟩:=hSw;go_simp
            try simp only[Act.put,List.getElem_toArray,List.getElem_cons_zero,List.getElem_cons_succ,List.setIfInBounds_toArray,List.set_cons_zero,List.set_cons_succ]
            refine wpAnyF_take (i:=11) (.slice XA nX xc) rfl (by kernel_rfl) (by kernel_rfl) (by kernel_rfl) (by kernel_rfl) (fun _ _ _ h=>h) hHeld (by rfl) (fun w' hSw=>?_) ?_
            ·obtain⟨o0,f0,f2,k0,e1⟩:=hSw;go_simp
            try simp only[Act.put,List.getElem_toArray,List.getElem_cons_zero,List.getElem_cons_succ,List.setIfInBounds_toArray,List.set_cons_zero,List.set_cons_succ]
            refine wpAnyF_take (i:=13) (.pointer (some ⟨w.heap.size,0,none⟩)) rfl (by kernel_rfl) (by kernel_rfl) (by kernel_rfl) (by kernel_rfl) (fun _ _ _ h=>h) hHeld (by rfl) (fun w' hSw=>?_) ?_
            ·obtain⟨o0,f0,f2,k0,e1⟩:=hSw;go_simp
            try simp only[Act.put,List.getElem_toArray,List.getElem_cons_zero,List.getElem_cons_succ,List.setIfInBounds_toArray,List.set_cons_zero,List.set_cons_succ]
            refine wpAnyF_take (i:=14) (.slice (some ⟨b,off,none⟩) nS sc) rfl (by kernel_rfl) (by kernel_rfl) (by kernel_rfl) (by kernel_rfl) (fun _ _ _ h=>h) hHeld (by rfl) (fun w' hSw=>?_) ?_
            ·obtain⟨o0,f0,f2,k0,e1⟩:=hSw;go_simp
            try simp only[Act.put,List.getElem_toArray,List.getElem_cons_zero,List.getElem_cons_succ,List.setIfInBounds_toArray,List.set_cons_zero,List.set_cons_succ]
            refine wpAnyF_take (i:=15) (.int .i64 k) rfl (by kernel_rfl) (by kernel_rfl) (by kernel_rfl) (by kernel_rfl) (fun _ _ _ h=>h) hHeld (by rfl) (fun w' hSw=>?_) ?_
            ·obtain⟨o0,f0,f2,k0,e1⟩:=hSw;go_simp
            try simp only[Act.put,List.getElem_toArray,List.getElem_cons_zero,List.getElem_cons_succ,List.setIfInBounds_toArray,List.set_cons_zero,List.set_cons_succ]
            refine wpAnyF_take (i:=16) (.pointer (some ⟨b,off+k*3,none⟩)) rfl (by kernel_rfl) (by kernel_rfl) (by kernel_rfl) (by kernel_rfl) (fun _ _ _ h=>h) hHeld (by rfl) (fun w' hSw=>?_) ?_
            ·obtain⟨o0,f0,f2,k0,e1⟩:=hSw;go_simp
            try simp only[Act.put,List.getElem_toArray,List.getElem_cons_zero,List.getElem_cons_succ,List.setIfInBounds_toArray,List.set_cons_zero,List.set_cons_succ]
            refine wpAnyF_take (i:=17) (.pointer (some ⟨b,off+k*3+1,none⟩)) rfl (by kernel_rfl) (by kernel_rfl) (by kernel_rfl) (by kernel_rfl) (fun _ _ _ h=>h) hHeld (by rfl) (fun w' hSw=>?_) ?_
            ·obtain⟨o0,f0,f2,k0,e1⟩:=hSw;go_simp
            try simp only[Act.put,List.getElem_toArray,List.getElem_cons_zero,List.getElem_cons_succ,List.setIfInBounds_toArray,List.set_cons_zero,List.set_cons_succ]
            refine wpAnyF_take (i:=18) (.slice EA nE ec) rfl (by kernel_rfl) (by kernel_rfl) (by kernel_rfl) (by kernel_rfl) (fun _ _ _ h=>h) hHeld (by rfl) (fun w' hSw=>?_) ?_
            ·obtain⟨o0,f0,f2,k0,e1⟩:=hSw;go_simp
            try simp only[Act.put,List.getElem_toArray,List.getElem_cons_zero,List.getElem_cons_succ,List.setIfInBounds_toArray,List.set_cons_zero,List.set_cons_succ]
            refine wpAnyF_two 12 21 (by kernel_rfl) rfl rfl (fun K hK=>?_) (fun K hK=>?_)
            ·go_simp
             go_at_call 11
             refine(CTX.out wd HLwd).mono ?_
             rintro e wdc ⟨gx,rfl,ownx,hbwdc⟩
             rw[HNX.out]
             have HLwdc:=HLwd.trans (hbwdc.mono HLwd.size)
             have rX:TwK wdc wr.heap.size gx x.ends:=TwK.base ownx HLwd.size
             dsimp only
             clear ownx
             refine hK _ _ (ST.out _ HLwdc) (fun hHeld=>?_)
             clear hK
             clear K
             try simp only[Act.put,List.getElem_toArray,List.getElem_cons_zero,List.getElem_cons_succ,List.setIfInBounds_toArray,List.set_cons_zero,List.set_cons_succ]
             refine wpAnyF_two 19 21 (by kernel_rfl) rfl rfl (fun K hK=>?_) (fun K hK=>?_)
             ·refine step_append_reads wdc rfl _ _ 45 rfl wdc.heap.size 60 ie _ 3 24 Try.underlying45 hie hze hse hye rfl (by decide) (.slice none 0 0) 0 [] rfl (World.ownsRow_nil _ _ _ _) wdc.heap.size EA nE ec (flat encEd x.edges) rfl (RE.out wdc HLwdc) (cellsEd x.edges) (by simp only[maxLen];omega) (by omega) (Nat.le_refl _) ?_
              intro v1 wdcc hown1 ho1
              obtain⟨E1,e1',rfl⟩:=row_form hown1
              have hbwdcc:Below wdc.heap.size wdc wdcc:=ho1.below' (fun j e=>by cases e) (Nat.le_refl _)
              rw[Nat.zero_add,List.nil_append]at hown1
              have HLwdcc:=HLwdc.trans (hbwdcc.mono HLwdc.size)
              have rE:=ownsRow_base hown1 HLwdc.size
              rw[Nat.zero_add]
              have rX:=rX.next hbwdcc
              clear hown1 ho1
              refine hK _ _ (ST.out _ HLwdcc) (fun hHeld=>?_)
              clear hK
              clear K
              try simp only[Act.put,List.getElem_toArray,List.getElem_cons_zero,List.getElem_cons_succ,List.setIfInBounds_toArray,List.set_cons_zero,List.set_cons_succ]
              refine wpAnyF_take (i:=20) (.agg #[.int .i64 x.rule,.slice E1 nE e1',.slice (some ⟨gx,0,none⟩) nX (nX+2)]) rfl (by kernel_rfl) (by kernel_rfl) (by kernel_rfl) (by kernel_rfl) (fun _ _ _ h=>h) hHeld (by rfl) (fun w' hSw=>?_) ?_
              ·obtain⟨o0,f0,f2,k0,e1⟩:=hSw;go_simp
              try simp only[Act.put,List.getElem_toArray,List.getElem_cons_zero,List.getElem_cons_succ,List.setIfInBounds_toArray,List.set_cons_zero,List.set_cons_succ]
              refine wpAnyF_step 21 (by kernel_rfl) rfl (fun K hK=>?_)
              go_simp
              have hbwdcca:Below wdcc.heap.size wdcc (wdcc.alloc (.cells #[.int .i64 0,.slice none 0 0,.slice none 0 0] 47)):=below_new _ _
              have TB:=heap_alloc_new wdcc (.cells #[.int .i64 0,.slice none 0 0,.slice none 0 0] 47)
              have HLwdcca:=HLwdcc.trans (hbwdcca.mono HLwdcc.size)
              have hsb:=HLwdcc.size
              have rX:=rX.next hbwdcca
              have rE:=ownsRow_only rE (Only.of_below (S:=fun _=>False) hbwdcca) (fun _ _ e=>e)
              refine hK _ _ (ST.out _ HLwdcca) (fun hHeld=>?_)
              clear hK
              clear K
              generalize wdcc.alloc (.cells #[.int .i64 0,.slice none 0 0,.slice none 0 0] 47)=wdcca at hbwdcca TB HLwdcca rX rE hHeld⊢
              generalize wdcc.heap.size=sb at TB hsb⊢
              try simp only[Act.put,List.getElem_toArray,List.getElem_cons_zero,List.getElem_cons_succ,List.setIfInBounds_toArray,List.set_cons_zero,List.set_cons_succ]
              have HF:=hid (sbk (nE:=nE) (nX:=nX) HLwdcca hsb TB rE rX)
              refine wpAnyF_step 22 (by kernel_rfl) rfl (fun K hK=>?_)
              obtain⟨y0,y1,y2⟩:=cells3 TB
              have yz:=fun i=>Lib.frozen_of_heap TB i
              go_simp
              refine hK _ _ (ST.out _ HF.out.below) (fun hHeld=>?_)
              clear hK
              clear K
              try simp only[Act.put,List.getElem_toArray,List.getElem_cons_zero,List.getElem_cons_succ,List.setIfInBounds_toArray,List.set_cons_zero,List.set_cons_succ]
              refine⟨by kernel_rfl,?_⟩
              clear y0 y1 y2 yz hHeld rE rX TB
              go_wp2_with fail
              go_meet
              exact⟨sb,gx,E1,e1',rfl,HF⟩
             ·go_simp
              have hbwdca:Below wdc.heap.size wdc (wdc.alloc (.cells #[.int .i64 0,.slice none 0 0,.slice none 0 0] 47)):=below_new _ _
              have TB:=heap_alloc_new wdc (.cells #[.int .i64 0,.slice none 0 0,.slice none 0 0] 47)
              have HLwdca:=HLwdc.trans (hbwdca.mono HLwdc.size)
              have hsb:=HLwdc.size
              have rX:=rX.next hbwdca
              refine hK _ _ (ST.out _ HLwdca) (fun hHeld=>?_)
              clear hK
              clear K
              generalize wdc.alloc (.cells #[.int .i64 0,.slice none 0 0,.slice none 0 0] 47)=wdca at hbwdca TB HLwdca rX hHeld⊢
              generalize wdc.heap.size=sb at TB hsb⊢
              try simp only[Act.put,List.getElem_toArray,List.getElem_cons_zero,List.getElem_cons_succ,List.setIfInBounds_toArray,List.set_cons_zero,List.set_cons_succ]
              refine wpAnyF_step 19 (by kernel_rfl) rfl (fun K hK=>?_)
              refine step_append_reads wdca rfl _ _ 45 rfl wdca.heap.size 60 ie _ 3 24 Try.underlying45 hie hze hse hye rfl (by decide) (.slice none 0 0) 0 [] rfl (World.ownsRow_nil _ _ _ _) wdca.heap.size EA nE ec (flat encEd x.edges) rfl (RE.out wdca HLwdca) (cellsEd x.edges) (by simp only[maxLen];omega) (by omega) (Nat.le_refl _) ?_
              intro v1 wdcac hown1 ho1
              obtain⟨E1,e1',rfl⟩:=row_form hown1
              have hbwdcac:Below wdca.heap.size wdca wdcac:=ho1.below' (fun j e=>by cases e) (Nat.le_refl _)
              rw[Nat.zero_add,List.nil_append]at hown1
              have HLwdcac:=HLwdca.trans (hbwdcac.mono HLwdca.size)
              have rE:=ownsRow_base hown1 HLwdca.size
              rw[Nat.zero_add]
              have rX:=rX.next hbwdcac
              clear hown1 ho1
              have TB:=(hbwdcac.block _ (heap_lt TB)).trans TB
              refine hK _ _ (ST.out _ HLwdcac) (fun hHeld=>?_)
              clear hK
              clear K
              try simp only[Act.put,List.getElem_toArray,List.getElem_cons_zero,List.getElem_cons_succ,List.setIfInBounds_toArray,List.set_cons_zero,List.set_cons_succ]
              refine wpAnyF_take (i:=20) (.agg #[.int .i64 x.rule,.slice E1 nE e1',.slice (some ⟨gx,0,none⟩) nX (nX+2)]) rfl (by kernel_rfl) (by kernel_rfl) (by kernel_rfl) (by kernel_rfl) (fun _ _ _ h=>h) hHeld (by rfl) (fun w' hSw=>?_) ?_
              ·obtain⟨o0,f0,f2,k0,e1⟩:=hSw;go_simp
              try simp only[Act.put,List.getElem_toArray,List.getElem_cons_zero,List.getElem_cons_succ,List.setIfInBounds_toArray,List.set_cons_zero,List.set_cons_succ]
              have HF:=hid (sbk (nE:=nE) (nX:=nX) HLwdcac hsb TB rE rX)
              refine wpAnyF_step 22 (by kernel_rfl) rfl (fun K hK=>?_)
              obtain⟨y0,y1,y2⟩:=cells3 TB
              have yz:=fun i=>Lib.frozen_of_heap TB i
              go_simp
              refine hK _ _ (ST.out _ HF.out.below) (fun hHeld=>?_)
              clear hK
              clear K
              try simp only[Act.put,List.getElem_toArray,List.getElem_cons_zero,List.getElem_cons_succ,List.setIfInBounds_toArray,List.set_cons_zero,List.set_cons_succ]
              refine⟨by kernel_rfl,?_⟩
              clear y0 y1 y2 yz hHeld rE rX TB
              go_wp2_with fail
              go_meet
              exact⟨sb,gx,E1,e1',rfl,HF⟩
            ·go_simp
             have hbwda:Below wd.heap.size wd (wd.alloc (.cells #[.int .i64 0,.slice none 0 0,.slice none 0 0] 47)):=below_new _ _
             have TB:=heap_alloc_new wd (.cells #[.int .i64 0,.slice none 0 0,.slice none 0 0] 47)
             have HLwda:=HLwd.trans (hbwda.mono HLwd.size)
             have hsb:=HLwd.size
             refine hK _ _ (ST.out _ HLwda) (fun hHeld=>?_)
             clear hK
             clear K
             generalize wd.alloc (.cells #[.int .i64 0,.slice none 0 0,.slice none 0 0] 47)=wda at hbwda TB HLwda hHeld⊢
             generalize wd.heap.size=sb at TB hsb⊢
             try simp only[Act.put,List.getElem_toArray,List.getElem_cons_zero,List.getElem_cons_succ,List.setIfInBounds_toArray,List.set_cons_zero,List.set_cons_succ]
             refine wpAnyF_step 12 (by kernel_rfl) rfl (fun K hK=>?_)
             go_simp
             go_at_call 11
             refine(CTX.out wda HLwda).mono ?_
             rintro e wdac ⟨gx,rfl,ownx,hbwdac⟩
             rw[HNX.out]
             have HLwdac:=HLwda.trans (hbwdac.mono HLwda.size)
             have rX:TwK wdac wr.heap.size gx x.ends:=TwK.base ownx HLwda.size
             dsimp only
             clear ownx
             have TB:=(hbwdac.block _ (heap_lt TB)).trans TB
             refine hK _ _ (ST.out _ HLwdac) (fun hHeld=>?_)
             clear hK
             clear K
             try simp only[Act.put,List.getElem_toArray,List.getElem_cons_zero,List.getElem_cons_succ,List.setIfInBounds_toArray,List.set_cons_zero,List.set_cons_succ]
             refine wpAnyF_step 19 (by kernel_rfl) rfl (fun K hK=>?_)
             refine step_append_reads wdac rfl _ _ 45 rfl wdac.heap.size 60 ie _ 3 24 Try.underlying45 hie hze hse hye rfl (by decide) (.slice none 0 0) 0 [] rfl (World.ownsRow_nil _ _ _ _) wdac.heap.size EA nE ec (flat encEd x.edges) rfl (RE.out wdac HLwdac) (cellsEd x.edges) (by simp only[maxLen];omega) (by omega) (Nat.le_refl _) ?_
             intro v1 wdacc hown1 ho1
             obtain⟨E1,e1',rfl⟩:=row_form hown1
             have hbwdacc:Below wdac.heap.size wdac wdacc:=ho1.below' (fun j e=>by cases e) (Nat.le_refl _)
             rw[Nat.zero_add,List.nil_append]at hown1
             have HLwdacc:=HLwdac.trans (hbwdacc.mono HLwdac.size)
             have rE:=ownsRow_base hown1 HLwdac.size
             rw[Nat.zero_add]
             have rX:=rX.next hbwdacc
             clear hown1 ho1
             have TB:=(hbwdacc.block _ (heap_lt TB)).trans TB
             refine hK _ _ (ST.out _ HLwdacc) (fun hHeld=>?_)
             clear hK
             clear K
             try simp only[Act.put,List.getElem_toArray,List.getElem_cons_zero,List.getElem_cons_succ,List.setIfInBounds_toArray,List.set_cons_zero,List.set_cons_succ]
             refine wpAnyF_take (i:=20) (.agg #[.int .i64 x.rule,.slice E1 nE e1',.slice (some ⟨gx,0,none⟩) nX (nX+2)]) rfl (by kernel_rfl) (by kernel_rfl) (by kernel_rfl) (by kernel_rfl) (fun _ _ _ h=>h) hHeld (by rfl) (fun w' hSw=>?_) ?_
             ·obtain⟨o0,f0,f2,k0,e1⟩:=hSw;go_simp
             try simp only[Act.put,List.getElem_toArray,List.getElem_cons_zero,List.getElem_cons_succ,List.setIfInBounds_toArray,List.set_cons_zero,List.set_cons_succ]
             have HF:=hid (sbk (nE:=nE) (nX:=nX) HLwdacc hsb TB rE rX)
             refine wpAnyF_step 22 (by kernel_rfl) rfl (fun K hK=>?_)
             obtain⟨y0,y1,y2⟩:=cells3 TB
             have yz:=fun i=>Lib.frozen_of_heap TB i
             go_simp
             refine hK _ _ (ST.out _ HF.out.below) (fun hHeld=>?_)
             clear hK
             clear K
             try simp only[Act.put,List.getElem_toArray,List.getElem_cons_zero,List.getElem_cons_succ,List.setIfInBounds_toArray,List.set_cons_zero,List.set_cons_succ]
             refine⟨by kernel_rfl,?_⟩
             clear y0 y1 y2 yz hHeld rE rX TB
             go_wp2_with fail
             go_meet
             exact⟨sb,gx,E1,e1',rfl,HF⟩
          case rest=>
           as_aux_lemma=>
            rename World=>wx
            obtain⟨sb,gx,E1,e1',rfl,hK5⟩:=hcut
            have SB:=hK5.out
            obtain⟨y0,y1,y2⟩:=cells3 SB.blk
            have hRq:=HR.out.next SB.below
            obtain⟨VV,vc,rfl⟩:=row_form hRq.own
            have v0:wx.cell? ⟨cb,0,none⟩=some (.slice VV k vc):=by rw[Lib.cell_of_heap hRq.blk];rfl
            have hfr:∀i,wr.heap.size≤i→¬(i<w9.heap.size∨(Value.slice VV k vc).ownBlock=some i):=fun i hi=>HR.out.fresh hi
            have rE:=ROT.of_row0 (S:=fun i=>i<w9.heap.size∨(Value.slice VV k vc).ownBlock=some i) SB.edges (fun i hi=>hfr i (World.ownsRow.lt SB.edges i hi).1)
            have rX:=(SB.ends.rot (S:=fun i=>i<w9.heap.size∨(Value.slice VV k vc).ownBlock=some i) (hfr gx SB.ends.lt.1)).ro
            have hst6:∀i (h:i<n.states.length),i<k→StK wx (fun j=>j<w9.heap.size∨(Value.slice VV k vc).ownBlock=some j) vs i n.states[i]:=fun i hi hik=>by have:=(HST.out i hi hik).only (S':=fun j=>j<w9.heap.size∨(Value.slice VV k vc).ownBlock=some j) (Only.of_below SB.below) (fun _ _ e=>e) [];rwa [List.append_nil]at this
            rw[HNX.out]at rX
            have HPU:=hid (fun(gn cn:Nat) (wn:World) (h1:wn.ownsRow w9.heap.size 47 3 (.slice (some ⟨gn,0,none⟩) (k+1) cn) (k+1) (vs++ [.int .i64 x.rule,.slice E1 nE e1',.slice (some ⟨gx,0,none⟩) nX (nX+2)])) (h2:(Value.slice VV k vc).ownBlock=some gn∨wx.heap.size<gn) (h3:Only (fun j=>(Value.slice VV k vc).ownBlock=some j) wx wn)=>kc_push hRq hcl hst6 hkl HX.out HNE.out HNX.out rE rX h1 h2 h3 (fun _ _=>rfl))
            have HRQ:=hid hRq
            have hwq:=hRq.only.size
            obtain⟨il,hil,hzl,hsl,hyl⟩:=info_of infoKS
            clear hst6 rX rE hRq SB hK5 hfr o0 f0 f2 k0 e1
            go_upto_region 12 with fail
            go_wp2_with (at_builtin;go_must (refine wpList_push4 wx rfl _ _ 22 rfl w9.heap.size 47 il _ 3 56 Try.underlying22 hil hzl hsl hyl rfl (by omega) (.slice VV k vc) k vs rfl HRQ.out.own [.int .i64 x.rule,.slice E1 nE e1',.slice (some ⟨gx,0,none⟩) nX (nX+2)] 1 _ rfl rfl rfl (by simp[Value.oneCell']) Nat.zero_lt_one (by simp only[maxLen];omega) (by omega) hwq ?_);intro g9 c9 w9' hown9 hg9 ho9;have b9:=(ho9.block cb (heap_lt HRQ.out.blk) (HRQ.out.ne (by decide))).trans HRQ.out.blk;have hc9:w9'.cell? ⟨cb,0,none⟩=some (.slice VV k vc):=(by rw[Lib.cell_of_heap b9];rfl);have hf9:w9'.frozen? ⟨cb,0,none⟩=false:=Lib.frozen_of_heap b9 0)
            have HFIN:=hid (HPU.out g9 c9 w9' hown9 hg9 ho9)
            go_roundw
            case rel=>exact⟨k+1,by omega,by go_num,HFIN⟩
            case measure=>simp[intOf];omega
        ·as_aux_lemma=>
          have hkn:k=nS:=by omega
          subst hkn
          obtain⟨VV,vc,rfl⟩:=row_form hR.own
          have HR10:=hid hR
          have HST10:=hid hst
          have HN10:=hid (kc_net HCB.out HNS.out.1 hR hst)
          have HB10:=hid hBw
          have HC10:=hid hCR
          have HX10:=hid hBR
          have sHX:=hBR.size
          rename World=>w10
          have HI0:Hid (KkI w10 au 0 (.slice none 0 0) w10):=hid ⟨Below.refl _ _,[],World.ownsRow_nil _ _ _ _,fun _ _ h=>absurd h (Nat.not_lt_zero _)⟩
          clear hR hst hBR hCR hBw hH
          go_wp2_with fail
          go_loopw[13,14] (fun o i wr=>∃k:Nat,k≤nL∧i= .int .i64 k∧Hid (KkI w10 au k o wr)) (fun _ i _=>nL-(intOf i).toNat)
          case atStart=>exact⟨0,by omega,by simp,HI0⟩
          case round=>
           rename Value=>o
           clear HI0 o0 k0 k1 k2 k3 k4 x0 x1 x2 x3
           obtain⟨m,hm,rfl,hH⟩:=hrel
           obtain⟨hBk,os,hown,hst⟩:=hH.out
           have sK:=hBk.size
           have hBw:=HB10.out.trans (hBk.mono HB10.out.size)
           by_cases hlt:m<nL
           ·as_aux_lemma=>
             have hml:m<au.length:=by rw[HNS.out.2.2.2.2.2];exact hlt
             obtain⟨avs,hra,hga⟩:=HA.out.up hBw hBw.size
             obtain⟨Ai,ci,ga,hau1⟩:=hga m hml
             obtain⟨b,off,rfl,hbl,hc⟩:=hra.2 (by omega)
             have e0:=hc _ _ ga
             obtain⟨nM,hnM⟩:∃x,au[m].length=x:=⟨_,rfl⟩
             have hsA:=Few.auts HFEW.out _ (List.getElem_mem hml)
             have hkA:=HKA.out _ (List.getElem_mem hml)
             generalize hal:au[m]=al at hau1 hnM hsA hkA e0
             rw[hnM]at e0
             have HAU1:=hid hau1
             have HSA:=hid hsA
             have HNM:=hid hnM
             have HALM:=hid hal
             have HOWN:=hid hown
             have HST:=hid hst
             have HBK:=hid hBk
             have lM:nM≤1000000:=by have:=hsA.1;omega
             obtain⟨VK,kc,rfl⟩:=row_form hown
             clear hra hga hau1 hc ga hown hst hBk hBw hH hsA hnM hal
             go_upto_region 18 with fail
             obtain⟨wi,hwi⟩:∃x,x=wr.alloc (.cells #[.slice none 0 0] 50):=⟨_,rfl⟩
             rw[←hwi]
             have hbi:Below wr.heap.size wr wi:=by rw[hwi];exact below_new _ _
             have ti:wi.heap[wr.heap.size]? =some (.cells #[.slice none 0 0] 50 (0,0)):=by rw[hwi];exact heap_alloc_new _ _
             have hil:=heap_lt ti
             have HBI:=hid hbi
             have sbi:=hbi.size
             have hblr:b<wr.heap.size:=hbl
             generalize hab:wr.heap.size=ab at ti hil sbi hblr⊢
             have HI1:Hid (KaI wi ab al 0 wi):=hid ⟨_,_,RowBox.start ti,fun _ _ h=>absurd h (Nat.not_lt_zero _)⟩
             clear hwi hbi ti
             go_wp2_with fail
             go_loopw[16] (fun i wq=>∃j:Nat,j≤nM∧i= .int .i64 j∧Hid (KaI wi ab al j wq)) (fun i _=>nM-(intOf i).toNat)
             case atStart=>exact⟨0,by omega,by simp,HI1⟩
             case round=>
              rename World=>wq
              clear HI1
              obtain⟨j,hj,rfl,hJ⟩:=hrel
              obtain⟨v,vs2,hR,hst2⟩:=hJ.out
              have sq:=hR.only.size
              have hBq:Below wr.heap.size wr wq:=hR.only.below (fun i e=>by omega) HBI.out (by omega)
              have e0:=(hBq.cell (p:=⟨b,off+m,none⟩) hbl).trans e0
              obtain⟨VA,va,rfl⟩:=row_form hR.own
              by_cases hlt2:j<nM
              ·as_aux_lemma=>
                have hjl:j<al.length:=by rw[HNM.out];exact hlt2
                obtain⟨b3,off3,AA3,ac3,EA3,ec3,rfl,hbl3,f0,f1,f2,r0,r1⟩:=(HAU1.out.below hBq).at hjl
                have hsz:=HSA.out.2 _ (List.getElem_mem hjl)
                generalize hxk:al[j]=x at f0 f1 f2 r0 r1 hsz
                obtain⟨nA,hnA⟩:∃m,x.alts.length=m:=⟨_,rfl⟩
                obtain⟨nE,hnE⟩:∃m,x.edges.length=m:=⟨_,rfl⟩
                rw[hnA]at f1 r0
                rw[hnE]at f2 r1
                rw[hnA,hnE]at hsz
                obtain⟨q1',q2'⟩:=hsz
                have HX:=hid hxk
                have HNA:=hid hnA
                have HNE:=hid hnE
                have HRJ:=hid hR
                have HSTJ:=hid hst2
                have R0:=hid (show Reads wq wr.heap.size 1 AA3 x.alts.length (x.alts.map (Value.int .i64)) by rw[hnA];exact r0)
                have R1:=hid r1
                have hblq3:b3<wq.heap.size:=by have:=hBq.size;omega
                have hszq:=hBq.size
                clear r0 r1 hxk hnA hnE hR hst2 hJ
                go_upto_region 22 with fail
                have T4:=heap_alloc_new wq (.cells #[.int .u8 x.kind,.slice AA3 nA ac3,.slice EA3 nE ec3] 54)
                have hbw4:Below wq.heap.size wq (wq.alloc (.cells #[.int .u8 x.kind,.slice AA3 nA ac3,.slice EA3 nE ec3] 54)):=below_new _ _
                generalize wq.alloc (.cells #[.int .u8 x.kind,.slice AA3 nA ac3,.slice EA3 nE ec3] 54)=w4 at T4 hbw4⊢
                have HRJ4:=hid (HRJ.out.next hbw4)
                have HB4q:=hid (hBq.trans (hbw4.mono hszq))
                have HBQ4:=hid hbw4
                have hg4l:=heap_lt T4
                have habl:=heap_lt HRJ4.out.blk
                generalize hg4:wq.heap.size=g4' at T4 hg4l⊢
                have v0:w4.cell? ⟨ab,0,none⟩=some (.slice VA j va):=by rw[Lib.cell_of_heap HRJ4.out.blk];rfl
                obtain⟨x0,x1,x2⟩:=cells3 T4
                have ST:=hid (fun(u:World) (hb:Below w4.heap.size w4 u)=>(show u.cell? ⟨ab,0,none⟩=some (.slice VA j va)∧u.cell? ⟨g4',0,none⟩=some (.int .u8 x.kind)∧u.cell? ⟨g4',1,none⟩=some (.slice AA3 nA ac3)∧u.cell? ⟨g4',2,none⟩=some (.slice EA3 nE ec3)from
                 ⟨(hb.cell (p:=⟨ab,0,none⟩) habl).trans v0,(hb.cell (p:=⟨g4',0,none⟩) hg4l).trans x0,(hb.cell (p:=⟨g4',1,none⟩) hg4l).trans x1,(hb.cell (p:=⟨g4',2,none⟩) hg4l).trans x2⟩))
                have CTA:=hid (fun(u:World) (hb:Below w4.heap.size w4 u)=>twinN_any x.alts AA3 ac3 u (by rw[HNA.out];omega) (((R0.out.below (hbw4.mono hszq)).below (hb.mono HB4q.out.size)).more (by have:=HB4q.out.size;have:=hb.size;omega)))
                rw[HNA.out]at CTA
                have RE:=hid (fun(u:World) (hb:Below w4.heap.size w4 u)=>(show Reads u u.heap.size 2 EA3 nE (flat encLE x.edges)from((R1.out.below (hbw4.mono hszq)).below (hb.mono HB4q.out.size)).more (by have:=HB4q.out.size;have:=hb.size;omega)))
                obtain⟨ie,hie,hze,hse,hye⟩:=info_of infoKLE
                obtain⟨il,hil2,hzl,hsl,hyl⟩:=info_of infoLS
                clear T4 hbw4 e0 f0 f1 f2
                refine wp_region_late (l:=12) (S:=(fun w'=>w'.cell? ⟨ab,0,none⟩=some (.slice VA j va)∧w'.cell? ⟨g4',0,none⟩=some (.int .u8 x.kind)∧w'.cell? ⟨g4',1,none⟩=some (.slice AA3 nA ac3)∧w'.cell? ⟨g4',2,none⟩=some (.slice EA3 nE ec3))) (by kernel_rfl) ⟨v0,x0,x1,x2⟩ (fun hHeld=>?_)
                have HLwd:Below w4.heap.size w4 w4.drew:=⟨rfl,rfl,rfl,Nat.le_refl _,fun _ _=>rfl⟩
                generalize w4.drew=wd at hHeld HLwd⊢
                clear v0 x0 x1 x2
                refine wpAnyF_take2 (i:=0) (.pointer (some ⟨ab,0,none⟩)) (by kernel_rfl) rfl (by decide) (by kernel_rfl) (by kernel_rfl) (by kernel_rfl) (by kernel_rfl) (fun _ _ _ h=>h) hHeld (by rfl) (fun w' hSw=>?_) ?_
                ·obtain⟨v0,x0,x1,x2⟩:=hSw;go_simp
                try simp only[Act.put,List.getElem_toArray,List.getElem_cons_zero,List.setIfInBounds_toArray,List.set_cons_zero,List.set_cons_succ]
                refine wpAnyF_take2 (i:=1) (.slice VA j va) (by kernel_rfl) rfl (by decide) (by kernel_rfl) (by kernel_rfl) (by kernel_rfl) (by kernel_rfl) (fun _ _ _ h=>h) hHeld (by rfl) (fun w' hSw=>?_) ?_
                ·obtain⟨v0,x0,x1,x2⟩:=hSw;go_simp
                try simp only[Act.put,List.getElem_toArray,List.getElem_cons_zero,List.getElem_cons_succ,List.setIfInBounds_toArray,List.set_cons_zero,List.set_cons_succ]
                refine wpAnyF_take2 (i:=2) (.pointer (some ⟨g4',0,none⟩)) (by kernel_rfl) rfl (by decide) (by kernel_rfl) (by kernel_rfl) (by kernel_rfl) (by kernel_rfl) (fun _ _ _ h=>h) hHeld (by rfl) (fun w' hSw=>?_) ?_
                ·obtain⟨v0,x0,x1,x2⟩:=hSw;go_simp
                try simp only[Act.put,List.getElem_toArray,List.getElem_cons_zero,List.getElem_cons_succ,List.setIfInBounds_toArray,List.set_cons_zero,List.set_cons_succ]
                refine wpAnyF_take2 (i:=3) (.int .u8 x.kind) (by kernel_rfl) rfl (by decide) (by kernel_rfl) (by kernel_rfl) (by kernel_rfl) (by kernel_rfl) (fun _ _ _ h=>h) hHeld (by rfl) (fun w' hSw=>?_) ?_
                ·obtain⟨v0,x0,x1,x2⟩:=hSw;go_simp
                try simp only[Act.put,List.getElem_toArray,List.getElem_cons_zero,List.getElem_cons_succ,List.setIfInBounds_toArray,List.set_cons_zero,List.set_cons_succ]
                refine wpAnyF_take2 (i:=4) (.pointer (some ⟨g4',1,none⟩)) (by kernel_rfl) rfl (by decide) (by kernel_rfl) (by kernel_rfl) (by kernel_rfl) (by kernel_rfl) (fun _ _ _ h=>h) hHeld (by rfl) (fun w' hSw=>?_) ?_
                ·obtain⟨v0,x0,x1,x2⟩:=hSw;go_simp
                try simp only[Act.put,List.getElem_toArray,List.getElem_cons_zero,List.getElem_cons_succ,List.setIfInBounds_toArray,List.set_cons_zero,List.set_cons_succ]
                refine wpAnyF_take2 (i:=5) (.slice AA3 nA ac3) (by kernel_rfl) rfl (by decide) (by kernel_rfl) (by kernel_rfl) (by kernel_rfl) (by kernel_rfl) (fun _ _ _ h=>h) hHeld (by rfl) (fun w' hSw=>?_) ?_
                ·obtain⟨v0,x0,x1,x2⟩:=hSw;go_simp
                try simp only[Act.put,List.getElem_toArray,List.getElem_cons_zero,List.getElem_cons_succ,List.setIfInBounds_toArray,List.set_cons_zero,List.set_cons_succ]
                refine wpAnyF_take2 (i:=7) (.pointer (some ⟨g4',2,none⟩)) (by kernel_rfl) rfl (by decide) (by kernel_rfl) (by kernel_rfl) (by kernel_rfl) (by kernel_rfl) (fun _ _ _ h=>h) hHeld (by rfl) (fun w' hSw=>?_) ?_
                ·obtain⟨v0,x0,x1,x2⟩:=hSw;go_simp
                try simp only[Act.put,List.getElem_toArray,List.getElem_cons_zero,List.getElem_cons_succ,List.setIfInBounds_toArray,List.set_cons_zero,List.set_cons_succ]
                refine wpAnyF_take2 (i:=8) (.slice EA3 nE ec3) (by kernel_rfl) rfl (by decide) (by kernel_rfl) (by kernel_rfl) (by kernel_rfl) (by kernel_rfl) (fun _ _ _ h=>h) hHeld (by rfl) (fun w' hSw=>?_) ?_
                ·obtain⟨v0,x0,x1,x2⟩:=hSw;go_simp
                try simp only[Act.put,List.getElem_toArray,List.getElem_cons_zero,List.getElem_cons_succ,List.setIfInBounds_toArray,List.set_cons_zero,List.set_cons_succ]
                refine wpAnyF_step 6 (by kernel_rfl) rfl (fun K hK=>?_)
                go_simp
                go_at_call 11
                refine(CTA.out wd HLwd).mono ?_
                rintro e w5 ⟨gx,rfl,ownx,hb5⟩
                rw[HNA.out]
                have HL5:=HLwd.trans (hb5.mono HLwd.size)
                have rX:TwK w5 w4.heap.size gx x.alts:=TwK.base ownx HLwd.size
                dsimp only
                clear ownx
                refine hK _ _ (ST.out w5 HL5) (fun hHeld=>?_)
                clear hK
                clear K
                try simp only[Act.put,List.getElem_toArray,List.getElem_cons_zero,List.getElem_cons_succ,List.setIfInBounds_toArray,List.set_cons_zero,List.set_cons_succ]
                refine wpAnyF_step 9 (by kernel_rfl) rfl (fun K hK=>?_)
                refine step_append_reads w5 rfl _ _ 52 rfl w5.heap.size 62 ie _ 2 16 Try.underlying52 hie hze hse hye rfl (by decide) (.slice none 0 0) 0 [] rfl (World.ownsRow_nil _ _ _ _) w5.heap.size EA3 nE ec3 (flat encLE x.edges) rfl (RE.out w5 HL5) (cellsLE x.edges) (by simp only[maxLen];omega) (by omega) (Nat.le_refl _) ?_
                intro v1 w6 hown1 ho1
                obtain⟨E1,e1',rfl⟩:=row_form hown1
                have hb6:Below w5.heap.size w5 w6:=ho1.below' (fun j e=>by cases e) (Nat.le_refl _)
                rw[Nat.zero_add,List.nil_append]at hown1
                have HL6:=HL5.trans (hb6.mono HL5.size)
                have rE:=ownsRow_base hown1 HL5.size
                rw[Nat.zero_add]
                have rX:=rX.next hb6
                clear hown1 ho1
                refine hK _ _ (ST.out w6 HL6) (fun hHeld=>?_)
                clear hK
                clear K
                try simp only[Act.put,List.getElem_toArray,List.getElem_cons_zero,List.getElem_cons_succ,List.setIfInBounds_toArray,List.set_cons_zero,List.set_cons_succ]
                refine wpAnyF_take2 (i:=10) (.agg #[.int .u8 x.kind,.slice (some ⟨gx,0,none⟩) nA (nA+2),.slice E1 nE e1']) (by kernel_rfl) rfl (by decide) (by kernel_rfl) (by kernel_rfl) (by kernel_rfl) (by kernel_rfl) (fun _ _ _ h=>h) hHeld (by rfl) (fun w' hSw=>?_) ?_
                ·obtain⟨v0,x0,x1,x2⟩:=hSw;go_simp
                try simp only[Act.put,List.getElem_toArray,List.getElem_cons_zero,List.getElem_cons_succ,List.setIfInBounds_toArray,List.set_cons_zero,List.set_cons_succ]
                refine wpAnyF_step 11 (by kernel_rfl) rfl (fun K hK=>?_)
                go_simp
                have hb7:Below w6.heap.size w6 (w6.alloc (.cells #[.int .u8 x.kind,.slice (some ⟨gx,0,none⟩) nA (nA+2),.slice E1 nE e1'] 54)):=below_new _ _
                refine hK _ _ (ST.out _ (HL6.trans (hb7.mono HL6.size))) (fun hHeld=>?_)
                clear hK hb7
                clear K
                have RJ:=HRJ4.out.next HL6
                have hfr:∀i,w4.heap.size≤i→¬(i<wi.heap.size∨(Value.slice VA j va).ownBlock=some i):=fun i hi=>HRJ4.out.fresh hi
                have rE':=ROT.of_row0 (S:=fun i=>i<wi.heap.size∨(Value.slice VA j va).ownBlock=some i) rE (fun i hi=>hfr i (World.ownsRow.lt rE i hi).1)
                have rA':=(rX.rot (S:=fun i=>i<wi.heap.size∨(Value.slice VA j va).ownBlock=some i) (hfr gx rX.lt.1)).ro
                rw[HNA.out]at rA'
                have hst6:∀i (h:i<al.length),i<j→LsK w6 (fun i=>i<wi.heap.size∨(Value.slice VA j va).ownBlock=some i) vs2 i al[i]:=fun i hi hik=>by
                 have:=(HSTJ.out i hi hik).only (S':=fun i=>i<wi.heap.size∨(Value.slice VA j va).ownBlock=some i) (Only.of_below (w':=w6) (HBQ4.out.trans (HL6.mono HBQ4.out.size))) (fun _ _ e=>e) []
                 rwa [List.append_nil]at this
                have szq:=RJ.only.size
                refine wpAnyF_turn 12 (by kernel_rfl) rfl (by decide) (by decide) (fun K hK=>?_)
                refine step_push4 w6 rfl _ _ 48 rfl wi.heap.size 54 il _ 3 56 Try.underlying48 hil2 hzl hsl hyl rfl (by omega) (.slice VA j va) j vs2 rfl RJ.own [.int .u8 x.kind,.slice (some ⟨gx,0,none⟩) nA (nA+2),.slice E1 nE e1'] 1 _ rfl rfl rfl (by simp[Value.oneCell']) Nat.zero_lt_one (by simp only[maxLen];omega) (by omega) szq ?_
                intro gn cn wn hownN hgN hoN
                refine hK _ _ ?_
                clear hK
                clear K
                have t2n:=(hoN.block ab (heap_lt RJ.blk) (RJ.ne (by decide))).trans RJ.blk
                have y0:wn.cell? ⟨ab,0,none⟩=some (.slice VA j va):=by rw[Lib.cell_of_heap t2n];rfl
                have yz:=Lib.frozen_of_heap t2n 0
                have HFIN:=hid (ka_push RJ hil hst6 hjl HX.out HNA.out HNE.out rA' rE' hownN hgN hoN)
                clear hownN hgN hoN t2n RJ hst6 rE' rA' rE rX hfr
                refine wpAny_take (i:=13) (v:=.pointer (some ⟨ab,0,none⟩)) rfl (by kernel_rfl) (by kernel_rfl) (by kernel_rfl) (fun _ _ _ h=>h) (Or.inl ⟨by rfl,fun w=>(by go_simp)⟩) ?_
                try simp only[Act.put,List.getElem_toArray,List.getElem_cons_zero,List.getElem_cons_succ,List.setIfInBounds_toArray,List.set_cons_zero,List.set_cons_succ]
                refine wpAny_ready (rs:=[14]) (by kernel_rfl) (by simp) (AllReady.cons rfl (fun K hK=>?_) AllReady.nil)
                go_simp
                refine hK _ _ (wpAny_done (by kernel_rfl) ?_ _)
                clear hK
                clear K y0 yz
                generalize wn.setCell ⟨ab,0,none⟩ (.slice (some ⟨gn,0,none⟩) (j+1) cn)=wF at HFIN⊢
                go_wp2_with fail
                go_roundw
                case rel=>exact⟨j+1,by omega,by go_num,HFIN⟩
                case measure=>simp[intOf];omega
              ·as_aux_lemma=>
                have hjn:j=nM:=by omega
                subst hjn
                have y0:wq.cell? ⟨ab,0,none⟩=some (.slice VA j va):=by rw[Lib.cell_of_heap hR.blk];rfl
                have hBA:=ka_aut (wr:=wr) HNM.out hR (by omega) hst2
                have hown6:=ownsRow_only HOWN.out (Only.of_below (S:=fun _=>False) hBq) (fun _ _ e=>e)
                have HPU:=hid (fun(gn cn:Nat) (wn:World) (h1:wn.ownsRow w10.heap.size 50 1 (.slice (some ⟨gn,0,none⟩) (m+1) cn) (m+1) (os++ [.slice VA j va])) (h2:(Value.slice VK m kc).ownBlock=some gn∨wq.heap.size<gn) (h3:Only (fun j=>(Value.slice VK m kc).ownBlock=some j) wq wn)=>kk_push HBK.out HOWN.out HST.out hBq hml (by rw[HALM.out];exact HNM.out) (by rw[HALM.out];exact hBA) h1 h2 h3)
                obtain⟨ik,hik,hzk,hsk,hyk⟩:=info_of infoKLA
                have szk:=hBq.size
                clear hR hst2 hJ hBA hBq
                go_upto_region 23 with fail
                go_wp2_with (at_builtin;go_must (refine wpList_push4 wq rfl _ _ 26 rfl w10.heap.size 50 ik _ 1 24 Try.underlying26 hik hzk hsk hyk rfl (by omega) (.slice VK m kc) m os rfl hown6 [.slice VA j va] 1 _ rfl rfl rfl (by simp[Value.oneCell']) Nat.zero_lt_one (by simp only[maxLen];omega) (by omega) (by omega) ?_);intro g9 c9 w9' hown9 hg9 ho9)
                have HFIN:=hid (HPU.out g9 c9 w9' hown9 hg9 ho9)
                go_roundw
                case rel=>exact⟨m+1,by omega,by go_num,HFIN⟩
                case measure=>simp[intOf];omega
           ·as_aux_lemma=>
             have hmn:m=nL:=by omega
             subst hmn
             obtain⟨VK,kc,rfl⟩:=row_form hown
             have HAUK:=hid (kk_aus HNS.out.2.2.2.2.2 hH.out)
             have HST11:=hid hst
             have HOW11:=hid hown
             have HB11:=hid hBw
             have HX11:=hid hBk
             have cbb:=(hBk.block cb (heap_lt HR10.out.blk)).trans HR10.out.blk
             have HNEW:=hid (new_any wr n VV (some ⟨g1,0,none⟩) (some ⟨g2,0,none⟩) (some ⟨g3,0,none⟩) (some ⟨g4,0,none⟩) VK vc (nT+2) (nU+2) (nQ+2) (nD+2) kc au (HN10.out.up hBk sK) (Few.nets HFEW.out HKE.out) HAUK.out (by have:=HFEW.out.autos;omega) (Few.auts HFEW.out))
             obtain⟨m1,m2,m3,m4,m5,m6⟩:=HNS.out
             unfold netAgg at HNEW
             rw[m1,m2,m3,m4,m5,m6]at HNEW
             have HS10:=hid (ROT.of_row0 (S:=fun j=>j<w9.heap.size) HR10.out.own (fun j hj e=>by have:=(World.ownsRow.lt HR10.out.own j hj).1;omega))
             have HK11:=hid (ROT.of_row0 (S:=fun j=>j<w10.heap.size) hown (fun j hj e=>by have:=(World.ownsRow.lt hown j hj).1;omega))
             obtain⟨gar,gblk,gsz⟩:=(HCB.out.r1.keep HR10.out.only (HCB.out.r1.ne HCB.out.blk (by decide))).blk
             rw[m2]at gsz
             have gge:=HCB.out.r1.lt.1
             have HGB:=hid gblk
             have s10:=HR10.out.only.size
             clear m1 m2 m3 m4 m5 m6 hown hst hBw hBk hH gblk
             obtain⟨⟨c0,c1,c2,c3,c4⟩,cz⟩:=cells5z (show wr.heap[cb]? =some (.cells #[.slice VV k vc,.slice (some ⟨g1,0,none⟩) nT (nT+2),.slice (some ⟨g2,0,none⟩) nU (nU+2),.slice (some ⟨g3,0,none⟩) nQ (nQ+2),.slice (some ⟨g4,0,none⟩) nD (nD+2)] 25 (0,0))from cbb)
             clear cz
             go_wp2_with fail
             refine HNEW.out.mono ?_
             rintro e w12 ⟨hb12,hcase⟩
             obtain⟨_,D,kn,rfl,_,_,hDr⟩:=hcase.resolve_left (fun h=>by rw[HNB.out]at h;exact absurd h.1 (by decide))
             have HDR:=hid hDr
             have HB12:=hid (HB11.out.trans (hb12.mono HB11.out.size))
             have HX12:=hid (HX11.out.trans (hb12.mono HX11.out.size))
             have HCBB:=hid ((hb12.block cb (heap_lt cbb)).trans cbb)
             have HY12:=hid hb12
             have HZ12:=hid (HX10.out.trans ((HX11.out.trans (hb12.mono HX11.out.size)).mono HX10.out.size))
             have s12:=hb12.size
             have HWI:Hid (Wr w8.heap.size wr.heap.size w12 w12):=hid (Wr.refl _ _ _)
             generalize hH1:wr.heap.size=H1 at HWI HDR s12 sK
             have HH1:=hid hH1
             clear hcase hDr hb12 cbb HNEW c0 c1 c2 c3 c4 hH1
             dsimp only
             go_wp2_with fail
             go_loopw[20] (fun i wr=>∃q:Nat,q≤k∧i= .int .i64 q∧Hid (Wr w8.heap.size H1 w12 wr)) (fun i _=>k-(intOf i).toNat)
             case atStart=>exact⟨0,by omega,by simp,HWI⟩
             case round=>
              rename World=>wa
              clear HWI
              obtain⟨q,hq,rfl,hH⟩:=hrel
              have CBC:=hid (fun(u:World) (hu:Wr w8.heap.size H1 w12 u)=>(show u.cell? ⟨cb,0,none⟩=some (.slice VV k vc)∧u.cell? ⟨cb,1,none⟩=some (.slice (some ⟨g1,0,none⟩) nT (nT+2))from by
               have:=hu.kept HCBB.out (by decide)
               exact⟨by rw[Lib.cell_of_heap this];rfl,by rw[Lib.cell_of_heap this];rfl⟩))
              obtain⟨c0,c1⟩:=CBC.out wa hH.out
              by_cases hlt:q<k
              ·as_aux_lemma=>
                obtain⟨vb,arr,hvv,hns,hh,hsz,hc⟩:=HS10.out.blk (by omega)
                rw[hvv]at c0 CBC
                have hvl:=heap_lt hh
                have hh12:=(HX12.out.block vb hvl).trans hh
                obtain⟨⟨u0,d0⟩,z0⟩:=hH.out.cell hh12 (i:=q*3) (by omega)
                have hvH:vb<H1:=by omega
                have hvH0:w8.heap.size≤vb:=by omega
                have HW2:=hid (hH.out.set hvH0 hvH hh12 (by decide) (q*3) (.int .i64 0) (fun _=>by omega))
                have hqs:q<n.states.length:=by rw[HNS.out.1];exact hlt
                obtain⟨EA,ec,XA,xc,e0,e1,e2,rE,_⟩:=HST10.out q hqs hlt
                have HRE:=hid rE
                obtain⟨nE,hnE⟩:∃x,n.states[q].edges.length=x:=⟨_,rfl⟩
                rw[hnE]at e1 HRE
                have lE:nE≤1000000:=by have:=((Few.nets HFEW.out HKE.out).st _ (List.getElem_mem hqs)).1;omega
                have HDC:=hid (fun(u:World) (hu:Wr w8.heap.size H1 w12 u)=>(show u.cell? ⟨vb,q*3+1,none⟩=some (.slice EA nE ec)from
                 (hu.hdr vb arr _ hh12 (by decide) (q*3+1) (by omega)).trans (by rw[Lib.cell_of_heap hh12];exact hc _ _ e1)))
                clear hns hh hsz hc hh12 e0 e1 e2 rE hnE hH c1
                go_upto_region 31 with fail
                clear d0 z0 c0
                generalize wa.setCell ⟨vb,q*3,none⟩ (.int .i64 0)=wb at HW2⊢
                go_wp2_with fail
                go_loopw[21] (fun i wr=>∃j:Nat,j≤nE∧i= .int .i64 j∧Hid (Wr w8.heap.size H1 w12 wr)) (fun i _=>nE-(intOf i).toNat)
                case atStart=>exact⟨0,by omega,by simp,HW2⟩
                case round=>
                 rename World=>wq
                 clear HW2
                 obtain⟨j,hj,rfl,hJ⟩:=hrel
                 obtain⟨c0,c1⟩:=CBC.out wq hJ.out
                 have d1:=HDC.out wq hJ.out
                 by_cases hlt2:j<nE
                 ·as_aux_lemma=>
                   obtain⟨eb,ear,rfl,hns,hh,hsz,_⟩:=HRE.out.blk (by omega)
                   have hel:=heap_lt hh
                   have hh12:=(HX12.out.block eb hel).trans hh
                   have heH:eb<H1:=by omega
                   have heH0:w8.heap.size≤eb:=by have h9:¬eb<w9.heap.size:=fun e=>hns (.inl e);omega
                   have hW3:=((hJ.out.set heH0 heH hh12 (by decide) (j*3) (.int .u8 0) (fun h=>absurd h (by decide))).set heH0 heH hh12 (by decide) (j*3+1) (.int .i64 0) (fun h=>absurd h (by decide))).set heH0 heH hh12 (by decide) (j*3+2) (.int .i64 0) (fun h=>absurd h (by decide))
                   have HW3:=hid hW3
                   obtain⟨⟨u0,y0⟩,z0⟩:=hJ.out.cell hh12 (i:=j*3) (by omega)
                   obtain⟨⟨u1,y1⟩,z1⟩:=hJ.out.cell hh12 (i:=j*3+1) (by omega)
                   obtain⟨⟨u2,y2⟩,z2⟩:=hJ.out.cell hh12 (i:=j*3+2) (by omega)
                   clear hns hh hsz hh12 hW3 hJ c1
                   go_wp2_with fail
                   go_roundw
                   case rel=>exact⟨j+1,by omega,by go_num,HW3⟩
                   case measure=>simp[intOf];omega
                 ·have hjn:j=nE:=by omega
                  subst hjn
                  clear c1
                  go_wp2_with fail
                  go_roundw
                  case rel=>exact⟨q+1,by omega,by go_num,hJ⟩
                  case measure=>simp[intOf];omega
              ·as_aux_lemma=>
                have hqn:q=k:=by omega
                subst hqn
                have HW6:=hH
                have gl10:=heap_lt HGB.out
                have g12:=(HX12.out.block g1 gl10).trans HGB.out
                have HG12:=hid g12
                clear hH g12
                go_wp2_with fail
                go_loopw[22] (fun i wr=>∃p:Nat,p≤nT∧i= .int .i64 p∧Hid (Wr w8.heap.size H1 w12 wr)) (fun i _=>nT-(intOf i).toNat)
                case atStart=>exact⟨0,by omega,by simp,HW6⟩
                case round=>
                 rename World=>wb
                 clear HW6
                 obtain⟨p,hp,rfl,hP⟩:=hrel
                 obtain⟨c0,c1⟩:=CBC.out wb hP.out
                 by_cases hlt3:p<nT
                 ·as_aux_lemma=>
                   obtain⟨⟨u0,y0⟩,z0⟩:=hP.out.cell HG12.out (i:=p) (by omega)
                   have HW7:=hid (hP.out.set gge (by omega) HG12.out (by decide) p (.int .i64 0) (fun h=>absurd h (by decide)))
                   clear hP c0
                   go_wp2_with fail
                   go_roundw
                   case rel=>exact⟨p+1,by omega,by go_num,HW7⟩
                   case measure=>simp[intOf];omega
                 ·have hpn:p=nT:=by omega
                  subst hpn
                  clear c0
                  go_wp2_with fail
                  go_loopw[23] (fun i wr=>∃y:Nat,y≤m∧i= .int .i64 y∧Hid (Wr w8.heap.size H1 w12 wr)) (fun i _=>m-(intOf i).toNat)
                  case atStart=>exact⟨0,by omega,by simp,hP⟩
                  case round=>
                   rename World=>wc'
                   clear hP c1
                   obtain⟨y,hy,rfl,hY⟩:=hrel
                   by_cases hlt4:y<m
                   ·as_aux_lemma=>
                     have hyl:y<au.length:=by rw[HNS.out.2.2.2.2.2];exact hlt4
                     obtain⟨kb,kar,hKK,_,hh,hsz,hc⟩:=HK11.out.blk (by omega)
                     have hh12:=(HY12.out.block kb (heap_lt hh)).trans hh
                     obtain⟨Ai,ci,e1,hAK⟩:=HST11.out y hyl hlt4
                     have HAK:=hid hAK
                     obtain⟨nM,hnM⟩:∃x,au[y].length=x:=⟨_,rfl⟩
                     have hsA:=Few.auts HFEW.out _ (List.getElem_mem hyl)
                     generalize hal:au[y]=al at HAK hnM hsA e1
                     rw[hnM]at e1
                     have HSA:=hid hsA
                     have HNM:=hid hnM
                     have lM:nM≤1000000:=by have:=hsA.1;omega
                     have CKC:=hid (fun(u:World) (hu:Wr w8.heap.size H1 w12 u)=>(show u.cell? ⟨kb,y,none⟩=some (.slice Ai nM ci)from by
                      have:=hu.kept hh12 (by decide)
                      rw[Lib.cell_of_heap this];exact hc _ _ e1))
                     have hKV:VK=some ⟨kb,0,none⟩:=hKK
                     clear hKK hh hsz hc hh12 e1 hAK hsA hnM hal
                     subst hKV
                     go_wp2_with fail
                     go_loopw[24] (fun i wr=>∃j:Nat,j≤nM∧i= .int .i64 j∧Hid (Wr w8.heap.size H1 w12 wr)) (fun i _=>nM-(intOf i).toNat)
                     case atStart=>exact⟨0,by omega,by simp,hY⟩
                     case round=>
                      rename World=>wd
                      clear hY
                      obtain⟨j,hj,rfl,hJ⟩:=hrel
                      have c0:=CKC.out wd hJ.out
                      by_cases hlt5:j<nM
                      ·as_aux_lemma=>
                        have hjl:j<al.length:=by rw[HNM.out];exact hlt5
                        obtain⟨vs3,hR3,hL3⟩:=HAK.out
                        obtain⟨ab,aar,hAA,hns,hh,hsz,hc⟩:=hR3.blk (by omega)
                        have hal':=heap_lt hh
                        have hh12:=(HY12.out.block ab hal').trans hh
                        have hge:w8.heap.size≤ab:=by have h9:¬ab<w10.heap.size:=fun e=>hns (.inl e);omega
                        have hltH:ab<H1:=by have:=HH1.out;omega
                        obtain⟨AA3,ac3,EA3,ec3,e0,e1,e2,_,rE⟩:=hL3 j hjl
                        obtain⟨nE,hnE⟩:∃x,al[j].edges.length=x:=⟨_,rfl⟩
                        have lE:nE≤1000000:=by have:=(HSA.out.2 _ (List.getElem_mem hjl)).2;omega
                        have HRE:=hid rE
                        rw[hnE]at e2 HRE
                        have hAV:Ai=some ⟨ab,0,none⟩:=hAA
                        obtain⟨⟨u0,y0⟩,z0⟩:=hJ.out.cell hh12 (i:=j*3) (by omega)
                        have HW8:=hid (hJ.out.set hge hltH hh12 (by decide) (j*3) (.int .u8 2) (fun _=>by omega))
                        have HDC2:=hid (fun(u:World) (hu:Wr w8.heap.size H1 w12 u)=>(show u.cell? ⟨ab,j*3+2,none⟩=some (.slice EA3 nE ec3)from
                         (hu.hdr ab aar _ hh12 (by decide) (j*3+2) (by omega)).trans (by rw[Lib.cell_of_heap hh12];exact hc _ _ e2)))
                        rw[hAV]at c0 CKC
                        clear hAA hns hh hsz hc hh12 e0 e1 e2 rE hnE hR3 hL3 hJ hAV
                        go_upto_region 46 with fail
                        clear y0 z0 c0
                        generalize wd.setCell ⟨ab,j*3,none⟩ (.int .u8 2)=we at HW8⊢
                        go_wp2_with fail
                        go_loopw[25] (fun i wr=>∃x:Nat,x≤nE∧i= .int .i64 x∧Hid (Wr w8.heap.size H1 w12 wr)) (fun i _=>nE-(intOf i).toNat)
                        case atStart=>exact⟨0,by omega,by simp,HW8⟩
                        case round=>
                         rename World=>wq
                         clear HW8
                         obtain⟨x,hx,rfl,hX⟩:=hrel
                         have c0:=CKC.out wq hX.out
                         have d1:=HDC2.out wq hX.out
                         by_cases hlt6:x<nE
                         ·as_aux_lemma=>
                           obtain⟨eb,ear,rfl,hns,hh,hsz,_⟩:=HRE.out.blk (by omega)
                           have hel:=heap_lt hh
                           have hh12:=(HY12.out.block eb hel).trans hh
                           have heH:eb<H1:=by have:=HH1.out;omega
                           have heH0:w8.heap.size≤eb:=by have h9:¬eb<w10.heap.size:=fun e=>hns (.inl e);omega
                           have HW9:=hid (hX.out.set heH0 heH hh12 (by decide) (x*2+1) (.int .i64 0) (fun h=>absurd h (by decide)))
                           obtain⟨⟨u0,y0⟩,z0⟩:=hX.out.cell hh12 (i:=x*2+1) (by omega)
                           clear hns hh hsz hh12 hX
                           go_wp2_with fail
                           go_roundw
                           case rel=>exact⟨x+1,by omega,by go_num,HW9⟩
                           case measure=>simp[intOf];omega
                         ·have hxn:x=nE:=by omega
                          subst hxn
                          go_wp2_with fail
                          go_roundw
                          case rel=>exact⟨j+1,by omega,by go_num,hX⟩
                          case measure=>simp[intOf];omega
                      ·have hjn:j=nM:=by omega
                       subst hjn
                       go_wp2_with fail
                       go_roundw
                       case rel=>exact⟨y+1,by omega,by go_num,hJ⟩
                       case measure=>simp[intOf];omega
                   ·as_aux_lemma=>
                     have hyn:y=m:=by omega
                     subst hyn
                     have HBZ:=hid (HZ12.out.trans ((hY.out.below HZ12.out.size).mono (Nat.le_refl _)))
                     have HUZ:=hid hY.out.up
                     have HCZ:=hid (HC8.out.trans (HBZ.out.mono HC8.out.size))
                     have HWZ:=hid (HB8.out.trans (HBZ.out.mono HB8.out.size))
                     have HMZ:=hid ((HM8.out.below HBZ.out).more HBZ.out.size)
                     have HQ:=hid (rdparse_any wc' M n au toks WA wc fu de HMZ.out HOK.out ((HW0.out.below HWZ.out).more HWZ.out.size) (by rw[HNW.out];exact HWC.out.1) HWC.out.2 (by rw[HNW.out];omega) (by omega) (by omega))
                     obtain⟨an,han⟩:∃x,Drv.ansB n au toks fu de=x:=⟨_,rfl⟩
                     have HAN:=hid han
                     have HSM:Hid (Drv.smTr an.tree):=hid (by rw[←han];exact Drv.ansB_sm HOK.out toks fu de (by omega))
                     rw[HNW.out,HAN.out]at HQ
                     obtain⟨k0,k1,k2,k3,k4,x0,x1,x2,x3⟩:=CN.out wc' HCZ.out
                     clear hY han
                     go_upto_region 50 with fail
                     go_wp2_with fail
                     refine HQ.out.mono ?_
                     rintro e w13 ⟨hb13,r',t',q',b',s',rfl,ht13⟩
                     dsimp only
                     obtain⟨A13,m13,c13,rfl⟩:=tr_form ht13
                     go_upto_region 51 with fail
                     obtain⟨w14,hw14⟩:∃x,x=(w13.alloc (.cells #[.int .i64 r',.int .i64 t',.int .i64 q',.bool b',.slice A13 m13 c13] 65)).alloc (.cells #[.int .i64 an.used,.int .i64 an.deep,.int .i64 an.spec] 67):=⟨_,rfl⟩
                     rw[←hw14]
                     obtain⟨hb14,t14,s14⟩:=two_boxes hw14
                     have hl13:=heap_lt s14
                     generalize hg13:w13.heap.size=g13 at t14 s14 hl13⊢
                     have hb14':=hb13.trans (hb14.mono hb13.size)
                     have HW14:=hid (HWZ.out.trans (hb14'.mono HWZ.out.size))
                     have HC14:=hid (HCZ.out.trans (hb14'.mono HCZ.out.size))
                     have HU14:=hid (HUZ.out.trans (Up.of_below hb14'))
                     have HT14:=hid t14
                     have HS14:=hid s14
                     have HTY:=hid (TrV.only (S':=fun j=>j<wc'.heap.size) (Only.of_below hb14) (fun _ _ e=>e) _ _ ht13)
                     have HI14:Hid (Below w14.heap.size w14 w14):=hid (Below.refl _ _)
                     clear hb13 ht13 hb14 t14 s14 hw14 hb14' HQ HUZ HCZ HWZ HMZ HBZ k0 k1 k2 k3 k4 x0 x1 x2 x3
                     go_wp2_with fail
                     go_loopw[29] (fun i wr=>∃z:Nat,z≤2∧i= .int .i64 z∧Hid (Below w14.heap.size w14 wr)) (fun i _=>2-(intOf i).toNat)
                     case atStart=>exact⟨0,by omega,by simp,HI14⟩
                     case round=>
                      rename World=>wr
                      clear HI14
                      obtain⟨z,hz,rfl,hZ⟩:=hrel
                      have HC15:=hid (HC14.out.trans (hZ.out.mono HC14.out.size))
                      obtain⟨k0,k1,k2,k3,k4,x0,x1,x2,x3⟩:=CN.out wr HC15.out
                      by_cases hltz:z<2
                      ·as_aux_lemma=>
                        have hltzI:(z:Int)<2:=by omega
                        have HW15:=hid (HW14.out.trans (hZ.out.mono HW14.out.size))
                        have HP:=hid (dparse2_any wr D n au (Drv.wideR n kn.rul) toks WA wc fu de (HDR.out wr (HU14.out.trans (Up.of_below hZ.out))) HOK.out ((HW0.out.below HW15.out).more HW15.out.size) (by rw[HNW.out];exact HWC.out.1) HWC.out.2 (by rw[HNW.out];omega) (by omega) (by omega))
                        rw[HNW.out,HAN.out]at HP
                        go_upto_region 54 with fail
                        go_wp2_with fail
                        refine HP.out.mono ?_
                        rintro e w15 ⟨hb15,r,t,q2,b,A15,m15,c15,rfl,ht15,lm15,hrow⟩
                        dsimp only
                        go_upto_region 55 with fail
                        obtain⟨w16,hw16⟩:∃x,x=(w15.alloc (.cells #[.int .i64 r,.int .i64 t,.int .i64 q2,.bool b,.slice A15 m15 c15] 65)).alloc (.cells #[.int .i64 an.used,.int .i64 an.deep,.int .i64 an.spec] 70):=⟨_,rfl⟩
                        rw[←hw16]
                        obtain⟨hb16,t16,s16⟩:=two_boxes hw16
                        have HROW:=hid hrow
                        have HB16:=hid hb16
                        have s15:=hb15.size
                        have hg15s:w15.heap.size≤w15.heap.size:=Nat.le_refl _
                        generalize hg15:w15.heap.size=g15 at t16 s16 hg15s s15⊢
                        have hb16':=hb15.trans (hb16.mono hb15.size)
                        have HD16:=hid (hZ.out.trans (hb16'.mono hZ.out.size))
                        have HX16:=hid hb16'
                        have HT16:=hid t16
                        have HS16:=hid s16
                        have HTX16:=hid (TrV.only (S':=fun j=>j<wr.heap.size) (Only.of_below hb16) (fun _ _ e=>e) _ _ ht15)
                        have HTY16:=hid (TrV.only (S':=fun j=>j<wc'.heap.size) (Only.of_below HD16.out) (fun _ _ e=>e) _ _ HTY.out)
                        have BX:=hid (fun(u:World) (hb:Below w16.heap.size w16 u)=>(show(u.heap[g15]? =some (.cells #[.int .i64 r,.int .i64 t,.int .i64 q2,.bool b,.slice A15 m15 c15] 65 (0,0))∧u.heap[g15+1]? =some (.cells #[.int .i64 an.used,.int .i64 an.deep,.int .i64 an.spec] 70 (0,0)))∧(u.heap[g13]? =some (.cells #[.int .i64 r',.int .i64 t',.int .i64 q',.bool b',.slice A13 m13 c13] 65 (0,0))∧u.heap[g13+1]? =some (.cells #[.int .i64 an.used,.int .i64 an.deep,.int .i64 an.spec] 67 (0,0)))from
                         ⟨⟨(hb.block _ (heap_lt HT16.out)).trans HT16.out,(hb.block _ (heap_lt HS16.out)).trans HS16.out⟩,(hb.block _ (Nat.lt_of_lt_of_le (heap_lt HT14.out) HD16.out.size)).trans ((HD16.out.block _ (heap_lt HT14.out)).trans HT14.out),(hb.block _ (Nat.lt_of_lt_of_le (heap_lt HS14.out) HD16.out.size)).trans ((HD16.out.block _ (heap_lt HS14.out)).trans HS14.out)⟩))
                        clear hb15 ht15 hrow hb16 t16 s16 hw16 hb16' HP k0 k1 k2 k3 k4 x0 x1 x2 x3 hg15s
                        obtain⟨⟨X,Y⟩,Z,V⟩:=BX.out w16 (Below.refl _ _)
                        obtain⟨⟨a0,a1,a2,a3,a4⟩,az⟩:=cells5z X
                        obtain⟨⟨a5,a6,a7⟩,az'⟩:=cells3z Y
                        obtain⟨⟨b0,b1,b2,b3,b4⟩,bz⟩:=cells5z Z
                        obtain⟨⟨b5,b6,b7⟩,bz'⟩:=cells3z V
                        clear X Y Z V az az' bz bz'
                        go_wp2_with fail
                        refine(sameStats_any w16 _ _ _ _ _ _).mono ?_
                        rintro e w17 ⟨rfl,hb17⟩
                        rw[beq_self_eq_true,beq_self_eq_true,beq_self_eq_true]
                        dsimp only[Bool.and_true,Bool.and_self]
                        have HCS:=hid (sameTree_any (Drv.szTr an.tree) an.tree an.tree w17 (fun j=>j<wr.heap.size) (fun j=>j<wc'.heap.size) _ _ (Nat.le_refl _) HSM.out (TrV.only (S':=fun j=>j<wr.heap.size) (Only.of_below hb17) (fun _ _ e=>e) _ _ HTX16.out) (TrV.only (S':=fun j=>j<wc'.heap.size) (Only.of_below hb17) (fun _ _ e=>e) _ _ HTY16.out))
                        have HD17:=hid hb17
                        clear hb17 a0 a1 a2 a3 a4 a5 a6 a7 b0 b1 b2 b3 b4 b5 b6 b7
                        obtain⟨⟨X,Y⟩,Z,V⟩:=BX.out w17 HD17.out
                        obtain⟨⟨a0,a1,a2,a3,a4⟩,az⟩:=cells5z X
                        obtain⟨⟨b0,b1,b2,b3,b4⟩,bz⟩:=cells5z Z
                        clear X Y Z V az bz
                        go_wp2_with fail
                        refine HCS.out.mono ?_
                        rintro e w18 ⟨rfl,hb18⟩
                        rw[(Drv.sameTr_iff _ _).2 rfl]
                        dsimp only
                        have HD18:=hid (HD17.out.trans (hb18.mono HD17.out.size))
                        clear hb18 a0 a1 a2 a3 a4 b0 b1 b2 b3 b4 HCS
                        have HE18:=hid (HB16.out.trans (HD18.out.mono HB16.out.size))
                        have HSB0:Hid (SubW A15 m15 w18 w18):=hid (SubW.refl _ _ _)
                        have HT18:=hid ((HD18.out.block _ (heap_lt HT16.out)).trans HT16.out)
                        have HROW18:=hid (fun(h:0<m15)=>(show∃(ab:Nat) (arr:Array Value),A15=some ⟨ab,0,none⟩∧wr.heap.size≤ab∧ab<g15∧w18.heap[ab]? =some (.cells arr 65 (0,0))∧m15*5≤arr.size from by
                         obtain⟨ab,arr,h1,h2,h3,h4⟩:=HROW.out h
                         have h5:=heap_lt h3
                         exact⟨ab,arr,h1,h2,by omega,(HE18.out.block ab h5).trans h3,h4⟩))
                        go_wp2_with fail
                        go_loopw[33] (fun i wr=>∃y:Nat,y≤m15∧i= .int .i64 y∧Hid (SubW A15 m15 w18 wr)) (fun i _=>m15-(intOf i).toNat)
                        case atStart=>exact⟨0,by omega,by simp,HSB0⟩
                        case round=>
                         rename World=>wq
                         clear HSB0
                         obtain⟨y,hy,rfl,hY⟩:=hrel
                         by_cases hlty:y<m15
                         ·as_aux_lemma=>
                           obtain⟨ab,arr,rfl,hge,hlt15,hh,hsz⟩:=HROW18.out (by omega)
                           have c4:wq.cell? ⟨g15,4,none⟩=some (.slice (some ⟨ab,0,none⟩) m15 c15):=by
                            rw[Lib.cell_of_heap ((hY.out.only.block g15 (heap_lt HT18.out) (fun e=>by have e:some ab=some g15:=e;injection e with e;omega)).trans HT18.out)];rfl
                           obtain⟨⟨u0,y0⟩,z0⟩:=hY.out.cell hh (i:=y*5) (by omega)
                           have hY1:=hY.out.set (by omega) (y*5) (.int .i64 77)
                           have HY1:=hid hY1
                           clear hY hY1
                           go_upto_region 61 with fail
                           clear y0 z0 c4
                           generalize wq.setCell ⟨ab,y*5,none⟩ (.int .i64 77)=wz at HY1⊢
                           have c4:wz.cell? ⟨g15,4,none⟩=some (.slice (some ⟨ab,0,none⟩) m15 c15):=by
                            rw[Lib.cell_of_heap ((HY1.out.only.block g15 (heap_lt HT18.out) (fun e=>by have e:some ab=some g15:=e;injection e with e;omega)).trans HT18.out)];rfl
                           obtain⟨⟨u0,y0⟩,z0⟩:=HY1.out.cell hh (i:=y*5+4) (by omega)
                           have HY2:=hid (HY1.out.set (by omega) (y*5+4) (.slice none 0 0))
                           clear HY1
                           go_wp2_with fail
                           go_roundw
                           case rel=>exact⟨y+1,by omega,by go_num,HY2⟩
                           case measure=>simp[intOf];omega
                         ·as_aux_lemma=>
                           have hyn:y=m15:=by omega
                           subst hyn
                           have c4:wq.cell? ⟨g15,4,none⟩=some (.slice A15 y c15):=by
                            by_cases h0:0<y
                            ·obtain⟨ab,arr,rfl,hge,hlt15,hh,hsz⟩:=HROW18.out h0
                             rw[Lib.cell_of_heap ((hY.out.only.block g15 (heap_lt HT18.out) (fun e=>by have e:some ab=some g15:=e;injection e with e;omega)).trans HT18.out)];rfl
                            ·rw[hY.out.still (by omega),Lib.cell_of_heap HT18.out];rfl
                           have HFIN:Hid (Below w14.heap.size w14 wq):=hid (by
                            have hbz:Below wr.heap.size w18 wq:=by
                             by_cases h0:0<y
                             ·obtain⟨ab,arr,rfl,hge,_,_,_⟩:=HROW18.out h0
                              exact hY.out.only.below' (fun j e=>by have e:some ab=some j:=e;injection e with e;omega) (Nat.le_trans HX16.out.size HD18.out.size)
                             ·rw[hY.out.still (by omega)];exact Below.refl _ _
                            have h1:Below wr.heap.size wr w18:=HX16.out.trans (HD18.out.mono HX16.out.size)
                            exact hZ.out.trans ((h1.trans hbz).mono hZ.out.size))
                           clear hY
                           go_wp2_with fail
                           go_roundw
                           case rel=>exact⟨z+1,by omega,by go_num,HFIN⟩
                           case measure=>simp[intOf];omega
                      ·have hz2:z=2:=by omega
                       subst hz2
                       have HFZ:=hid (HW14.out.trans (hZ.out.mono HW14.out.size))
                       clear hZ k0 k1 k2 k3 k4 x0 x1 x2 x3
                       go_wp2_with fail
                       refine(lives_any wr).mono ?_
                       rintro e wl ⟨rfl,hbl⟩
                       have HBL:=hid (HFZ.out.trans (hbl.mono HFZ.out.size))
                       clear hbl
                       dsimp only
                       go_wp2_with fail
                       go_ret
                       exact⟨rfl,HBL.out⟩
end Go.Proofs.Ytgflanlniejflaa
