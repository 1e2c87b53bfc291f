/-
  Drivers: a new driver: the walk.
-/
import Derived.Test.YtgflanlniejflaaK40
namespace Go.Proofs.Ytgflanlniejflaa
open Go.RowKit
set_option maxRecDepth 100000
theorem infoAuto:(Try.prog.info? 50).map (fun i=>(i.zero,i.size,i.bytes))=some (some (.agg #[.slice none 0 0]),1,24):=by kernel_rfl
def NewP (n:Drv.NNet) (au:List (List Drv.LSt)) (w:World) (e:Ending) (w':World):Prop:=
 Below w.heap.size w w'∧((Drv.newB n au=false∧e= .returned (.tuple #[.pointer none,.int .i64 1]))∨
  (Drv.newB n au=true∧∃D k,e= .returned (.tuple #[.pointer (some ⟨D,0,none⟩),.int .i64 0])∧w.heap.size≤D∧Drv.Known n k∧∀x,Up w.heap.size w' x→DrvAt x D x.heap.size n au (Drv.wideR n k.rul)))
theorem newP_bad {n:Drv.NNet}{au:List (List Drv.LSt)}{w w':World}(h:Drv.newB n au=false) (hb:Below w.heap.size w w'):NewP n au w (.returned (.tuple #[.pointer none,.int .i64 1])) w':=⟨hb,.inl ⟨h,rfl⟩⟩
set_option maxHeartbeats 12800000 in
theorem new_any (w:World) (n:Drv.NNet) (SA TA UA QA DA AA:Option Addr) (sc tc uc qc dc ac:Nat) (au:List (List Drv.LSt)) (h:NetR w w.heap.size SA TA UA QA DA n) (hs:NetS n) (ha:AusR w w.heap.size AA au) (hal:au.length≤1000000) (hau:∀a∈au,AutS a):
 Calls Try.prog 12 #[netAgg SA TA UA QA DA sc tc uc qc dc n,.slice AA au.length ac] w (NewP n au w):=by
 obtain⟨nS,hnS⟩:∃m,n.states.length=m:=⟨_,rfl⟩
 obtain⟨nT,hnT⟩:∃m,n.starts.length=m:=⟨_,rfl⟩
 obtain⟨nU,hnU⟩:∃m,n.stops.length=m:=⟨_,rfl⟩
 obtain⟨nQ,hnQ⟩:∃m,n.preds.length=m:=⟨_,rfl⟩
 obtain⟨nD,hnD⟩:∃m,n.decs.length=m:=⟨_,rfl⟩
 obtain⟨nA,hnA⟩:∃m,au.length=m:=⟨_,rfl⟩
 obtain⟨w1,hw1⟩:∃x,x=w.alloc (.cells #[.slice SA nS sc,.slice TA nT tc,.slice UA nU uc,.slice QA nQ qc,.slice DA nD dc] 25):=⟨_,rfl⟩
 have b1:Below w.heap.size w w1:=by rw[hw1];exact below_new _ _
 have T1:w1.heap[w.heap.size]? =some (.cells #[.slice SA nS sc,.slice TA nT tc,.slice UA nU uc,.slice QA nQ qc,.slice DA nD dc] 25 (0,0)):=by rw[hw1];exact heap_alloc_new _ _
 have cm:=netMay_any w1 n SA TA UA QA DA sc tc uc qc dc (h.up b1 b1.size) hs
 have co:=fun(u:World) (hb:Below w.heap.size w u)=>netOf_any u n SA TA UA QA DA sc tc uc qc dc (h.up hb hb.size) hs
 unfold netAgg at cm co⊢
 rw[hnS,hnT,hnU,hnQ,hnD]at cm co
 rw[hnS,hnT,hnU,hnQ,hnD,hnA]
 have CM:=hid cm
 have CO:=hid co
 have H:=hid h
 have HS:=hid hs
 have HA:=hid ha
 have HAU:=hid hau
 have HT1:=hid T1
 have HB1:=hid b1
 have hW1:=hid hw1.symm
 have HSZ:=hid (And.intro hnS (And.intro hnT (And.intro hnU (And.intro hnQ (And.intro hnD hnA)))))
 have lS:=hs.states
 have lT:=hs.starts
 have lQ:=hs.preds
 have lD:=hs.decs
 rw[hnS]at lS
 rw[hnT]at lT
 rw[hnQ]at lQ
 rw[hnD]at lD
 rw[hnA]at hal
 have hpre:Drv.preNew n nA=(Drv.mayNet n && decide (1≤nT) && decide (nT≤64) && (nA==nD) && decide (nD+nQ≤65536)):=by unfold Drv.preNew;rw[hnT,hnD,hnQ]
 have HPRE:=hid hpre
 have HNB:Hid (Drv.newB n au=(Drv.preNew n nA && Drv.okTo n au nA)):=hid (by unfold Drv.newB;rw[hnA])
 have y0:w1.cell? ⟨w.heap.size,0,none⟩=some (.slice SA nS sc):=by rw[Lib.cell_of_heap T1];rfl
 have y1:w1.cell? ⟨w.heap.size,1,none⟩=some (.slice TA nT tc):=by rw[Lib.cell_of_heap T1];rfl
 have y2:w1.cell? ⟨w.heap.size,2,none⟩=some (.slice UA nU uc):=by rw[Lib.cell_of_heap T1];rfl
 have y3:w1.cell? ⟨w.heap.size,3,none⟩=some (.slice QA nQ qc):=by rw[Lib.cell_of_heap T1];rfl
 have y4:w1.cell? ⟨w.heap.size,4,none⟩=some (.slice DA nD dc):=by rw[Lib.cell_of_heap T1];rfl
 have hl1:=heap_lt T1
 clear h hs ha hau hw1 b1 T1 cm co hnS hnT hnU hnQ hnD hnA hpre
 go_enter Try.func12,Try.ntmps12
 go_upto_region 1 with fail
 rw[hW1.out]
 clear hW1
 go_wp2_with fail
 refine CM.out.mono ?_
 rintro e w2 ⟨rfl,hb2⟩
 dsimp only
 have p0:=(hb2.cell (p:=⟨w.heap.size,0,none⟩) hl1).trans y0
 have p1:=(hb2.cell (p:=⟨w.heap.size,1,none⟩) hl1).trans y1
 have p2:=(hb2.cell (p:=⟨w.heap.size,2,none⟩) hl1).trans y2
 have p3:=(hb2.cell (p:=⟨w.heap.size,3,none⟩) hl1).trans y3
 have p4:=(hb2.cell (p:=⟨w.heap.size,4,none⟩) hl1).trans y4
 have HB2:=hid (HB1.out.trans (hb2.mono HB1.out.size))
 have HT2:=hid ((hb2.block _ hl1).trans HT1.out)
 have hl2:=heap_lt HT2.out
 have hwn:IntKind.i64.wrap ((nD:Int)+nQ)=nD+nQ:=w64 (by omega) (by omega)
 clear HT1 HB1 hl1 hb2 CM y0 y1 y2 y3 y4
 generalize hbm:Drv.mayNet n=bm at HPRE⊢
 have HBM:=hid hbm
 clear hbm
 have BAD:=hid (fun(hf:Drv.preNew n nA=false)=>newP_bad (w:=w) (w':=w2) (by rw[HNB.out,hf];rfl) HB2.out)
 cases bm with
 | false=>
  have HF:=hid (BAD.out (by rw[HPRE.out];rfl))
  go_wp2_with fail
  go_ret2
  exact HF.out
 | true=>
  by_cases h1:nT<1
  ·have g1:decide ((nT:Int)<1)=true:=by rw[decide_eq_true_eq];omega
   have HF:=hid (BAD.out (by rw[HPRE.out,show decide (1≤nT)=false by rw[decide_eq_false_iff_not];omega];rfl))
   clear h1
   go_wp2_with fail
   go_ret2
   exact HF.out
  ·have g1:decide ((nT:Int)<1)=false:=by rw[decide_eq_false_iff_not];omega
   by_cases h2:64<nT
   ·have g2:decide ((64:Int)<(nT:Int))=true:=by rw[decide_eq_true_eq];omega
    have HF:=hid (BAD.out (by rw[HPRE.out,show decide (nT≤64)=false by rw[decide_eq_false_iff_not];omega];simp))
    clear h1 h2
    go_wp2_with fail
    go_ret2
    exact HF.out
   ·have g2:decide ((64:Int)<(nT:Int))=false:=by rw[decide_eq_false_iff_not];omega
    by_cases h3:nA=nD
    ·subst h3
     by_cases h4:65536<nA+nQ
     ·have g4:decide ((65536:Int)<(nA:Int)+nQ)=true:=by rw[decide_eq_true_eq];omega
      have HF:=hid (BAD.out (by rw[HPRE.out,show decide (nA+nQ≤65536)=false by rw[decide_eq_false_iff_not];omega];simp))
      clear h1 h2 h4
      go_wp2_with fail
      go_ret2
      exact HF.out
     ·have g4:decide ((65536:Int)<(nA:Int)+nQ)=false:=by rw[decide_eq_false_iff_not];omega
      have HPOK:Hid (Drv.preNew n nA=true):=hid (by
       rw[HPRE.out,show decide (1≤nT)=true by rw[decide_eq_true_eq];omega,show decide (nT≤64)=true by rw[decide_eq_true_eq];omega,show decide (nA+nQ≤65536)=true by rw[decide_eq_true_eq];omega]
       simp)
      clear h1 h2 h4 BAD HPRE
      have hmk:=mkInts nS lS
      go_upto_region 3 with fail
      have ST:=hid (fun(u:World) (hb:Below w2.heap.size w2 u)=>(show u.cell? ⟨w.heap.size,0,none⟩=some (.slice SA nS sc)∧u.cell? ⟨w.heap.size,1,none⟩=some (.slice TA nT tc)∧u.cell? ⟨w.heap.size,2,none⟩=some (.slice UA nU uc)∧u.cell? ⟨w.heap.size,3,none⟩=some (.slice QA nQ qc)∧u.cell? ⟨w.heap.size,4,none⟩=some (.slice DA nA dc)from
       ⟨(hb.cell (p:=⟨w.heap.size,0,none⟩) hl2).trans p0,(hb.cell (p:=⟨w.heap.size,1,none⟩) hl2).trans p1,(hb.cell (p:=⟨w.heap.size,2,none⟩) hl2).trans p2,(hb.cell (p:=⟨w.heap.size,3,none⟩) hl2).trans p3,(hb.cell (p:=⟨w.heap.size,4,none⟩) hl2).trans p4⟩))
      go_cut[6]from 10 (fun v wx=>∃(D PB:Nat) (S T U Q E:Option Addr) (sc' tc' uc' qc' ec':Nat),v= .pointer (some ⟨D,0,none⟩)∧Hid (NewI w #[.slice SA nS sc,.slice TA nT tc,.slice UA nU uc,.slice QA nQ qc,.slice DA nA dc] n au D PB S T U Q E sc' tc' uc' qc' ec' (.slice none 0 0) [] (List.replicate n.states.length 0) 0 0 wx))
      case first=>
       refine wp_region_late (l:=8) (S:=(fun w'=>w'.cell? ⟨w.heap.size,0,none⟩=some (.slice SA nS sc)∧w'.cell? ⟨w.heap.size,1,none⟩=some (.slice TA nT tc)∧w'.cell? ⟨w.heap.size,2,none⟩=some (.slice UA nU uc)∧w'.cell? ⟨w.heap.size,3,none⟩=some (.slice QA nQ qc)∧w'.cell? ⟨w.heap.size,4,none⟩=some (.slice DA nA dc))) (by kernel_rfl) ⟨p0,p1,p2,p3,p4⟩ (fun hHeld=>?_)
       have HLwd:Below w2.heap.size w2 w2.drew:=⟨rfl,rfl,rfl,Nat.le_refl _,fun _ _=>rfl⟩
       generalize w2.drew=wd at hHeld HLwd⊢
       clear p0 p1 p2 p3 p4
       refine wpAnyF_take2 (i:=0) (.agg #[.slice SA nS sc,.slice TA nT tc,.slice UA nU uc,.slice QA nQ qc,.slice DA nA dc]) (by kernel_rfl) rfl (by decide) (by kernel_rfl) (by kernel_rfl) (by kernel_rfl) (by kernel_rfl) (fun _ _ _ h=>h) hHeld (by rfl) (fun w' hSw=>?_) ?_
       ·obtain⟨p0,p1,p2,p3,p4⟩:=hSw;go_simp
       simp only[Act.put]
       refine wpAnyF_take2 (i:=2) (.pointer (some ⟨w.heap.size,0,none⟩)) (by kernel_rfl) rfl (by decide) (by kernel_rfl) (by kernel_rfl) (by kernel_rfl) (by kernel_rfl) (fun _ _ _ h=>h) hHeld (by rfl) (fun w' hSw=>?_) ?_
       ·obtain⟨p0,p1,p2,p3,p4⟩:=hSw;go_simp
       simp only[Act.put]
       refine wpAnyF_take2 (i:=3) (.slice SA nS sc) (by kernel_rfl) rfl (by decide) (by kernel_rfl) (by kernel_rfl) (by kernel_rfl) (by kernel_rfl) (fun _ _ _ h=>h) hHeld (by rfl) (fun w' hSw=>?_) ?_
       ·obtain⟨p0,p1,p2,p3,p4⟩:=hSw;go_simp
       simp only[Act.put]
       refine wpAnyF_take2 (i:=4) (.int .i64 nS) (by kernel_rfl) rfl (by decide) (by kernel_rfl) (by kernel_rfl) (by kernel_rfl) (by kernel_rfl) (fun _ _ _ h=>h) hHeld (by rfl) (fun w' hSw=>?_) ?_
       ·obtain⟨p0,p1,p2,p3,p4⟩:=hSw;go_simp
       simp only[Act.put]
       refine wpAnyF_two 1 5 (by kernel_rfl) rfl rfl (fun K hK=>?_) (fun K hK=>?_)
       ·go_simp
        go_at_call 27
        refine(CO.out wd (HB2.out.trans (HLwd.mono HB2.out.size))).mono ?_
        rintro e w3 ⟨S,T,U,Q,E,sc',tc',uc',qc',ec',rfl,hb3,hnet⟩
        dsimp only
        have HL3:=HLwd.trans (hb3.mono HLwd.size)
        refine hK _ _ (ST.out w3 HL3) (fun hHeld=>?_)
        clear hK
        clear K
        refine wpAnyF_step 5 (by kernel_rfl) rfl (fun K hK=>?_)
        go_simp
        have hb4:Below w3.heap.size w3 (w3.alloc (.cells (Array.replicate nS (Value.int .i64 0)) 3)):=below_new _ _
        have T4:=heap_alloc_new w3 (.cells (Array.replicate nS (Value.int .i64 0)) 3)
        have z4:(w3.alloc (.cells (Array.replicate nS (Value.int .i64 0)) 3)).heap.size=w3.heap.size+1:=by simp
        have HL4:=HL3.trans (hb4.mono HL3.size)
        refine hK _ _ (ST.out _ HL4) (fun hHeld=>?_)
        clear hK
        clear K
        generalize w3.alloc (.cells (Array.replicate nS (Value.int .i64 0)) 3)=w4 at hb4 T4 z4 HL4 hHeld⊢
        refine wpAnyF_take2 (i:=6) (.agg #[.slice S nS sc',.slice T nT tc',.slice U nU uc',.slice Q nQ qc',.slice E nA ec',.slice none 0 0,.slice (some ⟨w3.heap.size,0,none⟩) nS nS,.int .i64 0]) (by kernel_rfl) rfl (by decide) (by kernel_rfl) (by kernel_rfl) (by kernel_rfl) (by kernel_rfl) (fun _ _ _ h=>h) hHeld (by rfl) (fun w' hSw=>?_) ?_
        ·obtain⟨p0,p1,p2,p3,p4⟩:=hSw;go_simp
        try simp only[Act.put]
        refine wpAnyF_step 7 (by kernel_rfl) rfl (fun K hK=>?_)
        go_simp
        have hbF:Below w4.heap.size w4 (w4.alloc (.cells #[.slice S nS sc',.slice T nT tc',.slice U nU uc',.slice Q nQ qc',.slice E nA ec',.slice none 0 0,.slice (some ⟨w3.heap.size,0,none⟩) nS nS,.int .i64 0] 80)):=below_new _ _
        have T5:=heap_alloc_new w4 (.cells #[.slice S nS sc',.slice T nT tc',.slice U nU uc',.slice Q nQ qc',.slice E nA ec',.slice none 0 0,.slice (some ⟨w3.heap.size,0,none⟩) nS nS,.int .i64 0] 80)
        have HL5:=HL4.trans (hbF.mono HL4.size)
        refine hK _ _ (ST.out _ HL5) (fun hHeld=>?_)
        clear hK
        clear K
        generalize w4.alloc (.cells #[.slice S nS sc',.slice T nT tc',.slice U nU uc',.slice Q nQ qc',.slice E nA ec',.slice none 0 0,.slice (some ⟨w3.heap.size,0,none⟩) nS nS,.int .i64 0] 80)=w5 at hbF T5 HL5 hHeld⊢
        refine wpAnyF_step 8 (by kernel_rfl) rfl (fun K hK=>?_)
        go_simp
        refine hK _ _ (ST.out _ HL5) (fun hHeld=>?_)
        clear hK
        clear K
        refine⟨by kernel_rfl,?_⟩
        have HN:Hid (NewI w #[.slice SA nS sc,.slice TA nT tc,.slice UA nU uc,.slice QA nQ qc,.slice DA nA dc] n au (w3.heap.size+1) w3.heap.size S T U Q E sc' tc' uc' qc' ec' (.slice none 0 0) [] (List.replicate n.states.length 0) 0 0 w5):=by
         obtain⟨g1,g2,g3,g4,g5,g6⟩:=HSZ.out
         have s1:=HB2.out.size
         have s2:=HLwd.size
         have s3:=hb3.size
         refine hid (NewI.start (w3:=w3) (lo:=wd.heap.size) (HB2.out.trans (HL5.mono HB2.out.size)) ((HL5.block _ hl2).trans HT2.out) ?_ ?_ (by omega) (by omega) (Up.of_below (hb4.trans (hbF.mono hb4.size))) (.inr (by omega)) (.inr (Nat.le_refl _)) (by omega) hnet)
         ·unfold drvCells
          rw[g1,g2,g3,g4,g5,←z4];exact T5
         ·rw[hbF.block _ (heap_lt T4),T4,g1];simp
        clear T4 T5 z4 hb4 hbF hnet hb3 HL3 HL4 HL5 HLwd hHeld
        go_wp2_with fail
        go_meet
        exact⟨_,_,S,T,U,Q,E,sc',tc',uc',qc',ec',rfl,HN⟩
       ·go_simp
        have hb4:Below wd.heap.size wd (wd.alloc (.cells (Array.replicate nS (Value.int .i64 0)) 3)):=below_new _ _
        have T4:=heap_alloc_new wd (.cells (Array.replicate nS (Value.int .i64 0)) 3)
        have z4:(wd.alloc (.cells (Array.replicate nS (Value.int .i64 0)) 3)).heap.size=wd.heap.size+1:=by simp
        have HL4:=HLwd.trans (hb4.mono HLwd.size)
        refine hK _ _ (ST.out _ HL4) (fun hHeld=>?_)
        clear hK
        clear K
        generalize wd.alloc (.cells (Array.replicate nS (Value.int .i64 0)) 3)=w4 at hb4 T4 z4 HL4 hHeld⊢
        refine wpAnyF_step 1 (by kernel_rfl) rfl (fun K hK=>?_)
        go_simp
        go_at_call 27
        refine(CO.out w4 (HB2.out.trans (HL4.mono HB2.out.size))).mono ?_
        rintro e w3 ⟨S,T,U,Q,E,sc',tc',uc',qc',ec',rfl,hb3,hnet⟩
        dsimp only
        have HL3:=HL4.trans (hb3.mono HL4.size)
        refine hK _ _ (ST.out w3 HL3) (fun hHeld=>?_)
        clear hK
        clear K
        refine wpAnyF_take2 (i:=6) (.agg #[.slice S nS sc',.slice T nT tc',.slice U nU uc',.slice Q nQ qc',.slice E nA ec',.slice none 0 0,.slice (some ⟨wd.heap.size,0,none⟩) nS nS,.int .i64 0]) (by kernel_rfl) rfl (by decide) (by kernel_rfl) (by kernel_rfl) (by kernel_rfl) (by kernel_rfl) (fun _ _ _ h=>h) hHeld (by rfl) (fun w' hSw=>?_) ?_
        ·obtain⟨p0,p1,p2,p3,p4⟩:=hSw;go_simp
        try simp only[Act.put]
        refine wpAnyF_step 7 (by kernel_rfl) rfl (fun K hK=>?_)
        go_simp
        have hbF:Below w3.heap.size w3 (w3.alloc (.cells #[.slice S nS sc',.slice T nT tc',.slice U nU uc',.slice Q nQ qc',.slice E nA ec',.slice none 0 0,.slice (some ⟨wd.heap.size,0,none⟩) nS nS,.int .i64 0] 80)):=below_new _ _
        have T5:=heap_alloc_new w3 (.cells #[.slice S nS sc',.slice T nT tc',.slice U nU uc',.slice Q nQ qc',.slice E nA ec',.slice none 0 0,.slice (some ⟨wd.heap.size,0,none⟩) nS nS,.int .i64 0] 80)
        have HL5:=HL3.trans (hbF.mono HL3.size)
        refine hK _ _ (ST.out _ HL5) (fun hHeld=>?_)
        clear hK
        clear K
        generalize w3.alloc (.cells #[.slice S nS sc',.slice T nT tc',.slice U nU uc',.slice Q nQ qc',.slice E nA ec',.slice none 0 0,.slice (some ⟨wd.heap.size,0,none⟩) nS nS,.int .i64 0] 80)=w5 at hbF T5 HL5 hHeld⊢
        refine wpAnyF_step 8 (by kernel_rfl) rfl (fun K hK=>?_)
        go_simp
        refine hK _ _ (ST.out _ HL5) (fun hHeld=>?_)
        clear hK
        clear K
        refine⟨by kernel_rfl,?_⟩
        have HN:Hid (NewI w #[.slice SA nS sc,.slice TA nT tc,.slice UA nU uc,.slice QA nQ qc,.slice DA nA dc] n au w3.heap.size wd.heap.size S T U Q E sc' tc' uc' qc' ec' (.slice none 0 0) [] (List.replicate n.states.length 0) 0 0 w5):=by
         obtain⟨g1,g2,g3,g4,g5,g6⟩:=HSZ.out
         have s1:=HB2.out.size
         have s2:=HLwd.size
         have s3:=hb3.size
         have s4:=heap_lt HT2.out
         refine hid (NewI.start (w3:=w3) (lo:=w4.heap.size) (HB2.out.trans (HL5.mono HB2.out.size)) ((HL5.block _ hl2).trans HT2.out) ?_ ?_ (by omega) (by omega) (Up.of_below hbF) (.inr (Nat.le_refl _)) (.inl (by omega)) (by omega) hnet)
         ·unfold drvCells
          rw[g1,g2,g3,g4,g5];exact T5
         ·rw[hbF.block _ (Nat.lt_of_lt_of_le (heap_lt T4) hb3.size),hb3.block _ (heap_lt T4),T4,g1];simp
        clear T4 T5 z4 hb4 hbF hnet hb3 HL3 HL4 HL5 HLwd hHeld
        go_wp2_with fail
        go_meet
        exact⟨_,_,S,T,U,Q,E,sc',tc',uc',qc',ec',rfl,HN⟩
      case rest=>
       obtain⟨D,PB,S,T,U,Q,E,sc',tc',uc',qc',ec',rfl,HN⟩:=hcut
       clear p0 p1 p2 p3 p4 ST HT2 HB2 hwn CO g1 g2 g4 hl2 hmk
       have q4:wc.cell? ⟨w.heap.size,4,none⟩=some (.slice DA nA dc):=by rw[Lib.cell_of_heap HN.out.box];rfl
       go_wp2_with fail
       go_loopw[54] (fun i wx=>∃j:Nat,j≤nA∧i= .int .i64 j∧Hid (Drv.okTo n au j=true∧∃vA vs pl,NewI w #[.slice SA nS sc,.slice TA nT tc,.slice UA nU uc,.slice QA nQ qc,.slice DA nA dc] n au D PB S T U Q E sc' tc' uc' qc' ec' vA vs pl j j wx)) (fun i _=>nA-(intOf i).toNat)
       case atStart=>exact⟨0,Nat.zero_le _,rfl,hid ⟨rfl,_,_,_,HN.out⟩⟩
       case round=>
        clear HN q4
        obtain⟨j,hj,rfl,hJ⟩:=hrel
        obtain⟨hok,vA,vs,pl,hN⟩:=hJ.out
        have HOK:=hid hok
        have HN:=hid hN
        clear hok hN hJ
        by_cases hlt:j<nA
        ·obtain⟨g1,g2,g3,g4,g5,g6⟩:=HSZ.out
         have hjd:j<n.decs.length:=by rw[g5];exact hlt
         have hja:j<au.length:=by rw[g6];exact hlt
         obtain⟨a,hae,hal9⟩:=Drv.decs_in HBM.out (List.getElem_mem hjd)
         have hdj:n.decs[j]? =some (a:Int):=by rw[List.getElem?_eq_getElem hjd,hae]
         obtain⟨db,dof,hDA,hdb,hdc⟩:=H.out.decs.2 (by omega)
         have c0:=hdc j (.int .i64 a) (by rw[List.getElem?_map,hdj];rfl)
         obtain⟨xb,xo,EA,ec,XA,xc,hSA,hxb,e0,e1,e2,r0,r1⟩:=H.out.sts.at hal9
         have hat:Drv.at0 n.decs j=(a:Int):=by unfold Drv.at0;rw[Int.toNat_natCast,List.getD_eq_getElem?_getD,hdj];rfl
         have halt:Drv.altsOf n j=(n.states[a].ends.length:Int):=by
          unfold Drv.altsOf
          rw[hat,Int.toNat_natCast,List.getD_eq_getElem?_getD,List.getElem?_eq_getElem hal9]
          rfl
         have hsx:=(HS.out.st _ (List.getElem_mem hal9)).2.1
         generalize n.states[a].ends.length=nX at e2 r1 halt hsx
         obtain⟨vsA,hra,hAs⟩:=HA.out
         obtain⟨Ai,ci,hvj,hAi⟩:=hAs j hja
         obtain⟨ab,ao,hAA,hab,hac⟩:=hra.2 (by omega)
         have c1:=hac j _ hvj
         have hsa:=HAU.out _ (List.getElem_mem hja)
         have hgd:au.getD j []=au[j]:=by rw[List.getD_eq_getElem?_getD,List.getElem?_eq_getElem hja];rfl
         have hokat:Drv.okAt n au j=(decide ((nX:Int)≤32) && Drv.mayAuto au[j] nX 64):=by unfold Drv.okAt;rw[halt,hgd]
         obtain⟨nL,hnL⟩:∃m,au[j].length=m:=⟨_,rfl⟩
         have c2:wr.cell? ⟨w.heap.size,0,none⟩=some (.slice SA nS sc):=by rw[Lib.cell_of_heap HN.out.box];rfl
         have c0:=(HN.out.below.cell (p:=⟨db,dof+j,none⟩) hdb).trans c0
         have e2:=(HN.out.below.cell (p:=⟨xb,xo+a*3+2,none⟩) hxb).trans e2
         have c1:=(HN.out.below.cell (p:=⟨ab,ao+j,none⟩) hab).trans c1
         have cm:=fun(u:World) (hb:Below w.heap.size w u)=>autoMay_any u au[j] Ai ci nX 64 (by obtain⟨vs',k2,k3⟩:=hAi;exact⟨vs',(k2.below hb).more hb.size,fun i hi=>by obtain⟨A1,c1,A2,c2,f0,f1,f2,f3,f4⟩:=k3 i hi;exact⟨A1,c1,A2,c2,f0,f1,f2,(f3.below hb).more hb.size,(f4.below hb).more hb.size⟩⟩) hsa (by omega) (by omega)
         have co:=fun(u:World) (hb:Below w.heap.size w u)=>autoOf_any u au[j] Ai ci (by obtain⟨vs',k2,k3⟩:=hAi;exact⟨vs',(k2.below hb).more hb.size,fun i hi=>by obtain⟨A1,c1,A2,c2,f0,f1,f2,f3,f4⟩:=k3 i hi;exact⟨A1,c1,A2,c2,f0,f1,f2,(f3.below hb).more hb.size,(f4.below hb).more hb.size⟩⟩) hsa
         rw[hnL]at c1 cm co
         have CM:=hid cm
         have CO:=hid co
         have HOA:=hid hokat
         have HDJ:=hid hdj
         have HNL:=hid hnL
         subst hDA hSA hAA
         have hjI:(j:Int)<(nA:Int):=by omega
         have haI:(a:Int)<(nS:Int):=by omega
         have haN:a<nS:=by omega
         have HJA:=hid hja
         have HAB:=hid hab
         clear g1 g2 g3 g4 g5 g6 hjd hae hal9 hdj hdc e0 e1 r0 r1 halt hra hAs hvj hAi hac hsa hgd hokat hnL cm co hdb hxb hat
         by_cases h32:32<nX
         ·have k32:decide ((32:Int)<(nX:Int))=true:=by rw[decide_eq_true_eq];omega
          have HF:Hid (NewP n au w (.returned (.tuple #[.pointer none,.int .i64 1])) wr):=hid (newP_bad (Drv.newB_bad (i:=j) HJA.out (by rw[HOA.out,show decide ((nX:Int)≤32)=false by rw[decide_eq_false_iff_not];omega];rfl)) HN.out.below)
          clear h32
          go_wp2_with fail
          go_ret2
          exact HF.out
         ·have k32:decide ((32:Int)<(nX:Int))=false:=by rw[decide_eq_false_iff_not];omega
          have HX32:=hid (show decide ((nX:Int)≤32)=true by rw[decide_eq_true_eq];omega)
          clear h32
          go_wp2_with fail
          refine(CM.out wr HN.out.below).mono ?_
          rintro e w4 ⟨rfl,hb4⟩
          dsimp only
          have HN4:=hid (HN.out.still (Only.of_below hb4))
          have hl0:=heap_lt HN.out.box
          have hlw:w.heap.size≤wr.heap.size:=HN.out.below.size
          have c1:=(hb4.cell (p:=⟨ab,ao+j,none⟩) (by have:=HAB.out;show ab<_;omega)).trans c1
          clear c0 c2 e2 hb4 CM HN
          generalize hbm:Drv.mayAuto au[j] nX 64=bm at HOA⊢
          cases bm with
          | false=>
           have HF:Hid (NewP n au w (.returned (.tuple #[.pointer none,.int .i64 1])) w4):=hid (newP_bad (Drv.newB_bad (i:=j) HJA.out (by rw[HOA.out,HX32.out];rfl)) HN4.out.below)
           clear hbm
           go_wp2_with fail
           go_ret2
           exact HF.out
          | true=>
           have HOK2:Hid (Drv.okTo n au (j+1)=true):=hid (by unfold Drv.okTo;rw[HOK.out,HOA.out,HX32.out];rfl)
           clear hbm
           have d6:w4.cell? ⟨D,6,none⟩=some (.slice (some ⟨PB,0,none⟩) nS nS):=by rw[Lib.cell_of_heap HN4.out.drv];unfold drvCells;rw[HSZ.out.1];rfl
           obtain⟨pv,hpv⟩:∃x,pl[a]? =some x:=⟨_,List.getElem?_eq_getElem (by rw[HN4.out.pll,HSZ.out.1];exact haN)⟩
           have k0:w4.cell? ⟨PB,a,none⟩=some (.int .i64 pv):=by rw[Lib.cell_of_heap HN4.out.plc,List.getElem?_toArray,List.getElem?_map,hpv];rfl
           have kz:w4.frozen? ⟨PB,a,none⟩=false:=Lib.frozen_of_heap HN4.out.plc a
           clear hpv
           obtain⟨VA,vc,rfl⟩:=row_form HN4.out.own
           have HN5:=hid (HN4.out.place HBM.out HDJ.out)
           obtain⟨i0,hi0,hz0,hsz0,hy0⟩:=info_of infoAuto
           go_upto_region 11 with fail
           have habP:¬ab=PB:=fun e=>by have:=HN5.out.geP;have:=HAB.out;omega
           have c15:=((Only.of_set w4 PB a (.int .i64 j)).cell (b:=ab) (o:=ao+j) (by have:=HAB.out;have:=HN4.out.below.size;omega) habP).trans c1
           clear d6 k0 kz c1 HN4 habP
           generalize w4.setCell ⟨PB,a,none⟩ (.int .i64 j)=w5 at HN5 c15⊢
           have v5:w5.cell? ⟨D,5,none⟩=some (.slice VA j vc):=by rw[Lib.cell_of_heap HN5.out.drv];rfl
           have hDl:=heap_lt HN5.out.drv
           have habl:ab<w5.heap.size:=by have:=HAB.out;have:=HN5.out.below.size;omega
           have ST:=hid (fun(u:World) (hb:Below w5.heap.size w5 u)=>(show u.cell? ⟨D,5,none⟩=some (.slice VA j vc)∧u.cell? ⟨ab,ao+j,none⟩=some (.slice Ai nL ci)from
            ⟨(hb.cell (p:=⟨D,5,none⟩) hDl).trans v5,(hb.cell (p:=⟨ab,ao+j,none⟩) habl).trans c15⟩))
           refine wp_region_late (l:=12) (S:=(fun w'=>w'.cell? ⟨D,5,none⟩=some (.slice VA j vc)∧w'.cell? ⟨ab,ao+j,none⟩=some (.slice Ai nL ci))) (by kernel_rfl) ⟨v5,c15⟩ (fun hHeld=>?_)
           have HLwd:Below w5.heap.size w5 w5.drew:=⟨rfl,rfl,rfl,Nat.le_refl _,fun _ _=>rfl⟩
           generalize w5.drew=wd at hHeld HLwd⊢
           clear v5 c15
           refine wpAnyF_take2 (i:=0) (.pointer (some ⟨D,0,none⟩)) (by kernel_rfl) rfl (by decide) (by kernel_rfl) (by kernel_rfl) (by kernel_rfl) (by kernel_rfl) (fun _ _ _ h=>h) hHeld (by rfl) (fun w' hSw=>?_) ?_
           ·obtain⟨v5,x0⟩:=hSw;go_simp
           try simp only[Act.put]
           refine wpAnyF_take2 (i:=1) (.pointer (some ⟨D,0,none⟩)) (by kernel_rfl) rfl (by decide) (by kernel_rfl) (by kernel_rfl) (by kernel_rfl) (by kernel_rfl) (fun _ _ _ h=>h) hHeld (by rfl) (fun w' hSw=>?_) ?_
           ·obtain⟨v5,x0⟩:=hSw;go_simp
           try simp only[Act.put]
           refine wpAnyF_take2 (i:=2) (.pointer (some ⟨D,0,none⟩)) (by kernel_rfl) rfl (by decide) (by kernel_rfl) (by kernel_rfl) (by kernel_rfl) (by kernel_rfl) (fun _ _ _ h=>h) hHeld (by rfl) (fun w' hSw=>?_) ?_
           ·obtain⟨v5,x0⟩:=hSw;go_simp
           try simp only[Act.put]
           refine wpAnyF_take2 (i:=3) (.pointer (some ⟨D,5,none⟩)) (by kernel_rfl) rfl (by decide) (by kernel_rfl) (by kernel_rfl) (by kernel_rfl) (by kernel_rfl) (fun _ _ _ h=>h) hHeld (by rfl) (fun w' hSw=>?_) ?_
           ·obtain⟨v5,x0⟩:=hSw;go_simp
           try simp only[Act.put]
           refine wpAnyF_take2 (i:=4) (.slice VA j vc) (by kernel_rfl) rfl (by decide) (by kernel_rfl) (by kernel_rfl) (by kernel_rfl) (by kernel_rfl) (fun _ _ _ h=>h) hHeld (by rfl) (fun w' hSw=>?_) ?_
           ·obtain⟨v5,x0⟩:=hSw;go_simp
           try simp only[Act.put]
           refine wpAnyF_take2 (i:=5) (.slice (some ⟨ab,ao,none⟩) nA ac) (by kernel_rfl) rfl (by decide) (by kernel_rfl) (by kernel_rfl) (by kernel_rfl) (by kernel_rfl) (fun _ _ _ h=>h) hHeld (by rfl) (fun w' hSw=>?_) ?_
           ·obtain⟨v5,x0⟩:=hSw;go_simp
           try simp only[Act.put]
           refine wpAnyF_take2 (i:=6) (.int .i64 j) (by kernel_rfl) rfl (by decide) (by kernel_rfl) (by kernel_rfl) (by kernel_rfl) (by kernel_rfl) (fun _ _ _ h=>h) hHeld (by rfl) (fun w' hSw=>?_) ?_
           ·obtain⟨v5,x0⟩:=hSw;go_simp
           try simp only[Act.put]
           refine wpAnyF_take2 (i:=7) (.pointer (some ⟨ab,ao+j,none⟩)) (by kernel_rfl) rfl (by decide) (by kernel_rfl) (by kernel_rfl) (by kernel_rfl) (by kernel_rfl) (fun _ _ _ h=>h) hHeld (by rfl) (fun w' hSw=>?_) ?_
           ·obtain⟨v5,x0⟩:=hSw;go_simp
           try simp only[Act.put]
           refine wpAnyF_take2 (i:=8) (.agg #[.slice Ai nL ci]) (by kernel_rfl) rfl (by decide) (by kernel_rfl) (by kernel_rfl) (by kernel_rfl) (by kernel_rfl) (fun _ _ _ h=>h) hHeld (by rfl) (fun w' hSw=>?_) ?_
           ·obtain⟨v5,x0⟩:=hSw;go_simp
           try simp only[Act.put]
           refine wpAnyF_step 9 (by kernel_rfl) rfl (fun K hK=>?_)
           go_simp
           go_at_call 29
           refine(CO.out wd (HN5.out.below.trans (HLwd.mono HN5.out.below.size))).mono ?_
           rintro e w6 ⟨A,c,rfl,hb6,hau6⟩
           rw[HNL.out]
           dsimp only
           have HL6:=HLwd.trans (hb6.mono HLwd.size)
           refine hK _ _ (ST.out w6 HL6) (fun hHeld=>?_)
           clear hK
           clear K
           refine wpAnyF_step 10 (by kernel_rfl) rfl (fun K hK=>?_)
           go_simp
           have hb7:Below w6.heap.size w6 (w6.alloc (.cells #[.slice A nL c] 50)):=below_new _ _
           refine hK _ _ (ST.out _ (HL6.trans (hb7.mono HL6.size))) (fun hHeld=>?_)
           clear hK hb7
           clear K
           have hN6:=HN5.out.still (Only.of_below HL6)
           have hO6:=hN6.own
           refine wpAnyF_step 11 (by kernel_rfl) rfl (fun K hK=>?_)
           refine step_push4 w6 rfl _ _ 26 rfl w.heap.size 50 i0 _ 1 24 Try.underlying26 hi0 hz0 hsz0 hy0 rfl (by omega) (.slice VA j vc) j vs rfl hO6 [.slice A nL c] 1 _ rfl rfl rfl (by simp[Value.oneCell']) Nat.zero_lt_one (by simp only[maxLen];omega) (by omega) hN6.below.size ?_
           intro gn cn wn hownN hgN hoN
           obtain⟨a1,a2,a3,a4⟩:=hN6.neA
           have s1:=HN5.out.below.size
           have s2:=HLwd.size
           have s3:=hb6.size
           have hS6:=ST.out w6 HL6
           have hSn:wn.cell? ⟨D,5,none⟩=some (.slice VA j vc)∧wn.cell? ⟨ab,ao+j,none⟩=some (.slice Ai nL ci):=
            ⟨(hoN.cell (b:=D) (o:=5) (by omega) a1).trans hS6.1,(hoN.cell (b:=ab) (o:=ao+j) (by omega) fun e=>by have:=(World.ownsRow.lt hO6 ab e).1;have:=HAB.out;omega).trans hS6.2⟩
           refine hK _ _ hSn (fun hHeld=>?_)
           clear hK
           clear K
           try simp only[Act.put]
           have hPl:=heap_lt HN5.out.plc
           have hFIN:=hN6.push (A:=A) (c:=c) (lo:=wd.heap.size) (hi:=w6.heap.size) hja (by rw[HNL.out];exact hownN) hgN hoN (by omega) (by omega) (fun b e=>by have:=(World.ownsRow.lt HN5.out.own b e).2;omega) (by omega) (Nat.le_refl _) (fun x h1 h2=>hau6 x ⟨h1,fun b hb hk=>h2 b hb hk⟩)
           have hDn:=(hoN.block D (by omega) a1).trans hN6.drv
           have z5:=Lib.frozen_of_heap hDn 5
           have d5:=hSn.1
           have HFIN:=hid hFIN
           clear hFIN hDn hSn hS6 a1 a2 a3 a4 hownN hgN hoN hO6 hN6 hau6 hb6 hHeld
           refine wpAnyF_turn 12 (by kernel_rfl) rfl (by decide) (by decide) (fun K hK=>?_)
           go_simp
           refine hK _ _ ?_
           clear hK
           clear K
           try simp only[Act.put]
           refine wpAny_take (i:=13) (v:=.pointer (some ⟨D,5,none⟩)) rfl (by kernel_rfl) (by kernel_rfl) (by kernel_rfl) (fun _ _ _ h=>h) (Or.inl ⟨by rfl,fun w=>(by go_simp)⟩) ?_
           try simp only[Act.put]
           refine wpAny_ready (rs:=[14]) (by kernel_rfl) (by simp) (AllReady.cons rfl (fun K hK=>?_) AllReady.nil)
           go_simp
           refine hK _ _ (wpAny_done (by kernel_rfl) ?_ _)
           clear hK
           clear K z5 d5
           generalize wn.setCell ⟨D,5,none⟩ (.slice (some ⟨gn,0,none⟩) (j+1) cn)=wF at HFIN⊢
           go_wp2_with fail
           go_roundw
           case rel=>exact⟨j+1,by omega,by go_num,hid ⟨HOK2.out,_,_,_,HFIN.out⟩⟩
           case measure=>simp[intOf];omega
        ·have hjA:j=nA:=by omega
         subst hjA
         obtain⟨g1,g2,g3,g4,g5,g6⟩:=HSZ.out
         obtain⟨VA,vc,rfl⟩:=row_form HN.out.own
         have HNB2:Hid (Drv.newB n au=true):=hid (by rw[HNB.out,HPOK.out,HOK.out];rfl)
         have t0:=HN.out.drv
         unfold drvCells at t0
         rw[g1,g2,g3,g4,g5]at t0
         have c0:wr.cell? ⟨D,0,none⟩=some (.slice S nS sc'):=by rw[Lib.cell_of_heap t0];rfl
         have c1:wr.cell? ⟨D,1,none⟩=some (.slice T nT tc'):=by rw[Lib.cell_of_heap t0];rfl
         have c2:wr.cell? ⟨D,2,none⟩=some (.slice U nU uc'):=by rw[Lib.cell_of_heap t0];rfl
         have c3:wr.cell? ⟨D,3,none⟩=some (.slice Q nQ qc'):=by rw[Lib.cell_of_heap t0];rfl
         have c4:wr.cell? ⟨D,4,none⟩=some (.slice E j ec'):=by rw[Lib.cell_of_heap t0];rfl
         have cw:=wide_any wr n S T U Q E sc' tc' uc' qc' ec' (HN.out.net wr ⟨Nat.le_refl _,fun _ _ _ _=>rfl⟩) HS.out HBM.out
         unfold netAgg at cw
         rw[g1,g2,g3,g4,g5]at cw
         have CW:=hid cw
         have HN2:Hid (NewI w #[.slice SA nS sc,.slice TA nT tc,.slice UA nU uc,.slice QA nQ qc,.slice DA j dc] n au D PB S T U Q E sc' tc' uc' qc' ec' (.slice VA au.length vc) vs pl n.decs.length au.length wr):=hid (by rw[g5,g6];exact HN.out)
         clear g1 g2 g3 g4 g5 t0 cw
         go_wp2_with fail
         refine CW.out.mono ?_
         rintro e w7 ⟨k9,hk9,rfl,hb7⟩
         dsimp only
         have ho7:=Only.of_below (S:=fun _=>False) hb7
         have HN7:=hid (HN2.out.still ho7)
         have t7:=HN7.out.drv
         have d7:w7.cell? ⟨D,7,none⟩=some (.int .i64 0):=by rw[Lib.cell_of_heap t7];rfl
         have z7:=Lib.frozen_of_heap t7 7
         have t8:=heap_setCell_same w7 D 7 _ _ (.int .i64 (Drv.wideR n k9.rul)) t7
         have HO8:=hid (Only.of_set w7 D 7 (.int .i64 (Drv.wideR n k9.rul)))
         have HT8:=hid t8
         have HK9:=hid hk9
         clear t7 t8 hk9 hb7 ho7 CW HN2 HN c0 c1 c2 c3 c4
         have HE:Hid (NewP n au w (.returned (.tuple #[.pointer (some ⟨D,0,none⟩),.int .i64 0])) (w7.setCell ⟨D,7,none⟩ (.int .i64 (Drv.wideR n k9.rul)))):=hid ⟨HO8.out.below (fun b e=>by rw[e];exact Nat.le_of_lt HN7.out.geD) HN7.out.below HN7.out.below.size,.inr ⟨HNB2.out,D,k9,rfl,Nat.le_of_lt HN7.out.geD,HK9.out,fun x hx=>HN7.out.done HBM.out HO8.out HT8.out hx⟩⟩
         go_wp2_with fail
         go_ret2
         exact HE.out
    ·have g3:((nA:Int) !=(nD:Int))=true:=by rw[bne_iff_ne];omega
     have HF:=hid (BAD.out (by rw[HPRE.out,show(nA==nD)=false by rw[beq_eq_false_iff_ne];exact h3];simp))
     clear h1 h2 h3
     go_wp2_with fail
     go_ret2
     exact HF.out
end Go.Proofs.Ytgflanlniejflaa
