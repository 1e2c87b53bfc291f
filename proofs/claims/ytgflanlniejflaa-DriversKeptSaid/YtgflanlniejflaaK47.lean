/-
  Drivers: Rnw, Ots (texts joined).
-/
import Derived.Test.YtgflanlniejflaaK25
import Derived.Test.YtgflanlniejflaaK39
import Derived.Test.YtgflanlniejflaaK40
import Derived.Test.YtgflanlniejflaaK41
import Derived.Test.YtgflanlniejflaaK44
import Derived.Test.YtgflanlniejflaaK46
namespace Go.Proofs.Ytgflanlniejflaa
open Go.RowKit Go.Maps
set_option maxRecDepth 100000
def AusRf (w:World) (B:Nat) (A:Option Addr) (au:List (List Drv.LSt)):Prop:=∃vs,Reads w B 1 A au.length vs∧∀i (h:i<au.length),∃Ai ci,vs[i]? =some (.slice Ai au[i].length ci)∧AutRf w B Ai au[i]
theorem AusRf.below {w w':World}{B:Nat}{A:Option Addr}{au:List (List Drv.LSt)}(h:AusRf w B A au) (hb:Below B w w'):AusRf w' B A au:=by
 obtain⟨vs,h1,h2⟩:=h
 refine⟨vs,h1.below hb,fun i hi=>?_⟩
 obtain⟨Ai,ci,e1,e2⟩:=h2 i hi
 exact⟨Ai,ci,e1,e2.below hb⟩
theorem AusRf.more {w:World}{B B':Nat}{A:Option Addr}{au:List (List Drv.LSt)}(h:AusRf w B A au) (hB:B≤B'):AusRf w B' A au:=by
 obtain⟨vs,h1,h2⟩:=h
 refine⟨vs,h1.more hB,fun i hi=>?_⟩
 obtain⟨Ai,ci,e1,e2⟩:=h2 i hi
 exact⟨Ai,ci,e1,e2.more hB⟩
theorem NetRf.more {w:World}{B B':Nat}{SA TA UA QA DA:Option Addr}{n:Drv.NNet}(h:NetRf w B SA TA UA QA DA n) (hB:B≤B'):NetRf w B' SA TA UA QA DA n:=⟨h.sts.more hB,h.starts.more hB,h.stops.more hB,h.preds.more hB,h.decs.more hB⟩
def RNewP (n:Drv.NNet) (au:List (List Drv.LSt)) (w:World) (e:Ending) (w':World):Prop:=
 Below w.heap.size w w'∧((Drv.newB n au=false∧e= .returned (.tuple #[.pointer none,.int .i64 1]))∨
  (Drv.newB n au=true∧∃D,e= .returned (.tuple #[.pointer (some ⟨D,0,none⟩),.int .i64 0])∧RDrv w' D w'.heap.size n au))
theorem rnewP_bad {n:Drv.NNet}{au:List (List Drv.LSt)}{w w':World}(h:Drv.newB n au=false) (hb:Below w.heap.size w w'):RNewP n au w (.returned (.tuple #[.pointer none,.int .i64 1])) w':=⟨hb,.inl ⟨h,rfl⟩⟩
theorem newB_pre {n:Drv.NNet}{au:List (List Drv.LSt)}(h:Drv.preNew n au.length=false):Drv.newB n au=false:=by
 unfold Drv.newB;rw[h];rfl
theorem rdrv_new {n:Drv.NNet}{au:List (List Drv.LSt)}{w w':World}{SA TA UA QA DA AA:Option Addr}{sc tc uc qc dc ac:Nat}(h:NetRf w w.heap.size SA TA UA QA DA n) (ha:AusRf w w.heap.size AA au)
 (hw:w'=w.alloc (.cells #[.slice SA n.states.length sc,.slice TA n.starts.length tc,.slice UA n.stops.length uc,.slice QA n.preds.length qc,.slice DA n.decs.length dc,.slice AA au.length ac] 91)):RDrv w' w.heap.size w'.heap.size n au:=by
 have hb:Below w.heap.size w w':=by rw[hw];exact below_new _ _
 have T:w'.heap[w.heap.size]? =some (.cells #[.slice SA n.states.length sc,.slice TA n.starts.length tc,.slice UA n.stops.length uc,.slice QA n.preds.length qc,.slice DA n.decs.length dc,.slice AA au.length ac] 91 (0,0)):=by rw[hw];exact heap_alloc_new _ _
 have h1:=(h.below hb).more hb.size
 obtain⟨vs,g1,g2⟩:=(ha.below hb).more hb.size
 exact⟨heap_lt T,⟨SA,sc,by rw[Lib.cell_of_heap T];rfl,h1.sts⟩,⟨TA,tc,by rw[Lib.cell_of_heap T];rfl,h1.starts⟩,⟨UA,uc,by rw[Lib.cell_of_heap T];rfl,h1.stops⟩,⟨QA,qc,by rw[Lib.cell_of_heap T];rfl,h1.preds⟩,⟨DA,dc,by rw[Lib.cell_of_heap T];rfl,h1.decs⟩,⟨AA,ac,vs,by rw[Lib.cell_of_heap T];rfl,g1,g2⟩⟩
set_option maxHeartbeats 12800000 in
theorem rnew_any (w:World) (n:Drv.NNet) (SA TA UA QA DA AA:Option Addr) (sc tc uc qc dc ac:Nat) (au:List (List Drv.LSt)) (h:NetRf w w.heap.size SA TA UA QA DA n) (hs:NetS n) (ha:AusRf w w.heap.size AA au) (hal:au.length≤1000000) (hau:∀a∈au,AutS a):
 Calls Try.prog 8 #[netAgg SA TA UA QA DA sc tc uc qc dc n,.slice AA au.length ac] w (RNewP n au w):=by
 obtain⟨nS,hnS⟩:∃m,n.states.length=m:=⟨_,rfl⟩
 obtain⟨nT,hnT⟩:∃m,n.starts.length=m:=⟨_,rfl⟩
 obtain⟨nU,hnU⟩:∃m,n.stops.length=m:=⟨_,rfl⟩
 obtain⟨nQ,hnQ⟩:∃m,n.preds.length=m:=⟨_,rfl⟩
 obtain⟨nD,hnD⟩:∃m,n.decs.length=m:=⟨_,rfl⟩
 obtain⟨nL,hnL⟩:∃m,au.length=m:=⟨_,rfl⟩
 have hQ6:nQ≤1000000:=by rw[←hnQ];exact hs.preds
 have hD6:nD≤1000000:=by rw[←hnD];exact hs.decs
 obtain⟨w1,hw1⟩:∃x,x=w.alloc (.cells (netCells SA TA UA QA DA nS nT nU nQ nD sc tc uc qc dc) 37):=⟨_,rfl⟩
 have b1:Below w.heap.size w w1:=by rw[hw1];exact below_new _ _
 have T1:w1.heap[w.heap.size]? =some (.cells (netCells SA TA UA QA DA nS nT nU nQ nD sc tc uc qc dc) 37 (0,0)):=by rw[hw1];exact heap_alloc_new _ _
 have HM:=hid (rnetMay_any w1 n SA TA UA QA DA sc tc uc qc dc ((h.below b1).more b1.size) hs)
 have hl1:=heap_lt T1
 have CN:=hid (fun(w':World) (hb:Below w1.heap.size w1 w')=>(show w'.cell? ⟨w.heap.size,0,none⟩=some (.slice SA nS sc)∧w'.cell? ⟨w.heap.size,1,none⟩=some (.slice TA nT tc)∧w'.cell? ⟨w.heap.size,2,none⟩=some (.slice UA nU uc)∧w'.cell? ⟨w.heap.size,3,none⟩=some (.slice QA nQ qc)∧w'.cell? ⟨w.heap.size,4,none⟩=some (.slice DA nD dc)from by
  have T:=(hb.block _ hl1).trans T1
  refine⟨?_,?_,?_,?_,?_⟩ <;> (rw[Lib.cell_of_heap T];rfl)))
 unfold netAgg at HM⊢
 rw[hnS,hnT,hnU,hnQ,hnD]at HM⊢
 rw[hnL]
 have HW1:=hid hw1.symm
 have HB1:=hid b1
 have H:=hid h
 have HA:=hid ha
 have HAU:=hid hau
 have HS:=hid hs
 have HNS:=hid hnS
 have HNT:=hid hnT
 have HNU:=hid hnU
 have HNQ:=hid hnQ
 have HND:=hid hnD
 have HNL:=hid hnL
 clear h hs ha hau hw1 b1 T1 hnS hnT hnU hnQ hnD hnL
 obtain⟨cn0,cn1,cn2,cn3,cn4⟩:=CN.out w1 (Below.refl _ _)
 unfold netCells at HW1
 go_enter Try.func8,Try.ntmps8
 go_upto_region 1 with fail
 rw[HW1.out]
 clear HW1
 go_wp2_with fail
 refine HM.out.mono ?_
 rintro e w2 ⟨rfl,hb2⟩
 have HB12:=hid hb2
 have HB2:=hid (HB1.out.trans (hb2.mono HB1.out.size))
 clear hb2 cn0 cn1 cn2 cn3 cn4
 obtain⟨cn0,cn1,cn2,cn3,cn4⟩:=CN.out w2 HB12.out
 have ew:IntKind.i64.wrap ((nD:Int)+(nQ:Int))=(nD:Int)+nQ:=w64 (by omega) (by omega)
 cases hmb:Drv.mayNet n with
 | false=>
  have HF:=hid (rnewP_bad (n:=n) (au:=au) (newB_pre (show Drv.preNew n au.length=false by unfold Drv.preNew;rw[hmb];rfl)) HB2.out)
  clear hmb HM
  dsimp only
  go_wp2_with fail
  go_ret2
  exact HF.out
 | true=>
  dsimp only
  clear HM
  have HMB:=hid hmb
  clear hmb
  by_cases q1:nT=0
  ·have d1:(nT==0)=true:=by rw[beq_iff_eq];exact q1
   have d1i:((nT:Int)==0)=true:=by rw[beq_iff_eq];omega
   have HF:=hid (rnewP_bad (n:=n) (au:=au) (newB_pre (Bool.eq_false_iff.2 fun g=>by have h1:n.starts.length=nT:=HNT.out;have h2:=HND.out;have h3:=HNQ.out;have h4:=HNL.out;unfold Drv.preNew at g;simp only[Bool.and_eq_true,decide_eq_true_eq,beq_iff_eq]at g;omega)) HB2.out)
   clear q1
   go_wp2_with fail
   go_ret2
   exact HF.out
  ·have d1:(nT==0)=false:=by rw[beq_eq_false_iff_ne];exact q1
   have d1i:((nT:Int)==0)=false:=by rw[beq_eq_false_iff_ne];omega
   by_cases q2:64<nT
   ·have d2:decide (64<nT)=true:=by rw[decide_eq_true_eq];exact q2
    have d2i:decide ((64:Int)<(nT:Int))=true:=by rw[decide_eq_true_eq];omega
    have HF:=hid (rnewP_bad (n:=n) (au:=au) (newB_pre (Bool.eq_false_iff.2 fun g=>by have h1:n.starts.length=nT:=HNT.out;have h2:=HND.out;have h3:=HNQ.out;have h4:=HNL.out;unfold Drv.preNew at g;simp only[Bool.and_eq_true,decide_eq_true_eq,beq_iff_eq]at g;omega)) HB2.out)
    clear q1 q2
    go_wp2_with fail
    go_ret2
    exact HF.out
   ·have d2:decide (64<nT)=false:=by rw[decide_eq_false_iff_not];exact q2
    have d2i:decide ((64:Int)<(nT:Int))=false:=by rw[decide_eq_false_iff_not];omega
    by_cases q3:nD=nL
    ·subst q3
     by_cases q4:65536<nD+nQ
     ·have d4i:decide ((65536:Int)<(nD:Int)+nQ)=true:=by rw[decide_eq_true_eq];omega
      have HF:=hid (rnewP_bad (n:=n) (au:=au) (newB_pre (Bool.eq_false_iff.2 fun g=>by have h1:n.starts.length=nT:=HNT.out;have h2:=HND.out;have h3:=HNQ.out;have h4:=HNL.out;unfold Drv.preNew at g;simp only[Bool.and_eq_true,decide_eq_true_eq,beq_iff_eq]at g;omega)) HB2.out)
      clear q1 q2 q4
      go_wp2_with fail
      go_ret2
      exact HF.out
     ·have d4i:decide ((65536:Int)<(nD:Int)+nQ)=false:=by rw[decide_eq_false_iff_not];omega
      have HP:Hid (Drv.preNew n au.length=true):=hid (by
       have h1:=HNT.out
       have h2:=HND.out
       have h3:=HNQ.out
       have h4:=HNL.out
       unfold Drv.preNew
       simp only[Bool.and_eq_true,decide_eq_true_eq,beq_iff_eq]
       exact⟨⟨⟨⟨HMB.out,by omega⟩,by omega⟩,by omega⟩,by omega⟩)
      clear q1 q2 q4
      go_wp2_with fail
      go_loopw[6] (fun i wr=>∃k:Nat,k≤nD∧i= .int .i64 k∧Hid (Below w1.heap.size w1 wr∧Drv.okTo n au k=true)) (fun i _=>nD-(intOf i).toNat)
      case atStart=>exact⟨0,Nat.zero_le _,rfl,hid ⟨HB12.out,rfl⟩⟩
      case round=>
       obtain⟨k,hk,rfl,HK⟩:=hrel
       clear cn0 cn1 cn2 cn3 cn4 d1 d1i d2 d2i d4i ew
       obtain⟨cn0,cn1,cn2,cn3,cn4⟩:=CN.out wr HK.out.1
       have HBW:=hid (HB1.out.trans (HK.out.1.mono HB1.out.size))
       by_cases hlt:k<nD
       ·have hkI:(k:Int)<(nD:Int):=by omega
        have hkd:k<n.decs.length:=by rw[HND.out];exact hlt
        have hka:k<au.length:=by rw[HNL.out];exact hlt
        obtain⟨db,do',rfl,hdb,cd⟩:=(H.out.decs.below HBW.out).2 (by omega)
        have y0:=cd k _ (by rw[List.getElem?_map,List.getElem?_eq_getElem hkd];rfl)
        obtain⟨vs,⟨_,ga⟩,gb⟩:=HA.out.below HBW.out
        obtain⟨ab,ao,rfl,hab,ca⟩:=ga (by omega)
        obtain⟨Ai,ci,e1,e2⟩:=gb k hka
        have y1:=ca k _ e1
        have hdm:n.decs[k]∈Drv.decsOf n.states:=by rw[((Drv.mayNet_iff n).1 HMB.out).2.2.2.2.2];exact List.getElem_mem hkd
        obtain⟨hd0,hd1,_⟩:=Drv.decsOf_mem.1 hdm
        have halt:Drv.altsOf n k=(n.states[n.decs[k].toNat].ends.length:Int):=by
         unfold Drv.altsOf Drv.at0
         rw[Int.toNat_natCast,List.getD_eq_getElem?_getD (l:=n.decs),List.getElem?_eq_getElem hkd]
         show((n.states.getD n.decs[k].toNat ⟨0,[],[]⟩).ends.length:Int)=_
         rw[List.getD_eq_getElem?_getD,List.getElem?_eq_getElem hd1];rfl
        obtain⟨dn,hdn⟩:∃dn:Nat,n.decs[k]=dn:=⟨n.decs[k].toNat,by omega⟩
        obtain⟨zb,zo,EA,ec,XA,xc,rfl,hzb,_,_,z2,_,_⟩:=(H.out.sts.below HBW.out).at hd1
        rw[hdn]at y0
        have hdt:n.decs[k].toNat=dn:=by rw[hdn];rfl
        simp only[hdt]at z2 halt hd1
        have hdS:dn<nS:=by rw[←HNS.out];exact hd1
        have hdI:(dn:Int)<(nS:Int):=by omega
        obtain⟨xn,hxn⟩:∃m,n.states[dn].ends.length=m:=⟨_,rfl⟩
        rw[hxn]at z2 halt
        have CM:=hid (fun(u:World) (hu:Below wr.heap.size wr u)=>rautMay_any u au[k] Ai ci (xn:Int) 64 ((e2.below (hu.mono HBW.out.size)).more (by have:=HBW.out.size;have:=hu.size;omega)) (HAU.out _ (List.getElem_mem hka)))
        have HOK:Hid (Drv.okAt n au k=(decide ((xn:Int)≤32) && Drv.mayAuto au[k] xn 64)):=hid (by
         unfold Drv.okAt
         rw[halt,show au.getD k []=au[k] by rw[List.getD_eq_getElem?_getD,List.getElem?_eq_getElem hka];rfl])
        have HBAD:=hid (fun(h:Drv.okAt n au k=false)=>Drv.newB_bad hka h)
        have HNXT:=hid (fun(h:Drv.okAt n au k=true)=>(show Drv.okTo n au (k+1)=true by unfold Drv.okTo;rw[HK.out.2,h];rfl))
        obtain⟨ak,hak⟩:∃x,au[k]=x:=⟨_,rfl⟩
        rw[hak]at y1 CM HOK
        have HKB:=hid HK.out.1
        clear e1 e2 gb ca cd hak halt hxn hdt hdn hd0 hdm hd1 HK
        go_upto_region 6 with fail
        go_quiet (fail)
        have ho9:=(Only.refl (fun _=>False) wr).none_drew nq
        have HBR:=hid (ho9.below' (B:=wr.heap.size) (fun _ e=>e.elim) (Nat.le_refl _))
        have y1:=(ho9.cell (o:=ao+k) (show ab<wr.heap.size by have:=HBW.out.size;omega) id).trans y1
        have HBW9:=hid (HBW.out.trans (HBR.out.mono HBW.out.size))
        have HB19:=hid (HKB.out.trans (HBR.out.mono HKB.out.size))
        have HCM:=hid (CM.out _ HBR.out)
        clear y0 z2 cn0 cn1 cn2 cn3 cn4 ho9 HBR CM
        generalize wr.drewN nq=w9 at y1 HBW9 HB19 HCM⊢
        by_cases qx:32<xn
        ·have dx:decide (32<xn)=true:=by rw[decide_eq_true_eq];exact qx
         have dxi:decide ((32:Int)<(xn:Int))=true:=by rw[decide_eq_true_eq];omega
         have HF:=hid (rnewP_bad (n:=n) (au:=au) (HBAD.out (by rw[HOK.out,show decide ((xn:Int)≤32)=false by rw[decide_eq_false_iff_not];omega];rfl)) HBW9.out)
         clear qx HCM
         go_wp2_with fail
         go_ret2
         exact HF.out
        ·have dx:decide (32<xn)=false:=by rw[decide_eq_false_iff_not];exact qx
         have dxi:decide ((32:Int)<(xn:Int))=false:=by rw[decide_eq_false_iff_not];omega
         have hx2:decide ((xn:Int)≤32)=true:=by rw[decide_eq_true_eq];omega
         have HX2:=hid hx2
         clear qx hx2
         go_wp2_with fail
         refine HCM.out.mono ?_
         rintro e w10 ⟨rfl,hb10⟩
         have HB10:=hid (HBW9.out.trans (hb10.mono HBW9.out.size))
         have HB110:=hid (HB19.out.trans (hb10.mono HB19.out.size))
         clear hb10 HCM
         cases hmx:Drv.mayAuto ak xn 64 with
         | false=>
          have HF:=hid (rnewP_bad (n:=n) (au:=au) (HBAD.out (by rw[HOK.out,hmx,HX2.out];rfl)) HB10.out)
          clear hmx
          dsimp only
          go_wp2_with fail
          go_ret2
          exact HF.out
         | true=>
          have HN:=hid (HNXT.out (by rw[HOK.out,hmx,HX2.out];rfl))
          clear hmx
          dsimp only
          go_wp2_with fail
          go_roundw
          case rel=>exact⟨k+1,by omega,by go_num,hid ⟨HB110.out,HN.out⟩⟩
          case measure=>simp[intOf];omega
       ·have hkD:nD=k:=by omega
        subst hkD
        have hkI:¬(nD:Int)<(nD:Int):=by omega
        have HNB:Hid (Drv.newB n au=true):=hid (by unfold Drv.newB;rw[HP.out,HNL.out,HK.out.2];rfl)
        obtain⟨w9,hw9⟩:∃x,x=wr.alloc (.cells #[.slice SA nS sc,.slice TA nT tc,.slice UA nU uc,.slice QA nQ qc,.slice DA nD dc,.slice AA nD ac] 91):=⟨_,rfl⟩
        have hD9:=rdrv_new (w:=wr) (w':=w9) (sc:=sc) (tc:=tc) (uc:=uc) (qc:=qc) (dc:=dc) (ac:=ac) ((H.out.below HBW.out).more HBW.out.size) ((HA.out.below HBW.out).more HBW.out.size) (by rw[HNS.out,HNT.out,HNU.out,HNQ.out,HND.out,HNL.out];exact hw9)
        have HB9:Hid (Below w.heap.size w w9):=hid (by rw[hw9];exact HBW.out.alloc HBW.out.size _)
        have HFIN:Hid (RNewP n au w (.returned (.tuple #[.pointer (some ⟨wr.heap.size,0,none⟩),.int .i64 0])) w9):=hid ⟨HB9.out,.inr ⟨HNB.out,_,rfl,hD9⟩⟩
        have HW9:=hid hw9.symm
        clear hD9 hw9 HK
        go_wp2_with fail
        rw[HW9.out]
        go_ret2
        exact HFIN.out
    ·have d3:(nD !=nL)=true:=by rw[bne_iff_ne];exact q3
     have d3i:((nD:Int) !=(nL:Int))=true:=by rw[bne_iff_ne];omega
     have HF:=hid (rnewP_bad (n:=n) (au:=au) (newB_pre (Bool.eq_false_iff.2 fun g=>by have h1:n.starts.length=nT:=HNT.out;have h2:=HND.out;have h3:=HNQ.out;have h4:=HNL.out;unfold Drv.preNew at g;simp only[Bool.and_eq_true,decide_eq_true_eq,beq_iff_eq]at g;omega)) HB2.out)
     clear q1 q2 q3
     go_wp2_with fail
     go_ret2
     exact HF.out
end Go.Proofs.Ytgflanlniejflaa
namespace Go.Proofs.Ytgflanlniejflaa
open Go.RowKit Go.Maps
set_option maxRecDepth 100000
def OsP (w:World) (au:List (List Drv.LSt)) (e:Ending) (w':World):Prop:=
 ∃A c,e= .returned (.slice A au.length c)∧Below w.heap.size w w'∧AusRf w' w'.heap.size A au
def OsI (w:World) (au:List (List Drv.LSt)) (k:Nat) (o:Value) (wr:World):Prop:=
 Below w.heap.size w wr∧∃vs,wr.ownsRow w.heap.size 89 1 o k vs∧∀i (h:i<au.length),i<k→∃Ai ci,vs[i]? =some (.slice Ai au[i].length ci)∧AutRO wr (fun j=>j<w.heap.size∨o.ownBlock=some j) Ai au[i]
theorem infoRA1:(Try.prog.info? 89).map (fun i=>(i.zero,i.size,i.bytes))=some (some (.agg #[.slice none 0 0]),1,24):=by kernel_rfl
theorem os_push {w wr w6 wn:World}{au:List (List Drv.LSt)}{k gn cn nL c:Nat}{o:Value}{A:Option Addr}{vs:List Value}(hb:Below w.heap.size w wr) (hown:wr.ownsRow w.heap.size 89 1 o k vs)
 (hst:∀i (h:i<au.length),i<k→∃Ai ci,vs[i]? =some (.slice Ai au[i].length ci)∧AutRO wr (fun j=>j<w.heap.size∨o.ownBlock=some j) Ai au[i]) (hb6:Below wr.heap.size wr w6) (hk:k<au.length) (hL:au[k].length=nL)
 (ha:AutRO w6 (fun j=>j<wr.heap.size) A au[k]) (hn:wn.ownsRow w.heap.size 89 1 (.slice (some ⟨gn,0,none⟩) (k+1) cn) (k+1) (vs++ [.slice A nL c]))
 (hg:o.ownBlock=some gn∨w6.heap.size<gn) (ho:Only (fun j=>o.ownBlock=some j) w6 wn):OsI w au (k+1) (.slice (some ⟨gn,0,none⟩) (k+1) cn) wn:=by
 have s1:=hb.size
 have s2:=hb6.size
 have hlt:∀j,o.ownBlock=some j→w.heap.size≤j∧j<wr.heap.size:=fun j e=>World.ownsRow.lt hown j e
 have hO:Only (fun j=>j<w.heap.size∨o.ownBlock=some j) w6 wn:=ho.more fun _ _ e=>.inr e
 have hS:∀b,b<w6.heap.size→(b<w.heap.size∨(Value.slice (some ⟨gn,0,none⟩) (k+1) cn).ownBlock=some b)→(b<w.heap.size∨o.ownBlock=some b):=fun b hb e=>by
  rcases e with e | e
  ·exact .inl e
  ·have e:some gn=some b:=e
   injection e with e
   subst e
   rcases hg with h | h
   ·exact .inr h
   ·omega
 refine⟨(hb.trans (hb6.mono s1)).trans (ho.below' (fun j e=>(hlt j e).1) (by omega)),_,hn,fun i hi hik=>?_⟩
 have hvl:vs.length=k:=by have:=hown.1;omega
 rcases Nat.lt_succ_iff_lt_or_eq.1 hik with h1 | rfl
 ·obtain⟨Ai,ci,e1,e2⟩:=hst i hi h1
  refine⟨Ai,ci,by rw[List.getElem?_append_left (by omega)];exact e1,?_⟩
  exact(e2.only (S':=fun j=>j<w.heap.size∨o.ownBlock=some j) (Only.of_below hb6) (fun _ _ e=>e)).only hO hS
 ·refine⟨A,c,by rw[List.getElem?_append_right (by omega),hvl,hL];simp,?_⟩
  refine(ha.only (S':=fun j=>j<w.heap.size∨o.ownBlock=some j) (Only.refl _ _) (fun b _ e=>?_)).only hO hS
  rcases e with e | e
  ·omega
  ·exact(hlt b e).2
set_option maxHeartbeats 6400000 in
theorem others_any (w:World) (au:List (List Drv.LSt)) (AA:Option Addr) (ac:Nat) (ha:AusR w w.heap.size AA au) (hal:au.length≤1000000) (hau:∀a∈au,AutS a) (hkd:∀a∈au,∀s∈a,0≤s.kind∧s.kind≤255):
 Calls Try.prog 10 #[.slice AA au.length ac] w (OsP w au):=by
 obtain⟨n,hn⟩:∃n,au.length=n:=⟨_,rfl⟩
 have HA:=hid ha
 have HAU:=hid hau
 have HKD:=hid hkd
 rw[hn]at hal⊢
 have HN:=hid hn
 have HI0:Hid (OsI w au 0 (.slice none 0 0) w):=hid ⟨Below.refl _ _,[],World.ownsRow_nil _ _ _ _,fun _ _ h=>absurd h (Nat.not_lt_zero _)⟩
 clear ha hau hkd hn
 go_enter Try.func10,Try.ntmps10
 go_wp2_with fail
 go_loopw[3,4] (fun o i wr=>∃k:Nat,k≤n∧i= .int .i64 k∧Hid (OsI w au k o wr)) (fun _ i _=>n-(intOf i).toNat)
 case atStart=>exact⟨0,by omega,by simp,HI0⟩
 case round=>
  rename Value=>o
  clear HI0
  obtain⟨k,hk,rfl,hH⟩:=hrel
  obtain⟨hB,vs,hown,hst⟩:=hH.out
  have sB:=hB.size
  by_cases hlt:k<n
  ·have hkl:k<au.length:=by rw[HN.out];exact hlt
   obtain⟨avs,hra,hga⟩:=HA.out.up hB sB
   obtain⟨Ai,ci,ga,hau1⟩:=hga k hkl
   obtain⟨b,off,rfl,hbl,hc⟩:=hra.2 (by omega)
   have e0:=hc _ _ ga
   obtain⟨nL,hnL⟩:∃m,au[k].length=m:=⟨_,rfl⟩
   have hcall:=autOther_any wr au[k] Ai ci hau1 (HAU.out _ (List.getElem_mem hkl)) (HKD.out _ (List.getElem_mem hkl))
   rw[hnL]at e0 hcall
   have HCALL:=hid hcall
   have HB:=hid hB
   have HOWN:=hid hown
   have HST:=hid hst
   have HNL:=hid hnL
   obtain⟨VA,vc,rfl⟩:=row_form hown
   obtain⟨ie,hie,hze,hse,hye⟩:=info_of infoRA1
   clear hra hga hau1 hc ga hcall hB hown hst hnL hH
   go_upto_region 5 with fail
   go_wp2_with fail
   refine HCALL.out.mono ?_
   rintro e w6 ⟨A,c,rfl,hb6,hro6⟩
   rw[HNL.out]
   dsimp only
   have HB6:=hid hb6
   have HRO:=hid hro6
   have hown6:=ownsRow_only HOWN.out (Only.of_below (S:=fun _=>False) hb6) (fun _ _ e=>e)
   have s6:=hb6.size
   clear hb6 hro6 e0 HCALL
   go_wp2_with (at_builtin;go_must (refine wpList_push4 w6 rfl _ _ 39 rfl w.heap.size 89 ie _ 1 24 Try.underlying39 hie hze hse hye rfl (by omega) (.slice VA k vc) k vs rfl hown6 [.slice A nL c] 1 _ rfl rfl rfl (by simp[Value.oneCell']) Nat.zero_lt_one (by simp only[maxLen];omega) (by omega) (by omega) ?_);intro g9 c9 w9 hown9 hg9 ho9)
   have HFIN:=hid (os_push HB.out HOWN.out HST.out HB6.out hkl HNL.out HRO.out hown9 hg9 ho9)
   go_roundw
   case rel=>exact⟨k+1,by omega,by go_num,HFIN⟩
   case measure=>simp[intOf];omega
  ·have hkn:k=n:=by omega
   subst hkn
   obtain⟨VA,vc,rfl⟩:=row_form hown
   have HFIN:Hid (OsP w au (.returned (.slice VA k vc)) wr):=hid ⟨VA,vc,by rw[HN.out],hB,vs,by rw[HN.out];exact Reads.of_own hown,fun i hi=>by
    obtain⟨Ai,ci,e1,e2⟩:=hst i hi (by rw[←HN.out];exact hi)
    exact⟨Ai,ci,e1,e2.aut⟩⟩
   clear hst hown hB hH
   go_wp2_with fail
   go_ret
   exact HFIN.out
end Go.Proofs.Ytgflanlniejflaa
