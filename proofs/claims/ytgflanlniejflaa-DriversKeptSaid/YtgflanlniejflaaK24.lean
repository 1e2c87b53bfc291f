/-
  Drivers: the reference's way: the walk.
-/
import Derived.Test.YtgflanlniejflaaK23
namespace Go.Proofs.Ytgflanlniejflaa
open Go.RowKit Go.Maps
open Go.Sort (grow)
set_option maxRecDepth 100000
structure WayR (f:Rf) (kv:Value) (dp:Int) (w:World) (rec:Drv.Rec) (look:Int→Int→Int→Drv.PS→Int×Drv.PS) (ov:Int) (real:Bool) (R:List Drv.Tr×Int×Drv.PS) (m:Nat) (sv pv:Int) (q:Drv.PS) (outv:Value) (out:List Drv.Tr) (kv':Value) (wr:World):Prop where
 I:WayI f kv dp w q outv out kv' wr
 ok:Drv.POk f.c q
 pos0:0≤pv
 pos1:pv≤f.c.w.length
 st:Drv.InR f.c.states.length sv
 olen:(out.length:Int)≤q.used
 fl:f.c.fuel-q.used<m
 nil:real=false→out= []
 res:Drv.wayL f.c rec look m sv ov pv real out q=R
structure WayJ (f:Rf) (kv:Value) (dp:Int) (w:World) (q:Drv.PS) (i:Int×Drv.PS) (i1:Int×Drv.PS) (outv:Value) (out:List Drv.Tr) (kv':Value) (wx:World) (g:Nat) (cs:Array Value):Prop where
 I:WayI f kv dp w i.2 outv out kv' wx
 ok:Drv.POk f.c i.2
 gro:Drv.Gro q i.2 0 0
 eq:i1=i
 blk:wx.heap[g]? =some (.cells cs 44 (0,0))
theorem RT_ne {w:World}{f:Rf}{kv:Value}{opn:Int}{p:Drv.PS}(h:RpAt w f kv opn p){g:Nat}{cs:Array Value}{T:TypeId}(hg:w.heap[g]? =some (.cells cs T (0,0))) (h1:103≠T) (h2:183≠T):¬RT f kv g:=fun e=>by
 rcases e with e | e
 ·exact not_cells h.blk hg h1 e.symm
 ·exact row_not h.row hg h2 e
set_option maxHeartbeats 51200000 in
theorem rway_any (f:Rf) (n:Drv.NNet) (au:List (List Drv.LSt)) (N d:Nat) (hW:RWalkC f n au N d) (hd:d≤f.c.depth) (hN:f.c.fuel<N) (w:World) (kv:Value) (st ov pos:Int) (real:Bool) (p:Drv.PS)
 (h:RpAt w f kv ((f.c.depth:Int)-d) p) (hst:RSta w f n au) (h1:Drv.InR f.c.states.length st) (hp:Drv.POk f.c p) (h0:0≤pos) (hl:pos≤f.c.w.length):
 Calls Try.prog 55 #[.pointer (some ⟨f.P,0,none⟩),.int .i64 st,.int .i64 ov,.int .i64 pos,.bool real] w (RWalkP f kv ((f.c.depth:Int)-d) (Drv.wayL f.c (Drv.walkF f.c N d) (Drv.lookF f.c N d) N st ov pos real [] p) w):=by
 obtain⟨dp,hdp⟩:∃dp:Int,(f.c.depth:Int)-d=dp:=⟨_,rfl⟩
 obtain⟨R,hR⟩:∃R,Drv.wayL f.c (Drv.walkF f.c N d) (Drv.lookF f.c N d) N st ov pos real [] p=R:=⟨_,rfl⟩
 rw[hdp]at h⊢
 rw[hR]
 have hrng:=hst.rng
 have hval:=hst.val
 obtain⟨wl,fu,de,hcc⟩:=hst.c
 have hsl:f.c.states=n.states:=by rw[hcc];rfl
 have hdp0:0≤dp:=by omega
 have START:Hid (WayR f kv dp w (Drv.walkF f.c N d) (Drv.lookF f.c N d) ov real R N st pos p (.slice none 0 0) [] kv w):=hid
  ⟨⟨h,Only.refl _ _,fun _ e=>.inl e,[],World.ownsRow_nil _ _ _ _,by unfold TrsV;rfl⟩,hp,h0,hl,h1,by have:=hp.used0;simpa using this,by have:=hp.used0;omega,fun _=>rfl,hR⟩
 have hPlt:=heap_lt h.blk
 have hPge:=h.geP
 have HLT:=hid h.lt
 have hfu:=hst.fuel
 have hdlt:=hst.drv.dlt
 have HST:=hid hst
 have HW:=hid hW
 have HRNG:=hid hrng
 have HVAL:=hid hval
 have HSL:=hid hsl
 have HDP:=hid hdp
 clear h hst hW hrng hval hcc hsl hdp hR hp h0 hl h1
 go_enter Try.func55,Try.ntmps55
 go_wp2_with fail
 go_loopg [1,3,12] N (fun m sq pq oq wr=>∃(sv pv:Int) (q:Drv.PS) (out:List Drv.Tr) (kv':Value),sq= .int .i64 sv∧pq= .int .i64 pv∧Hid (WayR f kv dp w (Drv.walkF f.c N d) (Drv.lookF f.c N d) ov real R m sv pv q oq out kv' wr))
 case atStart=>exact⟨st,pos,p,[],kv,rfl,rfl,START⟩
 case round=>
  clear START
  obtain⟨sv,pv,q,out,kv',rfl,rfl,HR⟩:=hrel
  obtain⟨m,rfl⟩:∃m,gk=m+1:=⟨gk-1,by have:=HR.out.fl;have:=HR.out.ok.used1;omega⟩
  obtain⟨xs,hrow,hxs⟩:=HR.out.I.trs
  obtain⟨OA,oc,rfl⟩:=row_form hrow
  clear hrow hxs xs
  by_cases hover:sv=ov
  ·have hr1:=HR.out.res
   rw[←hover,Drv.wayL_over]at hr1
   have HF:=hid (HR.out.I.done (pos:=pv))
   rw[hr1]at HF
   have hb:(sv !=ov)=false:=by rw[hover];simp
   obtain⟨on,hon⟩:∃on,out.length=on:=⟨_,rfl⟩
   rw[hon]at HF⊢
   clear hr1 hover hon
   go_wp2_with fail
   go_ret2
   exact HF.out
  ·have hb:(sv !=ov)=true:=by rw[bne_iff_ne];exact hover
   obtain⟨i,hi⟩:∃i,(if(f.c.st sv).ends.length=0 then((0:Int),q)else Drv.pickR f.c (Drv.lookF f.c N d) sv pv q)=i:=⟨_,rfl⟩
   have hr1:=HR.out.res
   rw[Drv.wayL_go m real out q hover i hi]at hr1
   have hst1:=HR.out.st
   obtain⟨i0,hi0⟩:∃i0:Nat,sv=i0:=⟨sv.toNat,by have:=hst1.1;omega⟩
   subst hi0
   have hbr:Below f.B0 w wr:=HR.out.I.only.below' (fun j e=>(HLT.out j e).1) (by omega)
   obtain⟨ZA,zc,z0,hz⟩:=HST.out.drv.states
   have hil:i0<n.states.length:=by rw[←HSL.out];have:=hst1.2;omega
   obtain⟨zb,zo,EA,ec,XA,xc,rfl,hzb,z1,z2,z3,re,rx⟩:=hz.at hil
   have hsS:f.c.st (i0:Int)=n.states[i0]:=by
    unfold Drv.DC.st
    rw[if_neg (by omega),Int.toNat_natCast,HSL.out,List.getD_eq_getElem?_getD,List.getElem?_eq_getElem hil];rfl
   rw[←hsS]at z1 z2 z3 re rx
   have hES:=HST.out.ok.edges n.states[i0] (List.getElem_mem hil)
   rw[←hsS]at hES
   have hboth:=HRNG.out.both (i0:Int)
   have hedge:=HRNG.out.edge (i0:Int)
   have hpk:=fun(he:(f.c.st (i0:Int)).ends.length≠0) (w1:World) (hw1:RpAt w1 f kv' ((f.c.depth:Int)-d) q) (hs1:RSta w1 f n au)=>rpick_any f n au N d HW.out hd w1 kv' i0 pv q hw1 hs1 he HR.out.ok HR.out.pos0 HR.out.pos1
   have hpo:=fun(he:(f.c.st (i0:Int)).ends.length≠0)=>Drv.pickR_ok HRNG.out HVAL.out (Drv.lookF_ok (Drv.walkF_ok HRNG.out HVAL.out N d hd)) he HR.out.pos0 HR.out.pos1 HR.out.ok
   obtain⟨S,hS⟩:∃S,f.c.st (i0:Int)=S:=⟨_,rfl⟩
   rw[hS]at z1 z2 z3 re rx hES hboth hedge hpk hpo hr1 hi
   have z0:=(hbr.cell (p:=⟨f.D,0,none⟩) hdlt).trans z0
   have z1:=(hbr.cell (p:=⟨zb,zo+i0*3,none⟩) hzb).trans z1
   have z2:=(hbr.cell (p:=⟨zb,zo+i0*3+1,none⟩) hzb).trans z2
   have z3:=(hbr.cell (p:=⟨zb,zo+i0*3+2,none⟩) hzb).trans z3
   have c0:=(HR.out.I.at'.cell 0).1
   simp only[rfCells,List.getElem?_toArray,List.getElem?_cons_zero]at c0
   obtain⟨ns,hns⟩:∃m,n.states.length=m:=⟨_,rfl⟩
   rw[hns]at z0 hil
   have hns6:ns≤1000000:=by rw[←hns];exact HST.out.ok.states
   have hilI:(i0:Int)<(ns:Int):=by omega
   obtain⟨nE,hnE⟩:∃m,S.edges.length=m:=⟨_,rfl⟩
   obtain⟨nX,hnX⟩:∃m,S.ends.length=m:=⟨_,rfl⟩
   rw[hnE]at z2 re hES
   rw[hnX]at z3 rx hpk hpo hi
   have HNE:=hid hnE
   have HNX:=hid hnX
   have RE:=hid re
   have HRES:=hid hr1
   have HI:=hid hi
   have HPK:=hid hpk
   have HPO:=hid hpo
   have HEDGE:=hid hedge
   have HBR:=hid hbr
   generalize hrl:S.rule=rl at z1
   clear hover hi hr1 hst1 hz hsS hboth hedge hpk hpo hS hns hnE hnX re rx hrl hbr
   have T:=heap_alloc_new wr (.cells #[.int .i64 rl,.slice EA nE ec,.slice XA nX xc] 44)
   have hoa:Only (fun _=>False) wr (wr.alloc (.cells #[.int .i64 rl,.slice EA nE ec,.slice XA nX xc] 44)):=Only.of_below (below_new _ _)
   have HWI:=hid (HR.out.I.grow hoa)
   have x2:(wr.alloc (.cells #[.int .i64 rl,.slice EA nE ec,.slice XA nX xc] 44)).cell? ⟨wr.heap.size,2,none⟩=some (.slice XA nX xc):=cell_new _ _ _ 2
   have hsz1:(wr.alloc (.cells #[.int .i64 rl,.slice EA nE ec,.slice XA nX xc] 44)).heap.size=wr.heap.size+1:=by simp
   have HSTA:=hid (HST.out.below (HBR.out.trans ((below_new wr (.cells #[.int .i64 rl,.slice EA nE ec,.slice XA nX xc] 44)).mono (by have:=HR.out.I.only.size;omega))))
   go_upto_if 43 with fail
   generalize wr.alloc (.cells #[.int .i64 rl,.slice EA nE ec,.slice XA nX xc] 44)=w1 at T hoa HWI x2 hsz1 HSTA⊢
   generalize hgg:wr.heap.size=gg at T x2⊢
   have HT:=hid T
   have hsz1':=hsz1
   clear T hoa z0 z1 z2 z3 c0 hsz1
   obtain⟨on,hon⟩:∃on,out.length=on:=⟨_,rfl⟩
   have HON:=hid hon
   rw[hon]at HWI⊢
   clear hon
   go_cut[14]from 26 to 250 (fun t wx=>∃(kv1:Value),t= .int .i64 i.1∧Hid (WayJ f kv dp w q i i (.slice OA on oc) out kv1 wx gg #[.int .i64 rl,.slice EA nE ec,.slice XA nX xc]))
   case first=>
    as_aux_lemma=>
     by_cases hx0:nX=0
     ·subst hx0
      have hi1:=HI.out
      rw[if_pos rfl]at hi1
      have HIE:=hid hi1
      clear hi1
      go_wp2_with fail
      go_meet
      case rel=>
       have e:=HIE.out
       subst e
       exact⟨kv',rfl,hid ⟨HWI.out,HR.out.ok,Drv.Gro.refl q,rfl,HT.out⟩⟩
     ·have hi1:=HI.out
      rw[if_neg hx0]at hi1
      have HIE:=hid hi1
      have hxP:0<nX:=by omega
      have hxI:decide (0<nX)=true:=by rw[decide_eq_true_eq];omega
      have hxI2:decide ((0:Int)<(nX:Int))=true:=by rw[decide_eq_true_eq];omega
      have hC:=HPK.out hx0 w1 (by rw[HDP.out];exact HWI.out.at') HSTA.out
      rw[HDP.out,hi1]at hC
      have HC:=hid hC
      have ho1:=HPO.out hx0
      rw[hi1]at ho1
      have HO1:=hid ho1
      clear hi1 hC ho1 hx0
      go_wp2_with fail
      refine HC.out.mono ?_
      rintro e w2 ⟨kv2,rfl,h2,ho2,hn2⟩
      have HJ:Hid (WayJ f kv dp w q i i (.slice OA on oc) out kv2 w2 gg #[.int .i64 rl,.slice EA nE ec,.slice XA nX xc]):=hid
       ⟨HWI.out.step ho2 hn2 h2,HO1.out.1,HO1.out.2,rfl,(ho2.block gg (heap_lt HT.out) (RT_ne HWI.out.at' HT.out (by decide) (by decide))).trans HT.out⟩
      clear h2 ho2 hn2 HC
      dsimp only
      go_wp2_with fail
      go_meet
      case rel=>exact⟨kv2,rfl,HJ⟩
   case rest=>
    obtain⟨kv1,rfl,HJ⟩:=hcut
    obtain⟨iv,qi⟩:=i
    dsimp only
    clear HPK HPO HI x2 HWI HT HSTA hsz1'
    have hr1:=HRES.out
    rw[HNE.out]at hr1
    simp only at hr1
    have hwc:=HJ.out.I.only.size
    have hbc:Below f.B0 w wc:=HJ.out.I.only.below' (fun j e=>(HLT.out j e).1) (by omega)
    have c7:=(HJ.out.I.at'.cell 9).1
    simp only[rfCells,List.getElem?_toArray,List.getElem?_cons_succ,List.getElem?_cons_zero]at c7
    have x1:wc.cell? ⟨gg,1,none⟩=some (.slice EA nE ec):=by rw[Lib.cell_of_heap HJ.out.blk];rfl
    have HBC:=hid hbc
    clear hbc
    by_cases herr:qi.err=0
    ·have he0:(qi.err !=0)=false:=by rw[herr];rfl
     by_cases hiv:iv<0
     ·rw[if_pos (.inr (.inl hiv))]at hr1
      have hF:=HJ.out.I.fail
      simp only at hF
      rw[hr1]at hF
      have HF:=hid hF
      have hid1:decide (iv<0)=true:=by rw[decide_eq_true_eq];exact hiv
      clear hF hr1 herr hiv
      go_wp2_with fail
      go_ret2
      exact HF.out
     ·have hid1:decide (iv<0)=false:=by rw[decide_eq_false_iff_not];exact hiv
      by_cases hiE:(nE:Int)≤iv
      ·rw[if_pos (.inr (.inr hiE))]at hr1
       have hF:=HJ.out.I.fail
       simp only at hF
       rw[hr1]at hF
       have HF:=hid hF
       have hid2:decide ((nE:Int)≤iv)=true:=by rw[decide_eq_true_eq];exact hiE
       clear hF hr1 herr hiv hiE
       go_wp2_with fail
       go_ret2
       exact HF.out
      ·rw[if_neg (fun e=>e.elim (fun e=>e herr) fun e=>e.elim hiv hiE)]at hr1
       have hid2:decide ((nE:Int)≤iv)=false:=by rw[decide_eq_false_iff_not];exact hiE
       obtain⟨i2,hi2⟩:∃i2:Nat,iv=i2:=⟨iv.toNat,by omega⟩
       subst hi2
       have hiE2:i2<nE:=by omega
       have hiEI:(i2:Int)<(nE:Int):=by omega
       have hiS:i2<S.edges.length:=by rw[HNE.out];exact hiE2
       have hed:S.ed (i2:Int)=S.edges[i2]:=by unfold Drv.NSt.ed;rw[Int.toNat_natCast,List.getD_eq_getElem?_getD,List.getElem?_eq_getElem hiS];rfl
       have hem:=HEDGE.out S.edges[i2] (List.getElem_mem hiS)
       obtain⟨eb,eo,rfl,heb,ce⟩:=(RE.out.below HBC.out).2 (by omega)
       have f0:=ce _ _ (flat_get encEf 3 (fun _=>rfl) S.edges i2 hiS 0 (by omega))
       have f1:=ce _ _ (flat_get encEf 3 (fun _=>rfl) S.edges i2 hiS 1 (by omega))
       have f2:=ce _ _ (flat_get encEf 3 (fun _=>rfl) S.edges i2 hiS 2 (by omega))
       have e0:wc.cell? ⟨eb,eo+(i2*3+0),none⟩=some (.int .i64 S.edges[i2].kind):=f0
       have e1:wc.cell? ⟨eb,eo+(i2*3+1),none⟩=some (.int .i64 S.edges[i2].what):=f1
       have e2:wc.cell? ⟨eb,eo+(i2*3+2),none⟩=some (.int .i64 S.edges[i2].to):=f2
       rw[Nat.add_zero]at e0
       rw[←Nat.add_assoc]at e1 e2
       rw[hed]at hr1
       generalize S.edges[i2]=e at e0 e1 e2 hr1 hem
       have HEM:=hid hem
       have HR1:=hid hr1
       clear f0 f1 f2 ce hr1 hem hed hiS herr hiv hiE
       obtain⟨w3,hw3⟩:∃x,x=wc.alloc (.cells #[.int .i64 e.kind,.int .i64 e.what,.int .i64 e.to] 93):=⟨_,rfl⟩
       have T15:w3.heap[wc.heap.size]? =some (.cells #[.int .i64 e.kind,.int .i64 e.what,.int .i64 e.to] 93 (0,0)):=by rw[hw3];exact heap_alloc_new _ _
       have hI3:WayI f kv dp w qi (.slice OA on oc) out kv1 w3:=HJ.out.I.grow (by rw[hw3];exact Only.of_below (below_new _ _))
       have HT15:=hid T15
       have HI3:=hid hI3
       have HW3:=hid hw3.symm
       have hu1:=HJ.out.ok.used1
       have hu0:=HJ.out.ok.used0
       clear T15 hI3 hw3
       go_upto_region 10 with fail
       rw[HW3.out]
       generalize hg15:wc.heap.size=g15 at HT15⊢
       clear HW3 e0 e1 e2 c7 x1
       go_wp2_with fail
       refine(rpay_any w3 f kv1 dp qi 1 HI3.out.at' hu0 (by omega) (by omega) (by omega)).mono ?_
       rintro er w4 ⟨ho4,⟨hf,rfl,h4⟩ | ⟨hf,rfl,h4⟩⟩
       ·have hr1:=HR1.out
        rw[if_pos hf]at hr1
        have hF:=(HI3.out.step (ho4.more (S':=RT f kv1) fun _ _ e=>.inl e) (fun _ e=>.inl e) h4).fail
        rw[hr1]at hF
        have HF:=hid hF
        clear hF hr1 hf ho4 h4
        go_wp2_with fail
        go_ret2
        exact HF.out
       ·have hr1:=HR1.out
        rw[if_neg hf]at hr1
        have HI4:=hid (HI3.out.step (ho4.more (S':=RT f kv1) fun _ _ e=>.inl e) (fun _ e=>.inl e) h4)
        have T15:=(ho4.block g15 (heap_lt HT15.out) (fun e=>RT_ne HI3.out.at' HT15.out (by decide) (by decide) (.inl e))).trans HT15.out
        have HT4:=hid T15
        have ok4:=HJ.out.ok.pay (n:=1) (by omega) hf
        have hEO:=Drv.edgeR_ok HRNG.out (Drv.walkF_ok HRNG.out HVAL.out N d hd) (Drv.lookF_ok (Drv.walkF_ok HRNG.out HVAL.out N d hd)) (e:=e) ⟨HEM.out.2.1,HEM.out.2.2⟩ HR.out.pos0 HR.out.pos1 (real:=real) (out:=out) ok4 (by have h9:(qi.known.length:Int)≤qi.used:=HJ.out.ok.few;show((qi.known.length:Nat):Int)+1≤qi.used+1;omega) (by have h9:qi.spec≤64*qi.used:=HJ.out.ok.spec1;show qi.spec+1≤64*(qi.used+1);omega)
        have HOK4:=hid ok4
        have hspj:qi.spec≤64*qi.used:=HJ.out.ok.spec1
        have FL:=hid (fun(q':Drv.PS) (outv':Value) (out':List Drv.Tr) (kvx:Value) (wx:World) (hI:WayI f kv dp w q' outv' out' kvx wx) (hE:Drv.edgeR f.c (Drv.walkF f.c N d) (Drv.lookF f.c N d) e pv real out {qi with used:=qi.used+1}=(none,q'))=>(show RWalkP f kv dp R w (.returned (.tuple #[.slice none 0 0,.int .i64 (-1)])) wx from by
         rw[hE]at hr1
         rw[←hr1]
         exact hI.fail))
        have NX:=hid (fun(o:List Drv.Tr×Int) (q':Drv.PS) (outv':Value) (kvx:Value) (wx:World) (hI:WayI f kv dp w q' outv' o.1 kvx wx) (hE:Drv.edgeR f.c (Drv.walkF f.c N d) (Drv.lookF f.c N d) e pv real out {qi with used:=qi.used+1}=(some o,q'))=>(show WayR f kv dp w (Drv.walkF f.c N d) (Drv.lookF f.c N d) ov real R m e.to o.2 q' outv' o.1 kvx wx from by
         rw[hE]at hr1 hEO
         obtain⟨k1,k2,k3⟩:=hEO
         obtain⟨k4,k5,k6,k7⟩:=k3 o rfl
         have k8:qi.used+1≤q'.used:=k2.used
         have k9:=HJ.out.gro.used
         have k10:q.used≤qi.used:=k9
         have k11:=HR.out.fl
         have k12:=HR.out.olen
         exact⟨hI,k1,by have:=HR.out.pos0;omega,k5,HEM.out.1,by omega,by omega,fun e=>by rw[k7 e,HR.out.nil e],hr1⟩))
        have hB4:f.B0≤w4.heap.size:=by have:=HI4.out.only.size;omega
        have HB4:=hid (HI4.out.only.below' (B:=f.B0) (fun j e=>(HLT.out j e).1) (by omega))
        have HST4:=hid (HST.out.below HB4.out)
        clear hr1 hf ho4 h4 T15 ok4 hEO HR1 HI3 HT15 HJ HRES hg15
        have t0:w4.cell? ⟨g15,0,none⟩=some (.int .i64 e.kind):=by rw[Lib.cell_of_heap HT4.out];rfl
        have t1:w4.cell? ⟨g15,1,none⟩=some (.int .i64 e.what):=by rw[Lib.cell_of_heap HT4.out];rfl
        have t2:w4.cell? ⟨g15,2,none⟩=some (.int .i64 e.to):=by rw[Lib.cell_of_heap HT4.out];rfl
        obtain⟨lw,hlw⟩:∃m,f.c.w.length=m:=⟨_,rfl⟩
        have HLW:=hid hlw
        have hlw16:lw≤16384:=by rw[←hlw];exact HST.out.len
        have hp0:=HR.out.pos0
        have hp1:=HR.out.pos1
        rw[hlw]at hp1
        have c0:=(HI4.out.at'.cell 0).1
        have c1:=(HI4.out.at'.cell 1).1
        simp only[rfCells,List.getElem?_toArray,List.getElem?_cons_succ,List.getElem?_cons_zero]at c0 c1
        rw[hlw]at c1
        clear hlw
        by_cases hk1:e.kind=1
        ·as_aux_lemma=>
          have hd1:(e.kind==1)=true:=by rw[beq_iff_eq];exact hk1
          have hpv:pv≤16384:=by omega
          have hU:=Drv.edgeR_tok f.c (Drv.walkF f.c N d) (Drv.lookF f.c N d) (e:=e) pv out {qi with used:=qi.used+1} real hk1
          rw[HLW.out]at hU
          have hno:on≤100000:=by have h1:=HR.out.olen;have:=HR.out.ok.used1;rw[HON.out]at h1;omega
          have hgl:=heap_lt HT4.out
          by_cases hw:(lw:Int)≤pv
          ·have hw1:decide ((lw:Int)≤pv)=true:=by rw[decide_eq_true_eq];exact hw
           rw[if_pos (.inl hw)]at hU
           have HU:=hid hU
           clear hU hw hk1 NX
           go_upto_region 14 with fail
           go_quiet (fail)
           have HF:=hid (FL.out _ _ _ _ _ (HI4.out.grow ((Only.refl (fun _=>False) w4).none_drew nq)) HU.out)
           clear t0 t1 t2 c0 c1
           generalize w4.drewN nq=w5 at HF⊢
           go_wp2_with fail
           go_ret2
           exact HF.out
          ·have hw1:decide ((lw:Int)≤pv)=false:=by rw[decide_eq_false_iff_not];exact hw
           obtain⟨pn,hpn⟩:∃pn:Nat,pv=pn:=⟨pv.toNat,by omega⟩
           subst hpn
           have hpl:pn<f.c.w.length:=by rw[HLW.out];omega
           have hplI:(pn:Int)<(lw:Int):=by omega
           have hpln:pn<lw:=by omega
           have htk:f.c.tok (pn:Int)=f.c.w[pn]:=by unfold Drv.DC.tok;rw[Int.toNat_natCast,List.getD_eq_getElem?_getD,List.getElem?_eq_getElem hpl];rfl
           have htoks:=HST4.out.toks
           rw[HLW.out]at htoks
           obtain⟨wb,wo,hWA,hwb,cw⟩:=htoks.2 (by omega)
           have x0:=cw pn _ (by rw[List.getElem?_map,List.getElem?_eq_getElem hpl];rfl)
           rw[←htk]at x0
           rw[hWA]at c1
           have HWA:=hid hWA
           generalize f.c.tok (pn:Int)=tk at x0 hU
           clear hpl htk htoks cw hWA
           by_cases htw:tk=e.what
           ·have htw1:(tk !=e.what)=false:=by rw[htw];simp
            rw[if_neg (fun h=>h.elim hw fun h=>h htw)]at hU
            have HU:=hid hU
            clear hU hw hk1 FL htw
            go_upto_region 14 with fail
            go_quiet (fail)
            have ho5:=(Only.refl (fun _=>False) w4).none_drew nq
            have HI5:=hid (HI4.out.grow ho5)
            have T5:=(ho5.block g15 hgl (fun e=>e)).trans HT4.out
            clear t0 t1 t2 c0 c1 x0
            generalize w4.drewN nq=w5 at HI5 T5 ho5⊢
            have t1:w5.cell? ⟨g15,1,none⟩=some (.int .i64 e.what):=by rw[Lib.cell_of_heap T5];rfl
            have t2:w5.cell? ⟨g15,2,none⟩=some (.int .i64 e.to):=by rw[Lib.cell_of_heap T5];rfl
            have HT5:=hid T5
            have hww:w.heap.size≤w5.heap.size:=HI5.out.only.size
            clear T5 ho5
            cases real with
            | false=>
             have HG:=hid (NX.out (out,(pn:Int)+1) _ _ _ _ HI5.out HU.out)
             clear NX
             go_wp2_with fail
             go_roundg m
             case measure=>omega
             case rel=>exact⟨e.to,(pn:Int)+1,_,out,kv1,rfl,by go_num,HG⟩
            | true=>
             obtain⟨i0,hi0,hz0,hsz0,hy0⟩:=info_parts infoTree
             obtain⟨xs,hrow,htrs⟩:=HI5.out.trs
             have HROW:=hid hrow
             rw[HON.out]at hrow
             have hnob:(Value.slice OA on oc).ownBlock≠some g15:=row_not hrow HT5.out (by decide)
             have HTRS:=hid htrs
             have hg5:=heap_lt HT5.out
             clear htrs
             go_wp2_with (at_builtin;go_must (refine wpList_push4 w5 rfl _ _ 63 rfl w.heap.size 65 i0 _ 5 56 Try.underlying63 hi0 hz0 hsz0 hy0 rfl (by omega) (.slice OA on oc) on xs rfl hrow [.int .i64 (-1),.int .i64 pn,.int .i64 e.what,.bool false,.slice none 0 0] 1 w5.heap.size rfl (by rfl) rfl (by simp[Value.oneCell']) Nat.zero_lt_one (by simp only[maxLen];omega) (by omega) hww ?_);intro g9 c9 w9 hown9 hg9 ho9;have t2:=(ho9.cell (o:=2) hg5 hnob).trans t2)
             have HG:=hid (NX.out (out++ [Drv.leaf pn e.what],(pn:Int)+1) _ (.slice (some ⟨g9,0,none⟩) (on+1) c9) kv1 w9 (by
              have:=HI5.out.push (t:=Drv.leaf pn e.what) (c:=c9) (by rw[HON.out];exact hrow) HTRS.out (by unfold Drv.leaf TrV;exact⟨none,0,[],rfl,⟨rfl,fun h=>absurd h (Nat.lt_irrefl 0)⟩,by unfold TrsV;rfl⟩) hg9 ho9 (by rw[HON.out];exact hown9)
              rw[HON.out]at this
              exact this) HU.out)
             clear NX
             go_roundg m
             case measure=>omega
             case rel=>exact⟨e.to,(pn:Int)+1,_,_,kv1,rfl,by go_num,HG⟩
           ·have htw1:(tk !=e.what)=true:=by rw[bne_iff_ne];exact htw
            rw[if_pos (.inr htw)]at hU
            have HU:=hid hU
            clear hU hw hk1 NX htw
            go_upto_region 14 with fail
            go_quiet (fail)
            have HF:=hid (FL.out _ _ _ _ _ (HI4.out.grow ((Only.refl (fun _=>False) w4).none_drew nq)) HU.out)
            clear t0 t1 t2 c0 c1 x0
            generalize w4.drewN nq=w5 at HF⊢
            go_wp2_with fail
            go_ret2
            exact HF.out
        ·have hd1:(e.kind==1)=false:=by rw[beq_eq_false_iff_ne];exact hk1
         by_cases hk2:e.kind=2
         ·as_aux_lemma=>
           have hd2:(e.kind==2)=true:=by rw[beq_iff_eq];exact hk2
           have hwr:=HEM.out.2.1 hk2
           obtain⟨wn,hwn⟩:∃wn:Nat,e.what=wn:=⟨e.what.toNat,by have:=hwr.1;omega⟩
           obtain⟨hsr1,hsr2⟩:=HRNG.out.starts _ hwr
           have hcs:f.c.starts=n.starts∧f.c.stops=n.stops:=by obtain⟨wl,fu,de,e⟩:=HST.out.c;rw[e];exact⟨rfl,rfl⟩
           have hsl2:=HST.out.ok.stops
           have hwl:wn<n.starts.length:=by rw[hwn,hcs.1]at hwr;have:=hwr.2;omega
           obtain⟨sb,so,sc,hsb,d1,cs1⟩:=HST4.out.drv.starts.nth hwl
           obtain⟨ub,uo,uc,hub,d2,cu1⟩:=HST4.out.drv.stops.nth (show wn<n.stops.length by omega)
           have x1:=cs1 wn hwl
           have x2:=cu1 wn (by omega)
           have e1:Drv.at0 f.c.starts e.what=n.starts[wn]:=by unfold Drv.at0;rw[hcs.1,hwn,Int.toNat_natCast,List.getD_eq_getElem?_getD,List.getElem?_eq_getElem hwl];rfl
           have e2:Drv.at0 f.c.stops e.what=n.stops[wn]'(by omega):=by unfold Drv.at0;rw[hcs.2,hwn,Int.toNat_natCast,List.getD_eq_getElem?_getD,List.getElem?_eq_getElem (by omega)];rfl
           rw[←e1]at x1
           rw[←e2]at x2
           rw[hsl2]at d2
           have HWN:=hid hwn
           rw[hwn]at t1
           obtain⟨nT,hnT⟩:∃m,n.starts.length=m:=⟨_,rfl⟩
           rw[hnT]at d1 d2 hwl
           have hwlI:(wn:Int)<(nT:Int):=by omega
           have hnT64:nT≤64:=by rw[←hnT];exact HST.out.ok.starts
           have hpv:pv≤16384:=by omega
           have hno:on≤100000:=by have h1:=HR.out.olen;have:=HR.out.ok.used1;rw[HON.out]at h1;omega
           generalize hs0:Drv.at0 f.c.starts e.what=s0 at x1 hsr1
           generalize hu0':Drv.at0 f.c.stops e.what=u0 at x2 hsr2
           have HS0:=hid hs0
           have HU0:=hid hu0'
           have HSR1:=hid hsr1
           have HSR2:=hid hsr2
           have HK2:=hid hk2
           have hgl:=heap_lt HT4.out
           have hPl4:=heap_lt HI4.out.at'.blk
           clear hcs hsl2 cs1 cu1 e1 e2 hwn hnT hs0 hu0' hsr1 hsr2 hk2 hk1 hwr
           go_upto_region 20 with fail
           go_quiet (fail)
           have ho5:=(Only.refl (fun _=>False) w4).none_drew nq
           have HI5:=hid (HI4.out.grow ho5)
           have HT5:=hid ((ho5.block g15 hgl (fun e=>e)).trans HT4.out)
           have c0:=(ho5.cell (o:=0) hPl4 (fun e=>e)).trans c0
           have t1:=(ho5.cell (o:=1) hgl (fun e=>e)).trans t1
           have d2:=(ho5.cell (o:=2) (show f.D<w4.heap.size by omega) (fun e=>e)).trans d2
           have x2:=(ho5.cell (o:=uo+wn) (show ub<w4.heap.size by omega) (fun e=>e)).trans x2
           have hz5:=ho5.size
           clear t0 t2 c1 d1 x1
           generalize w4.drewN nq=w5 at HI5 HT5 ho5 c0 t1 d2 x2 hz5⊢
           clear ho5
           go_upto_region 21 with fail
           go_quiet (fail)
           have ho6:=(Only.refl (fun _=>False) w5).none_drew nq
           have HI6:=hid (HI5.out.grow ho6)
           have HT6:=hid ((ho6.block g15 (heap_lt HT5.out) (fun e=>e)).trans HT5.out)
           clear c0 t1 d2 x2
           generalize w5.drewN nq=w6 at HI6 HT6 ho6⊢
           have hww:w.heap.size≤w6.heap.size:=HI6.out.only.size
           have hB6:f.B0≤w6.heap.size:=by omega
           have HST6:=hid (HST.out.below (HI6.out.only.below' (B:=f.B0) (fun j e=>(HLT.out j e).1) (by omega)))
           have hg6:=heap_lt HT6.out
           clear ho6 HT5 HI5
           have t1:w6.cell? ⟨g15,1,none⟩=some (.int .i64 wn):=by rw[Lib.cell_of_heap HT6.out,←HWN.out];rfl
           have t2:w6.cell? ⟨g15,2,none⟩=some (.int .i64 e.to):=by rw[Lib.cell_of_heap HT6.out];rfl
           cases real with
           | true=>
            as_aux_lemma=>
             have hC:=HW.out w6 kv1 s0 u0 pv true _ (by rw[HDP.out];exact HI6.out.at') HST6.out HSR1.out HSR2.out HOK4.out hp0 (by rw[HLW.out];exact hp1)
             rw[HDP.out]at hC
             have HC:=hid hC
             have hU:=Drv.edgeR_real f.c (Drv.walkF f.c N d) (Drv.lookF f.c N d) (e:=e) pv out {qi with used:=qi.used+1} HK2.out _ rfl
             rw[HS0.out,HU0.out]at hU
             generalize hrr:Drv.walkF f.c N d s0 u0 pv true {qi with used:=qi.used+1}=rr at HC hU
             have HU:=hid hU
             clear hC hU hrr
             go_wp2_with fail
             refine HC.out.mono ?_
             rintro e7 w7 ⟨A7,c7,kv7,ys,rfl,h7,ro7,tr7,ho7,hn7⟩
             dsimp only
             obtain⟨l7,tv,q7⟩:=rr
             dsimp only at h7 ro7 tr7⊢
             have HI7:=hid (HI6.out.step ho7 hn7 h7)
             have T7:=(ho7.block g15 hg6 (RT_ne HI6.out.at' HT6.out (by decide) (by decide))).trans HT6.out
             have t1:w7.cell? ⟨g15,1,none⟩=some (.int .i64 wn):=by rw[Lib.cell_of_heap T7,←HWN.out];rfl
             have t2:w7.cell? ⟨g15,2,none⟩=some (.int .i64 e.to):=by rw[Lib.cell_of_heap T7];rfl
             have HT7:=hid T7
             have hww7:w.heap.size≤w7.heap.size:=HI7.out.only.size
             have hol:∀b,(Value.slice OA on oc).ownBlock=some b→b<w6.heap.size:=fun b eb=>by
              obtain⟨xs,hrow,_⟩:=HI6.out.trs
              exact(hrow.lt b eb).2
             have HTR7:=hid (show TrV w7 (fun k=>RT f kv7 k∨(Value.slice OA on oc).ownBlock=some k∨k<w.heap.size) (.node e.what 0 0 false l7) [.int .i64 e.what,.int .i64 0,.int .i64 0,.bool false,.slice A7 l7.length c7]from by
              unfold TrV
              have hS:∀b,b<w7.heap.size→(RT f kv7 b∨(Value.slice OA on oc).ownBlock=some b∨b<w.heap.size)→(RT f kv7 b∨b<w6.heap.size):=fun b _ eb=>by
               rcases eb with eb | eb | eb
               ·exact .inl eb
               ·exact .inr (hol b eb)
               ·exact .inr (by omega)
              exact⟨A7,c7,ys,rfl,ro7.only (Only.refl _ _) hS,TrsV.only (Only.refl _ _) hS _ _ tr7⟩)
             clear h7 ro7 tr7 ho7 hn7 T7 hol HC
             have hU:=HU.out
             simp only at hU
             by_cases htv:tv<0
             ·rw[if_pos htv]at hU
              have hti:decide (tv<0)=true:=by rw[decide_eq_true_eq];exact htv
              have HF:=hid (FL.out _ _ _ _ _ HI7.out hU)
              clear hU htv NX FL HU
              go_wp2_with fail
              go_ret2
              exact HF.out
             ·rw[if_neg htv]at hU
              have hti:decide (tv<0)=false:=by rw[decide_eq_false_iff_not];exact htv
              have HU2:=hid hU
              clear hU htv FL HU
              obtain⟨i0,hi0,hz0,hsz0,hy0⟩:=info_parts infoTree
              obtain⟨xs,hrow,htrs⟩:=HI7.out.trs
              have HROW:=hid hrow
              rw[HON.out]at hrow
              have hnob:(Value.slice OA on oc).ownBlock≠some g15:=row_not hrow HT7.out (by decide)
              have HTRS:=hid htrs
              have hg7:=heap_lt HT7.out
              obtain⟨n7,hn7⟩:∃m,l7.length=m:=⟨_,rfl⟩
              rw[hn7]at HTR7⊢
              clear htrs hn7
              go_wp2_with (at_builtin;go_must (refine wpList_push4 w7 rfl _ _ 63 rfl w.heap.size 65 i0 _ 5 56 Try.underlying63 hi0 hz0 hsz0 hy0 rfl (by omega) (.slice OA on oc) on xs rfl hrow [.int .i64 wn,.int .i64 0,.int .i64 0,.bool false,.slice A7 n7 c7] 1 w7.heap.size rfl (by rfl) rfl (by simp[Value.oneCell']) Nat.zero_lt_one (by simp only[maxLen];omega) (by omega) hww7 ?_);intro g9 c9 w9 hown9 hg9 ho9;have t2:=(ho9.cell (o:=2) hg7 hnob).trans t2)
              have HG:=hid (NX.out (out++ [.node e.what 0 0 false l7],tv) _ (.slice (some ⟨g9,0,none⟩) (on+1) c9) kv7 w9 (by
               have:=HI7.out.push (t:=.node e.what 0 0 false l7) (c:=c9) (by rw[HON.out];exact hrow) HTRS.out HTR7.out hg9 ho9 (by rw[HON.out,HWN.out];exact hown9)
               rw[HON.out]at this
               exact this) HU2.out)
              clear NX
              go_roundg m
              case measure=>omega
              case rel=>exact⟨e.to,tv,_,_,kv7,rfl,rfl,HG⟩
           | false=>
            as_aux_lemma=>
             have hkq:qi.known.length≤1000000:=by have h1:(qi.known.length:Int)≤qi.used+1:=HOK4.out.few;omega
             have hK:=rknow_any w6 f kv1 dp _ 2 e.what pv HI6.out.at' hkq
             unfold KnowP at hK
             rw[HWN.out]at hK
             cases hkn:Drv.know qi.known 2 e.what pv with
             | some tv=>
              have hkn2:Drv.know qi.known 2 (wn:Int) pv=some tv:=by rw[←HWN.out];exact hkn
              have hK2:Calls Try.prog 78 #[.pointer (some ⟨f.P,0,none⟩),.int .i64 2,.int .i64 wn,.int .i64 pv] w6 fun e w'=>e= .returned (.tuple #[.int .i64 tv,.bool true])∧w'=w6:=by rw[hkn2]at hK;exact hK
              have HK:=hid hK2
              have hU:=Drv.edgeR_known2 f.c (Drv.walkF f.c N d) (Drv.lookF f.c N d) (e:=e) pv out {qi with used:=qi.used+1} HK2.out hkn
              clear hK hK2 hkn hkn2
              by_cases htv:tv<0
              ·rw[if_pos htv]at hU
               have hti:decide (tv<0)=true:=by rw[decide_eq_true_eq];exact htv
               have HF:=hid (FL.out _ _ _ _ _ HI6.out hU)
               clear hU htv NX FL
               go_wp2_with fail
               refine HK.out.mono ?_
               rintro e7 w7 ⟨rfl,rfl⟩
               dsimp only
               go_wp2_with fail
               go_ret2
               exact HF.out
              ·rw[if_neg htv]at hU
               have hti:decide (tv<0)=false:=by rw[decide_eq_false_iff_not];exact htv
               have HG:=hid (NX.out (out,tv) _ _ _ _ HI6.out hU)
               clear hU htv NX FL
               go_wp2_with fail
               refine HK.out.mono ?_
               rintro e7 w7 ⟨rfl,rfl⟩
               dsimp only
               go_wp2_with fail
               go_roundg m
               case measure=>omega
               case rel=>exact⟨e.to,tv,_,out,kv1,rfl,rfl,HG⟩
             | none=>
              have hkn2:Drv.know qi.known 2 (wn:Int) pv=none:=by rw[←HWN.out];exact hkn
              have hK2:Calls Try.prog 78 #[.pointer (some ⟨f.P,0,none⟩),.int .i64 2,.int .i64 wn,.int .i64 pv] w6 fun e w'=>e= .returned (.tuple #[.int .i64 0,.bool false])∧w'=w6:=by rw[hkn2]at hK;exact hK
              have HK:=hid hK2
              have hC:=HW.out w6 kv1 s0 u0 pv false _ (by rw[HDP.out];exact HI6.out.at') HST6.out HSR1.out HSR2.out HOK4.out hp0 (by rw[HLW.out];exact hp1)
              rw[HDP.out]at hC
              have HC:=hid hC
              have hWO:=Drv.walkF_ok HRNG.out HVAL.out N d hd s0 u0 pv false _ HSR1.out HSR2.out HOK4.out hp0 (by rw[HLW.out];exact hp1)
              have hU:=Drv.edgeR_rule f.c (Drv.walkF f.c N d) (Drv.lookF f.c N d) (e:=e) pv out {qi with used:=qi.used+1} HK2.out hkn _ rfl
              rw[HS0.out,HU0.out]at hU
              generalize hrr:Drv.walkF f.c N d s0 u0 pv false {qi with used:=qi.used+1}=rr at HC hU hWO
              have HU:=hid hU
              have HWO:=hid hWO
              clear hC hU hrr hK hK2 hkn hkn2 hWO
              go_wp2_with fail
              refine HK.out.mono ?_
              rintro e7 w7 ⟨rfl,hw7⟩
              obtain rfl:=hw7.symm
              dsimp only
              go_wp2_with fail
              refine HC.out.mono ?_
              rintro e7 w7 ⟨A7,c7,kv7,ys,rfl,h7,ro7,tr7,ho7,hn7⟩
              dsimp only
              obtain⟨l7,tv,q7⟩:=rr
              dsimp only at h7 ro7 tr7⊢
              have HI7:=hid (HI6.out.step ho7 hn7 h7)
              have T7:=(ho7.block g15 hg6 (RT_ne HI6.out.at' HT6.out (by decide) (by decide))).trans HT6.out
              have t1:w7.cell? ⟨g15,1,none⟩=some (.int .i64 wn):=by rw[Lib.cell_of_heap T7,←HWN.out];rfl
              have t2:w7.cell? ⟨g15,2,none⟩=some (.int .i64 e.to):=by rw[Lib.cell_of_heap T7];rfl
              have HT7:=hid T7
              have c9:=(HI7.out.at'.cell 9).1
              simp only[rfCells,List.getElem?_toArray,List.getElem?_cons_succ,List.getElem?_cons_zero]at c9
              clear h7 ro7 tr7 ho7 hn7 T7 HC
              have hU:=HU.out
              simp only at hU
              by_cases he7:q7.err=0
              ·rw[if_neg (by simpa using he7)]at hU
               have he71:(q7.err !=0)=false:=by rw[he7];rfl
               have hkq7:q7.known.length≤1000000:=by have h1:(q7.known.length:Int)≤q7.used:=HWO.out.1.few;have h2:q7.used≤f.c.fuel:=HWO.out.1.used1;omega
               have hB7:f.B0≤w7.heap.size:=by have:=HI7.out.only.size;omega
               have HSAY:=hid (rsay_any w7 f kv7 dp q7 2 e.what pv tv HI7.out.at' hkq7 hB7)
               rw[HWN.out]at HSAY
               have HU3:=hid hU
               have hg7:=heap_lt HT7.out
               clear hU he7 HU
               go_wp2_with fail
               refine HSAY.out.mono ?_
               rintro e8 w8 ⟨rfl,ho8,kv8,h8,hn8⟩
               rw[←HWN.out]at h8
               have HI8:=hid (HI7.out.step ho8 hn8 h8)
               have t2:=(ho8.cell (o:=2) hg7 (RT_ne HI7.out.at' HT7.out (by decide) (by decide))).trans t2
               clear h8 ho8 hn8 HSAY c9 t1
               dsimp only
               have hU:=HU3.out
               by_cases htv:tv<0
               ·rw[if_pos htv]at hU
                have hti:decide (tv<0)=true:=by rw[decide_eq_true_eq];exact htv
                have HF:=hid (FL.out _ _ _ _ _ HI8.out hU)
                clear hU htv NX FL HU3
                go_wp2_with fail
                go_ret2
                exact HF.out
               ·rw[if_neg htv]at hU
                have hti:decide (tv<0)=false:=by rw[decide_eq_false_iff_not];exact htv
                have HG:=hid (NX.out (out,tv) _ _ _ _ HI8.out hU)
                clear hU htv NX FL HU3
                go_wp2_with fail
                go_roundg m
                case measure=>omega
                case rel=>exact⟨e.to,tv,_,out,kv8,rfl,rfl,HG⟩
              ·rw[if_pos (by simpa using he7)]at hU
               have he71:(q7.err !=0)=true:=by rw[bne_iff_ne];exact he7
               have HF:=hid (FL.out _ _ _ _ _ HI7.out hU)
               clear hU he7 NX FL HU
               go_wp2_with fail
               go_ret2
               exact HF.out
         ·have hd2:(e.kind==2)=false:=by rw[beq_eq_false_iff_ne];exact hk2
          by_cases hk3:e.kind=3
          ·as_aux_lemma=>
            have hd3:(e.kind==3)=true:=by rw[beq_iff_eq];exact hk3
            have hwr:=HEM.out.2.2 hk3
            obtain⟨wn,hwn⟩:∃wn:Nat,e.what=wn:=⟨e.what.toNat,by have:=hwr.1;omega⟩
            obtain⟨hsr1,hsr2⟩:=HRNG.out.preds _ hwr
            have hcs:f.c.preds=n.preds:=by obtain⟨wl,fu,de,e⟩:=HST.out.c;rw[e];rfl
            have hwl:wn<n.preds.length:=by rw[hwn,hcs]at hwr;have:=hwr.2;omega
            obtain⟨sb,so,sc,hsb,d3,cs1⟩:=HST4.out.drv.preds.nth hwl
            have x1:=cs1 wn hwl
            have e1:Drv.at0 f.c.preds e.what=n.preds[wn]:=by unfold Drv.at0;rw[hcs,hwn,Int.toNat_natCast,List.getD_eq_getElem?_getD,List.getElem?_eq_getElem hwl];rfl
            rw[←e1]at x1
            have HWN:=hid hwn
            rw[hwn]at t1
            obtain⟨nQ,hnQ⟩:∃m,n.preds.length=m:=⟨_,rfl⟩
            rw[hnQ]at d3 hwl
            have hwlI:(wn:Int)<(nQ:Int):=by omega
            have hnQ6:nQ≤65536:=by rw[←hnQ];have:=HST.out.ok.picks;omega
            have hpv:pv≤16384:=by omega
            have hs06:0≤Drv.at0 f.c.preds e.what∧Drv.at0 f.c.preds e.what≤1000000:=by
             have:=hsr1.1
             have:=hsr1.2
             have:=HST.out.ok.states
             rw[HSL.out]at*
             omega
            generalize hs0:Drv.at0 f.c.preds e.what=s0 at x1 hsr1 hsr2 hs06
            obtain⟨hs00,hs01⟩:=hs06
            have es0:IntKind.i64.wrap (s0+1)=s0+1:=w64 (by omega) (by omega)
            have HS0:=hid hs0
            have HSR1:=hid hsr1
            have HSR2:=hid hsr2
            have HK3:=hid hk3
            have hgl:=heap_lt HT4.out
            have hPl4:=heap_lt HI4.out.at'.blk
            have hkq:qi.known.length≤1000000:=by have h1:(qi.known.length:Int)≤qi.used+1:=HOK4.out.few;omega
            have hK:=rknow_any w4 f kv1 dp _ 1 e.what pv HI4.out.at' hkq
            unfold KnowP at hK
            rw[HWN.out]at hK
            clear hcs cs1 e1 hwn hnQ hs0 hsr1 hsr2 hk2 hk1 hk3 hwr
            cases hkn:Drv.know qi.known 1 e.what pv with
            | some tv=>
             have hkn2:Drv.know qi.known 1 (wn:Int) pv=some tv:=by rw[←HWN.out];exact hkn
             have hK2:Calls Try.prog 78 #[.pointer (some ⟨f.P,0,none⟩),.int .i64 1,.int .i64 wn,.int .i64 pv] w4 fun e w'=>e= .returned (.tuple #[.int .i64 tv,.bool true])∧w'=w4:=by rw[hkn2]at hK;exact hK
             have HK:=hid hK2
             have hU:=Drv.edgeR_known1 f.c (Drv.walkF f.c N d) (Drv.lookF f.c N d) (e:=e) pv out {qi with used:=qi.used+1} real HK3.out hkn
             clear hK hK2 hkn hkn2
             by_cases htv:tv<0
             ·rw[if_pos htv]at hU
              have hti:decide (tv<0)=true:=by rw[decide_eq_true_eq];exact htv
              have HF:=hid (FL.out _ _ _ _ _ HI4.out hU)
              clear hU htv NX FL
              go_wp2_with fail
              refine HK.out.mono ?_
              rintro e7 w7 ⟨rfl,rfl⟩
              dsimp only
              go_wp2_with fail
              go_ret2
              exact HF.out
             ·rw[if_neg htv]at hU
              have hti:decide (tv<0)=false:=by rw[decide_eq_false_iff_not];exact htv
              have HG:=hid (NX.out (out,pv) _ _ _ _ HI4.out hU)
              clear hU htv NX FL
              go_wp2_with fail
              refine HK.out.mono ?_
              rintro e7 w7 ⟨rfl,rfl⟩
              dsimp only
              go_wp2_with fail
              go_roundg m
              case measure=>omega
              case rel=>exact⟨e.to,pv,_,out,kv1,rfl,rfl,HG⟩
            | none=>
             have hkn2:Drv.know qi.known 1 (wn:Int) pv=none:=by rw[←HWN.out];exact hkn
             have hK2:Calls Try.prog 78 #[.pointer (some ⟨f.P,0,none⟩),.int .i64 1,.int .i64 wn,.int .i64 pv] w4 fun e w'=>e= .returned (.tuple #[.int .i64 0,.bool false])∧w'=w4:=by rw[hkn2]at hK;exact hK
             have HK:=hid hK2
             have hU:=Drv.edgeR_pred f.c (Drv.walkF f.c N d) (Drv.lookF f.c N d) (e:=e) pv out {qi with used:=qi.used+1} real HK3.out hkn _ rfl
             rw[HS0.out]at hU
             have HU:=hid hU
             clear hU hK hK2 hkn hkn2
             have hsp0:0≤qi.spec:=HOK4.out.spec0
             have hsp1:qi.spec≤64*(qi.used+1):=HOK4.out.spec1
             have hus:qi.used+1≤f.c.fuel:=HOK4.out.used1
             have hspw:IntKind.i64.wrap (qi.spec+1)=qi.spec+1:=w64 (by omega) (by omega)
             have c7:=(HI4.out.at'.cell 7).1
             have z7:=(HI4.out.at'.cell 7).2
             simp only[rfCells,List.getElem?_toArray,List.getElem?_cons_succ,List.getElem?_cons_zero]at c7
             go_wp2_with fail
             refine HK.out.mono ?_
             rintro e7 w7 ⟨rfl,hw7⟩
             obtain rfl:=hw7.symm
             dsimp only
             go_upto_region 41 with fail
             have h8:=HI4.out.at'.set (opn':=dp) (p':={qi with used:=qi.used+1,spec:=qi.spec+1}) 7 (.int .i64 (qi.spec+1)) rfl rfl
             have ho8:=Only.of_set w4 f.P 7 (.int .i64 (qi.spec+1))
             have HI8:=hid (HI4.out.step (ho8.more (S':=RT f kv1) fun _ _ e=>.inl e) (fun _ e=>.inl e) h8)
             have HT8:=hid ((ho8.block g15 hgl (fun e=>RT_ne HI4.out.at' HT4.out (by decide) (by decide) (.inl e))).trans HT4.out)
             have HST8:=hid (HST.out.below (HI8.out.only.below' (B:=f.B0) (fun j e=>(HLT.out j e).1) (by omega)))
             have d3:=(ho8.cell (o:=3) (show f.D<w4.heap.size by omega) (fun e=>by have e:f.D=f.P:=e;omega)).trans d3
             have x1:=(ho8.cell (o:=so+wn) (show sb<w4.heap.size by omega) (fun e=>by have e:sb=f.P:=e;omega)).trans x1
             have hs8:w4.heap.size≤(w4.setCell ⟨f.P,7,none⟩ (.int .i64 (qi.spec+1))).heap.size:=ho8.size
             clear t0 t1 t2 c0 c1 c7 z7 h8 ho8 HK
             generalize w4.setCell ⟨f.P,7,none⟩ (.int .i64 (qi.spec+1))=w8 at HI8 HT8 HST8 d3 x1 hs8⊢
             have c0:=(HI8.out.at'.cell 0).1
             simp only[rfCells,List.getElem?_toArray,List.getElem?_cons_zero]at c0
             have t1:w8.cell? ⟨g15,1,none⟩=some (.int .i64 wn):=by rw[Lib.cell_of_heap HT8.out,←HWN.out];rfl
             have hg8:=heap_lt HT8.out
             have KEEP:=hid (fun(w':World) (kv9:Value) (q9:Drv.PS) (ho:Only (RT f kv1) w8.drew w') (h9:RpAt w' f kv9 dp q9)=>(show w'.cell? ⟨f.P,0,none⟩=some (.pointer (some ⟨f.D,0,none⟩))∧w'.cell? ⟨f.D,3,none⟩=some (.slice (some ⟨sb,so,none⟩) nQ sc)∧w'.cell? ⟨g15,1,none⟩=some (.int .i64 wn)∧w'.cell? ⟨sb,so+wn,none⟩=some (.int .i64 s0)from
              ⟨(by have:=(h9.cell 0).1;simpa only[rfCells,List.getElem?_toArray,List.getElem?_cons_zero]using this),
               (ho.cell (o:=3) (show f.D<w8.heap.size by omega) (fun e=>by have:=(HI4.out.at'.lt f.D e).1;omega)).trans d3,
               (ho.cell (o:=1) hg8 (RT_ne HI8.out.at' HT8.out (by decide) (by decide))).trans t1,
               (ho.cell (o:=so+wn) (show sb<w8.heap.size by omega) (fun e=>by have:=(HI4.out.at'.lt sb e).1;omega)).trans x1⟩))
             have hLC:=rlook_any f n au N d HW.out w8.drew kv1 s0 (s0+1) pv {qi with used:=qi.used+1} (by rw[HDP.out];exact HI8.out.at'.only (S:=fun _=>False) ⟨rfl,rfl,rfl,Nat.le_refl _,fun _ _ _=>rfl⟩ fun _ _ e=>e) (HST8.out.below (show Below f.B0 w8 w8.drew from⟨rfl,rfl,rfl,Nat.le_refl _,fun _ _=>rfl⟩)) HSR1.out HSR2.out HOK4.out (show qi.spec+1≤64*(qi.used+1) by omega) hp0 (by rw[HLW.out];exact hp1)
             rw[HDP.out]at hLC
             have hLO:=Drv.lookF_ok (Drv.walkF_ok HRNG.out HVAL.out N d hd) s0 (s0+1) pv {qi with used:=qi.used+1} HSR1.out HSR2.out HOK4.out (show qi.spec+1≤64*(qi.used+1) by omega) hp0 (by rw[HLW.out];exact hp1)
             generalize hrr:Drv.lookF f.c N d s0 (s0+1) pv {qi with used:=qi.used+1}=rr at hLC HU hLO
             have HLC:=hid hLC
             have HLO:=hid hLO
             have hs00I:(0:Int)≤s0:=hs00
             clear hLC hLO hrr
             go_region_held3 (fun w'=>w'.cell? ⟨f.P,0,none⟩=some (.pointer (some ⟨f.D,0,none⟩))∧w'.cell? ⟨f.D,3,none⟩=some (.slice (some ⟨sb,so,none⟩) nQ sc)∧w'.cell? ⟨g15,1,none⟩=some (.int .i64 wn)∧w'.cell? ⟨sb,so+wn,none⟩=some (.int .i64 s0)) (first | assumption | exact⟨c0,d3,t1,x1⟩ | exact KEEP.out _ _ _ ho9 h9) (first | (go_simp;go_at_call 80;refine HLC.out.mono ?_;rintro e w9 ⟨A9,m9,c9,kv9,rfl,h9,ho9,hn9⟩;dsimp only))
             have ho89:Only (RT f kv1) w8 w9:=(show Only (RT f kv1) w8 w8.drew from⟨rfl,rfl,rfl,Nat.le_refl _,fun _ _ _=>rfl⟩).trans (show Only (RT f kv1) w8.drew w9 from ho9) fun _ _ e=>e
             have hn89:∀k',kv9.ownBlock=some k'→kv1.ownBlock=some k'∨w8.heap.size≤k':=hn9
             obtain⟨tv,q9⟩:=rr
             dsimp only at h9⊢
             have HI9:=hid (HI8.out.step ho89 hn89 h9)
             have T9:=(ho89.block g15 hg8 (RT_ne HI8.out.at' HT8.out (by decide) (by decide))).trans HT8.out
             have t1:w9.cell? ⟨g15,1,none⟩=some (.int .i64 wn):=by rw[Lib.cell_of_heap T9,←HWN.out];rfl
             have t2:w9.cell? ⟨g15,2,none⟩=some (.int .i64 e.to):=by rw[Lib.cell_of_heap T9];rfl
             have HT9:=hid T9
             have c9':=(HI9.out.at'.cell 9).1
             simp only[rfCells,List.getElem?_toArray,List.getElem?_cons_succ,List.getElem?_cons_zero]at c9'
             clear h9 ho9 hn9 ho89 hn89 T9 KEEP HLC c0 d3 x1
             have hU:=HU.out
             simp only at hU
             by_cases he9:q9.err=0
             ·rw[if_neg (by simpa using he9)]at hU
              have he91:(q9.err !=0)=false:=by rw[he9];rfl
              have hkq9:q9.known.length≤1000000:=by have h1:(q9.known.length:Int)≤q9.used:=HLO.out.1.few;have h2:q9.used≤f.c.fuel:=HLO.out.1.used1;omega
              have hB9:f.B0≤w9.heap.size:=by have:=HI9.out.only.size;omega
              have htv:tv= -1∨(pv≤tv∧tv≤f.c.w.length):=HLO.out.2.2
              have hg9:=heap_lt HT9.out
              rcases htv with rfl | ⟨htv,_⟩
              ·have HSAY:=hid (rsay_any w9 f kv9 dp q9 1 e.what pv (-1) HI9.out.at' hkq9 hB9)
               rw[HWN.out]at HSAY
               have hm:min (-1:Int) 0= -1:=rfl
               rw[hm,if_pos (by decide)]at hU
               have HU3:=hid hU
               clear hU he9 HU hm NX
               go_wp2_with fail
               refine HSAY.out.mono ?_
               rintro e8 w10 ⟨rfl,ho10,kv10,h10,hn10⟩
               rw[←HWN.out]at h10
               have HF:=hid (FL.out _ _ _ _ _ (HI9.out.step ho10 hn10 h10) HU3.out)
               clear h10 ho10 hn10 HSAY c9' t1 t2
               dsimp only
               go_wp2_with fail
               go_ret2
               exact HF.out
              ·have htv0:(0:Int)≤tv:=by omega
               have HSAY:=hid (rsay_any w9 f kv9 dp q9 1 e.what pv 0 HI9.out.at' hkq9 hB9)
               rw[HWN.out]at HSAY
               have hm:min tv 0=0:=by omega
               rw[hm,if_neg (by decide)]at hU
               have HU3:=hid hU
               clear hU he9 HU FL
               go_wp2_with fail
               refine HSAY.out.mono ?_
               rintro e8 w10 ⟨rfl,ho10,kv10,h10,hn10⟩
               rw[←HWN.out]at h10
               have HG:=hid (NX.out (out,pv) _ _ _ _ (HI9.out.step ho10 hn10 h10) HU3.out)
               have t2:=(ho10.cell (o:=2) hg9 (RT_ne HI9.out.at' HT9.out (by decide) (by decide))).trans t2
               clear h10 ho10 hn10 HSAY c9' t1 NX
               dsimp only
               go_wp2_with fail
               go_roundg m
               case measure=>omega
               case rel=>exact⟨e.to,pv,_,out,kv10,rfl,rfl,HG⟩
             ·rw[if_pos (by simpa using he9)]at hU
              have he91:(q9.err !=0)=true:=by rw[bne_iff_ne];exact he9
              have HF:=hid (FL.out _ _ _ _ _ HI9.out hU)
              clear hU he9 NX FL HU
              go_wp2_with fail
              go_ret2
              exact HF.out
          ·have hd3:(e.kind==3)=false:=by rw[beq_eq_false_iff_ne];exact hk3
           have HG:=hid (NX.out (out,pv) _ _ _ _ HI4.out (by unfold Drv.edgeR;rw[if_neg hk1,if_neg hk2,if_neg hk3]))
           clear hk1 hk2 hk3 FL NX
           go_wp2_with fail
           go_roundg m
           case measure=>omega
           case rel=>exact⟨e.to,pv,_,out,kv1,rfl,rfl,HG⟩
    ·have he0:(qi.err !=0)=true:=by rw[bne_iff_ne];exact herr
     rw[if_pos (.inl herr)]at hr1
     have hF:=HJ.out.I.fail
     simp only at hF
     rw[hr1]at hF
     have HF:=hid hF
     clear hF hr1 herr
     go_wp2_with fail
     go_ret2
     exact HF.out
end Go.Proofs.Ytgflanlniejflaa
