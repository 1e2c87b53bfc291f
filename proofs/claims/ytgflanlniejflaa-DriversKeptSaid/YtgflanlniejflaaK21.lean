/-
  Drivers: Pst16, Pst17 (texts joined).
-/
import Derived.Test.YtgflanlniejflaaK03
import Derived.Test.YtgflanlniejflaaK14
import Derived.Test.YtgflanlniejflaaK20
namespace Go.Proofs.Ytgflanlniejflaa
open Go.RowKit Go.Maps
open Go.Sort (grow)
set_option maxRecDepth 100000
def StepP (f:Fx) (k:Drv.Cf) (w:World) (r:Ending) (w':World):Prop:=r= .returned (.tuple #[])∧Below f.B0 w w'∧∃v',PstAt w' f v' (Drv.stepM f.c k)
set_option maxHeartbeats 3200000 in
theorem stepP_any (w:World) (f:Fx) (v:Vx) (k:Drv.Cf) (autos:List (List Drv.LSt)) (hl:Lim f) (h:PstAt w f v k) (hc:Drv.COk f.c k) (hs:Drv.SOk k) (hb:Drv.BOk k) (he:k.ended=false)
 (hA:Auts w f autos) (hg:Drv.Rng f.c) (hv:Drv.Val f.c) (hst:f.c.stops.length=f.c.starts.length) (hS:f.c.states.length≤1000000) (hE:∀s∈f.c.states,s.edges.length≤1000000):
 Calls Try.prog 34 #[.pointer (some ⟨f.P,0,none⟩)] w (StepP f k w):=by
 obtain⟨x,rest,ho⟩:=bok_ne hb he
 obtain⟨vo,g,gs,s,ss,rfl,_⟩:=h.split ho
 have hx:=hc.wk x (by rw[ho];simp)
 obtain⟨sn,hsn,hslt⟩:=InR.nat hx.1
 obtain⟨on,hon,holt⟩:=InR.nat hx.2.1
 have hsta:=hA.sta
 obtain⟨DA,Dc,db,doff,EA,ec,XA,xc,rfl,hdb,d0,s0,s1,s2,rE,rX⟩:=hsta.state hslt
 have hstep:Drv.stepM f.c k=(if x.state=x.over then Drv.wellM k else if f.c.states[sn].ends.length≠0 then(match (Drv.decidesM f.c (f.c.dec sn) k).1 with
  | some alt=>if alt= -1 then Drv.failsM f.c (Drv.decidesM f.c (f.c.dec sn) k).2 else Drv.goesM f.c (f.c.states[sn].ed alt) (Drv.decidesM f.c (f.c.dec sn) k).2
  | none=>(Drv.decidesM f.c (f.c.dec sn) k).2)else if f.c.states[sn].edges.length=0 then Drv.failsM f.c k else Drv.goesM f.c (f.c.states[sn].ed 0) k):=by
  unfold Drv.stepM
  simp only[ho,hsn,st_at hslt]
  rfl
 have HSTEP:=hid hstep
 obtain⟨r3,t3,q3,bb3,s3,hpar3,_⟩:=h.par
 have c0:=(hpar3.cell 0).1
 simp only[parCells,List.getElem?_toArray,List.getElem?_cons_zero]at c0
 have hW:=h.walks 0 x g s (by rw[ho];rfl) rfl rfl
 obtain⟨A0,ca0,xs0,g0,_⟩:=hW
 obtain⟨_,_,_,k3,k4,_,_⟩:=walk_cells g0
 have hsz:=hc.size
 have hld:=hl.depth
 have hPlt:=h.ltTS f.P (.inl rfl)
 have hMlt:=h.ltTS f.pc.M (.inr (.inl (.inl rfl)))
 have hglt:=heap_lt g0
 have hPge:=h.geP
 have hDlt:=hsta.dlt
 have hTop:=topP_any w f vo s g gs ss k x rest h ho (by omega)
 have HL:=hid hl
 have H:=hid h
 have HC:=hid hc
 have HS:=hid hs
 have HB:=hid hb
 have HE:=hid he
 have HA:=hid hA
 have HO:=hid ho
 have hee:=hE _ (List.getElem_mem hslt)
 have hEN:=hid (show(f.c.st x.state)=f.c.states[sn] by rw[hsn,st_at hslt])
 generalize hsx:f.c.states[sn]=sx at*
 obtain⟨nE,hnE⟩:∃nE,sx.edges.length=nE:=⟨_,rfl⟩
 obtain⟨nX,hnX⟩:∃nX,sx.ends.length=nX:=⟨_,rfl⟩
 rw[hsn]at k3
 rw[hon]at k4
 rw[hnE]at s1
 rw[hnX]at s2
 obtain⟨nS,hnS⟩:∃nS,f.c.states.length=nS:=⟨_,rfl⟩
 rw[hnS]at d0 hslt
 have HNS:=hid hnS
 have HNE:=hid hnE
 have HNX:=hid hnX
 have RE:=hid rE
 have hsl2:(sn:Int)<(nS:Int):=by omega
 clear h hl hc hs hb he hA hstep hsta ho rE rX hnE hnX hpar3 g0 hnS hE
 go_enter Try.func34,Try.ntmps34
 go_wp2_with fail
 refine hTop.mono ?_
 rintro e w1 ⟨rfl,ho1⟩
 have c0:=(ho1.cell (o:=0) hPlt (fun e=>e)).trans c0
 have k3:=(ho1.cell (o:=3) hglt (fun e=>e)).trans k3
 have k4:=(ho1.cell (o:=4) hglt (fun e=>e)).trans k4
 have d0:=(ho1.cell (o:=0) (show f.pc.D<w.heap.size by omega) (fun e=>e)).trans d0
 have s0:=(ho1.cell (o:=doff+sn*3) (show db<w.heap.size by omega) (fun e=>e)).trans s0
 have s1:=(ho1.cell (o:=doff+sn*3+1) (show db<w.heap.size by omega) (fun e=>e)).trans s1
 have s2:=(ho1.cell (o:=doff+sn*3+2) (show db<w.heap.size by omega) (fun e=>e)).trans s2
 have HP1:=hid (H.out.still ho1)
 have HB1:=hid (ho1.below' (B:=f.B0) (fun _ e=>e.elim) (by omega))
 have hsz1:=ho1.size
 clear ho1 hTop H
 go_upto_region 1 with fail
 have hS1:∀o:Obj,(w1.alloc o).drew.cell? ⟨f.P,0,none⟩=some (.pointer (some ⟨f.pc.D,0,none⟩))∧(w1.alloc o).drew.cell? ⟨f.pc.D,0,none⟩=some (.slice (some ⟨db,doff,none⟩) nS Dc)∧(w1.alloc o).drew.cell? ⟨g,3,none⟩=some (.int .i64 sn)∧(w1.alloc o).drew.cell? ⟨db,doff+sn*3,none⟩=some (.int .i64 sx.rule)∧(w1.alloc o).drew.cell? ⟨db,doff+sn*3+1,none⟩=some (.slice EA nE ec)∧(w1.alloc o).drew.cell? ⟨db,doff+sn*3+2,none⟩=some (.slice XA nX xc):=fun o=>by
  have hn:∀(b i:Nat),b<w1.heap.size→(w1.alloc o).drew.cell? ⟨b,i,none⟩=w1.cell? ⟨b,i,none⟩:=fun b i hb=>(below_new w1 o).drew.cell (p:=⟨b,i,none⟩) hb
  exact⟨(hn _ _ (by omega)).trans c0,(hn _ _ (by omega)).trans d0,(hn _ _ (by omega)).trans k3,(hn _ _ (by omega)).trans s0,(hn _ _ (by omega)).trans s1,(hn _ _ (by omega)).trans s2⟩
 go_region_held3 (fun w'=>w'.cell? ⟨f.P,0,none⟩=some (.pointer (some ⟨f.pc.D,0,none⟩))∧w'.cell? ⟨f.pc.D,0,none⟩=some (.slice (some ⟨db,doff,none⟩) nS Dc)∧w'.cell? ⟨g,3,none⟩=some (.int .i64 sn)∧w'.cell? ⟨db,doff+sn*3,none⟩=some (.int .i64 sx.rule)∧w'.cell? ⟨db,doff+sn*3+1,none⟩=some (.slice EA nE ec)∧w'.cell? ⟨db,doff+sn*3+2,none⟩=some (.slice XA nX xc)) (first | assumption | exact⟨c0,d0,k3,s0,s1,s2⟩ | exact hS1 _) (fail)
 have T2:(w1.alloc (.cells #[.int .i64 sx.rule,.slice EA nE ec,.slice XA nX xc] 47)).drew.heap[w1.heap.size]? =some (.cells #[.int .i64 sx.rule,.slice EA nE ec,.slice XA nX xc] 47 (0,0)):=heap_alloc_new w1 _
 have hsz2:(w1.alloc (.cells #[.int .i64 sx.rule,.slice EA nE ec,.slice XA nX xc] 47)).drew.heap.size=w1.heap.size+1:=size_alloc w1 _
 have ho2:Only (fun _=>False) w1 (w1.alloc (.cells #[.int .i64 sx.rule,.slice EA nE ec,.slice XA nX xc] 47)).drew:=Only.of_below (below_new w1 _).drew
 generalize (w1.alloc (.cells #[.int .i64 sx.rule,.slice EA nE ec,.slice XA nX xc] 47)).drew=w2 at T2 hsz2 ho2⊢
 generalize htb:w1.heap.size=tb at*
 have c0:=(ho2.cell (o:=0) (by omega) (fun e=>e)).trans c0
 have k3:=(ho2.cell (o:=3) (show g<w1.heap.size by omega) (fun e=>e)).trans k3
 have k4:=(ho2.cell (o:=4) (show g<w1.heap.size by omega) (fun e=>e)).trans k4
 have HP2:=hid (HP1.out.still ho2)
 have HB2:=hid (HB1.out.trans (ho2.below' (B:=f.B0) (fun _ e=>e.elim) (by omega)))
 obtain⟨b0,b1,b2⟩:=cells3e T2
 have HT2:=hid T2
 clear hS1 s0 s1 s2 d0 T2 ho2 HP1 HB1
 have hPlt2:=HP2.out.ltTS f.P (.inl rfl)
 have hglt2:g<w2.heap.size:=by omega
 have hDlt2:f.pc.D<w2.heap.size:=by omega
 by_cases hov:(sn:Int)=on
 ·have hd1:((sn:Int)==(on:Int))=true:=by simpa using hov
  have HST:=hid (HSTEP.out.trans (if_pos (by rw[hsn,hon];exact hov)))
  have HW:∀nq,Calls Try.prog 58 #[.pointer (some ⟨f.P,0,none⟩)] (w2.drewN nq) fun r w'=>r= .returned (.tuple #[])∧Hid (StepP f k w r w'):=fun nq=>by
   have hod:Only (fun _=>False) w2 (w2.drewN nq):=⟨rfl,rfl,rfl,Nat.le_refl _,fun _ _ _=>rfl⟩
   have hbd:Below f.B0 w2 (w2.drewN nq):=hod.below' (fun _ e=>e.elim) (by omega)
   refine(wellP_any (w2.drewN nq) f ⟨vo,g ::gs,s ::ss⟩ k x rest HL.out (HP2.out.still hod) HC.out HO.out ((HA.out.sta.below HB2.out).below hbd) hg).mono ?_
   rintro r w' ⟨rfl,hb3,v3,hP3⟩
   exact⟨rfl,rfl,(HB2.out.trans hbd).trans hb3,v3,by rw[HST.out];exact hP3⟩
  clear hov
  go_upto_region 3 with fail
  go_quiet (fail)
  go_wp2_with fail
  refine(HW _).mono ?_
  rintro r w' ⟨rfl,hfin⟩
  go_wp2
  go_end0
  exact hfin.out
 ·have hd1:((sn:Int)==(on:Int))=false:=by simpa using hov
  have HST:=hid (HSTEP.out.trans (if_neg (by rw[hsn,hon];exact hov)))
  clear hov HSTEP
  go_upto_region 3 with fail
  go_quiet (fail)
  generalize hw3:w2.drewN _=w3
  have ho3:Only (fun _=>False) w2 w3:=by rw[←hw3];exact⟨rfl,rfl,rfl,Nat.le_refl _,fun _ _ _=>rfl⟩
  have HP3:=hid (HP2.out.still ho3)
  have HB3:=hid (HB2.out.trans (ho3.below' (B:=f.B0) (fun _ e=>e.elim) (by omega)))
  have hsz3:=ho3.size
  have HT3:=hid ((ho3.block tb (by omega) (fun e=>e)).trans HT2.out)
  have c0:=(ho3.cell (o:=0) hPlt2 (fun e=>e)).trans c0
  have k3:=(ho3.cell (o:=3) hglt2 (fun e=>e)).trans k3
  clear b0 b1 b2 ho3 hw3 HP2 HB2 HT2 k4
  obtain⟨b0,b1,b2⟩:=cells3e HT3.out
  have GO:∀(w4:World) (i:Nat) (hi:i<sx.edges.length),Below f.B0 w w4→PstAt w4 f ⟨vo,g ::gs,s ::ss⟩ k→Drv.stepM f.c k=Drv.goesM f.c sx.edges[i] k→
   Calls Try.prog 61 #[.pointer (some ⟨f.P,0,none⟩),.pointer (some ⟨g,0,none⟩),.agg #[.int .u8 sx.edges[i].kind,.int .i64 sx.edges[i].what,.int .i64 sx.edges[i].to]] w4 fun r w'=>r= .returned (.tuple #[])∧Hid (StepP f k w r w'):=fun w4 i hi hb4 hP4 hsm=>by
   refine(goesP_any w4 f vo s g gs ss k x rest sx.edges[i] HL.out hP4 HO.out HC.out HS.out HB.out HE.out (HA.out.sta.below hb4) hg hst hS (by rw[hEN.out];exact List.getElem_mem hi)).mono ?_
   rintro r w' ⟨rfl,hb5,v5,hP5⟩
   exact⟨rfl,rfl,hb4.trans hb5,v5,by rw[hsm];exact hP5⟩
  have FA:∀(w4:World),Below f.B0 w w4→PstAt w4 f ⟨vo,g ::gs,s ::ss⟩ k→Drv.stepM f.c k=Drv.failsM f.c k→
   Calls Try.prog 60 #[.pointer (some ⟨f.P,0,none⟩)] w4 fun r w'=>r= .returned (.tuple #[])∧Hid (StepP f k w r w'):=fun w4 hb4 hP4 hsm=>by
   refine(failsP_any w4 f ⟨vo,g ::gs,s ::ss⟩ k HL.out hP4 HC.out HB.out HS.out HE.out (HA.out.sta.below hb4) hg).mono ?_
   rintro r w' ⟨rfl,hb5,v5,hP5⟩
   exact⟨rfl,rfl,hb4.trans hb5,v5,by rw[hsm];exact hP5⟩
  have GO:=hid GO
  have FA:=hid FA
  have edAt:∀i (hi:i<sx.edges.length),sx.ed (i:Int)=sx.edges[i]:=fun i hi=>ed_at hi
  have EDAT:=hid edAt
  clear edAt
  by_cases hx0:nX=0
  ·have HST:=hid (HST.out.trans (if_neg (by rw[HNX.out];exact fun e=>e hx0)))
   subst hx0
   by_cases he0:nE=0
   ·have HST:=hid (HST.out.trans (if_pos (by rw[HNE.out];exact he0)))
    subst he0
    go_upto_region 12 with fail
    go_wp2_with fail
    refine(FA.out _ HB3.out HP3.out HST.out).mono ?_
    rintro r w' ⟨rfl,hfin⟩
    go_wp2
    go_end0
    exact hfin.out
   ·have HST:=hid (HST.out.trans (if_neg (by rw[HNE.out];exact he0)))
    have hi:0<sx.edges.length:=by rw[HNE.out];omega
    have hgo:=GO.out w3 0 hi HB3.out HP3.out (by rw[HST.out];congr 1;exact EDAT.out 0 hi)
    obtain⟨eb,eoff,hEA,heb,e0,e1,e2⟩:=(RE.out.below HB3.out).getE hi
    subst hEA
    simp only[Nat.zero_mul,Nat.add_zero]at e0 e1 e2
    have hd2:((nE:Int)==0)=false:=by simpa using he0
    have hnE0:0<nE:=by omega
    have hnE1:(0:Int)<(nE:Int):=by omega
    generalize sx.edges[0]=ex at*
    obtain⟨ek,ew,et⟩:=ex
    have HGO:=hid hgo
    clear hgo he0
    go_wp2_with fail
    refine HGO.out.mono ?_
    rintro r w' ⟨rfl,hfin⟩
    go_wp2
    go_end0
    exact hfin.out
  ·have HST:=hid (HST.out.trans (if_pos (by rw[HNX.out];exact hx0)))
   have hd2:decide (0<nX)=true:=by rw[decide_eq_true_eq];omega
   have hd3:decide ((0:Int)<(nX:Int))=true:=by rw[decide_eq_true_eq];omega
   go_upto_region 6 with fail
   obtain⟨pl,hpl1,hpl2,hpl3⟩:=(HA.out.below HB3.out).place
   have hsp:sn<pl.length:=by rw[hpl2,HNS.out];exact hslt
   obtain⟨pb,poff,pc,hpb,d6,p6⟩:=hpl1.get hsp
   have hdec:(f.c.st (sn:Int)).ends.length≠0:=by
    have:=hEN.out
    rw[hsn]at this
    rw[this,HNX.out];exact hx0
   rw[hpl3 sn hsp hdec]at p6
   rw[hpl2,HNS.out]at d6
   generalize hdv:f.c.dec (sn:Int)=dv at*
   have HDV:=hid hdv
   have hod:Only (fun _=>False) w3 w3.drew:=⟨rfl,rfl,rfl,Nat.le_refl _,fun _ _ _=>rfl⟩
   have HP4:=hid (HP3.out.still hod)
   have HB4:=hid (HB3.out.trans (hod.below' (B:=f.B0) (fun _ e=>e.elim) (by omega)))
   have hD:=decidesP_any w3.drew f ⟨vo,g ::gs,s ::ss⟩ k (sn:Int) autos HL.out HP4.out HC.out HS.out (HA.out.below HB4.out) hg hv hdec
   have HCD:=hid ((HC.out.decides hg hv hdec).2)
   rw[hdv]at hD HCD
   have HDEC:=hid (show Drv.at0 f.c.decs dv=(sn:Int) by rw[←hdv];exact hv.dec _ hdec)
   have HD:=hid hD
   have hsl3:(sn:Int)<(nS:Int):=by omega
   clear hod hdv hdec hpl1 hpl2 hpl3 hD hx0 b0 b1 b2
   refine wp_region_late (l:=14) (S:=(fun w'=>w'.cell? ⟨f.P,0,none⟩=some (.pointer (some ⟨f.pc.D,0,none⟩))∧w'.cell? ⟨f.pc.D,6,none⟩=some (.slice (some ⟨pb,poff,none⟩) nS pc)∧w'.cell? ⟨g,3,none⟩=some (.int .i64 sn)∧w'.cell? ⟨pb,poff+sn,none⟩=some (.int .i64 dv))) (by kernel_rfl) ⟨c0,d6,k3,p6⟩ (fun hHeld=>?_)
   refine wpAnyF_take2 (i:=0) (.pointer (some ⟨f.P,0,none⟩)) (by kernel_rfl) rfl (by decide) (by kernel_rfl) (by kernel_rfl) (by kernel_rfl) (by kernel_rfl) (fun _ _ _ h=>h) hHeld (by rfl) (fun w' hSw=>?_) ?_
   ·obtain⟨c0,d6,k3,p6⟩:=hSw;go_simp
   simp only[Act.put]
   refine wpAnyF_take2 (i:=1) (.pointer (some ⟨f.P,0,none⟩)) (by kernel_rfl) rfl (by decide) (by kernel_rfl) (by kernel_rfl) (by kernel_rfl) (by kernel_rfl) (fun _ _ _ h=>h) hHeld (by rfl) (fun w' hSw=>?_) ?_
   ·obtain⟨c0,d6,k3,p6⟩:=hSw;go_simp
   simp only[Act.put]
   refine wpAnyF_take2 (i:=2) (.pointer (some ⟨f.P,0,none⟩)) (by kernel_rfl) rfl (by decide) (by kernel_rfl) (by kernel_rfl) (by kernel_rfl) (by kernel_rfl) (fun _ _ _ h=>h) hHeld (by rfl) (fun w' hSw=>?_) ?_
   ·obtain⟨c0,d6,k3,p6⟩:=hSw;go_simp
   simp only[Act.put]
   refine wpAnyF_take2 (i:=3) (.pointer (some ⟨f.P,0,none⟩)) (by kernel_rfl) rfl (by decide) (by kernel_rfl) (by kernel_rfl) (by kernel_rfl) (by kernel_rfl) (fun _ _ _ h=>h) hHeld (by rfl) (fun w' hSw=>?_) ?_
   ·obtain⟨c0,d6,k3,p6⟩:=hSw;go_simp
   simp only[Act.put]
   refine wpAnyF_take2 (i:=4) (.pointer (some ⟨f.pc.D,0,none⟩)) (by kernel_rfl) rfl (by decide) (by kernel_rfl) (by kernel_rfl) (by kernel_rfl) (by kernel_rfl) (fun _ _ _ h=>h) hHeld (by rfl) (fun w' hSw=>?_) ?_
   ·obtain⟨c0,d6,k3,p6⟩:=hSw;go_simp
   simp only[Act.put]
   refine wpAnyF_take2 (i:=5) (.pointer (some ⟨f.pc.D,0,none⟩)) (by kernel_rfl) rfl (by decide) (by kernel_rfl) (by kernel_rfl) (by kernel_rfl) (by kernel_rfl) (fun _ _ _ h=>h) hHeld (by rfl) (fun w' hSw=>?_) ?_
   ·obtain⟨c0,d6,k3,p6⟩:=hSw;go_simp
   simp only[Act.put]
   refine wpAnyF_take2 (i:=6) (.pointer (some ⟨f.pc.D,6,none⟩)) (by kernel_rfl) rfl (by decide) (by kernel_rfl) (by kernel_rfl) (by kernel_rfl) (by kernel_rfl) (fun _ _ _ h=>h) hHeld (by rfl) (fun w' hSw=>?_) ?_
   ·obtain⟨c0,d6,k3,p6⟩:=hSw;go_simp
   simp only[Act.put]
   refine wpAnyF_take2 (i:=7) (.slice (some ⟨pb,poff,none⟩) nS pc) (by kernel_rfl) rfl (by decide) (by kernel_rfl) (by kernel_rfl) (by kernel_rfl) (by kernel_rfl) (fun _ _ _ h=>h) hHeld (by rfl) (fun w' hSw=>?_) ?_
   ·obtain⟨c0,d6,k3,p6⟩:=hSw;go_simp
   simp only[Act.put]
   refine wpAnyF_take2 (i:=8) (.pointer (some ⟨g,0,none⟩)) (by kernel_rfl) rfl (by decide) (by kernel_rfl) (by kernel_rfl) (by kernel_rfl) (by kernel_rfl) (fun _ _ _ h=>h) hHeld (by rfl) (fun w' hSw=>?_) ?_
   ·obtain⟨c0,d6,k3,p6⟩:=hSw;go_simp
   simp only[Act.put]
   refine wpAnyF_take2 (i:=9) (.pointer (some ⟨g,0,none⟩)) (by kernel_rfl) rfl (by decide) (by kernel_rfl) (by kernel_rfl) (by kernel_rfl) (by kernel_rfl) (fun _ _ _ h=>h) hHeld (by rfl) (fun w' hSw=>?_) ?_
   ·obtain⟨c0,d6,k3,p6⟩:=hSw;go_simp
   simp only[Act.put]
   refine wpAnyF_take2 (i:=10) (.pointer (some ⟨g,3,none⟩)) (by kernel_rfl) rfl (by decide) (by kernel_rfl) (by kernel_rfl) (by kernel_rfl) (by kernel_rfl) (fun _ _ _ h=>h) hHeld (by rfl) (fun w' hSw=>?_) ?_
   ·obtain⟨c0,d6,k3,p6⟩:=hSw;go_simp
   simp only[Act.put]
   refine wpAnyF_take2 (i:=11) (.int .i64 sn) (by kernel_rfl) rfl (by decide) (by kernel_rfl) (by kernel_rfl) (by kernel_rfl) (by kernel_rfl) (fun _ _ _ h=>h) hHeld (by rfl) (fun w' hSw=>?_) ?_
   ·obtain⟨c0,d6,k3,p6⟩:=hSw;go_simp
   simp only[Act.put]
   refine wpAnyF_take2 (i:=12) (.pointer (some ⟨pb,poff+sn,none⟩)) (by kernel_rfl) rfl (by decide) (by kernel_rfl) (by kernel_rfl) (by kernel_rfl) (by kernel_rfl) (fun _ _ _ h=>h) hHeld (by rfl) (fun w' hSw=>?_) ?_
   ·obtain⟨c0,d6,k3,p6⟩:=hSw;go_simp
   simp only[Act.put]
   refine wpAnyF_take2 (i:=13) (.int .i64 dv) (by kernel_rfl) rfl (by decide) (by kernel_rfl) (by kernel_rfl) (by kernel_rfl) (by kernel_rfl) (fun _ _ _ h=>h) hHeld (by rfl) (fun w' hSw=>?_) ?_
   ·obtain⟨c0,d6,k3,p6⟩:=hSw;go_simp
   simp only[Act.put]
   refine wpAnyF_turn 14 (by kernel_rfl) rfl (by decide) (by decide) (fun K hK=>?_)
   go_simp
   go_at_call 59
   refine HD.out.mono ?_
   rintro e w5 ⟨alt,kn,rfl,hd5,hb5,v5,hP5,hv5⟩
   dsimp only
   refine hK _ _ ?_
   clear hK
   clear K
   refine wpAny_take (i:=15) (v:=.tuple #[.int .i64 alt,.bool kn]) rfl (by kernel_rfl) (by kernel_rfl) (by kernel_rfl) (fun _ _ _ h=>h) (Or.inl ⟨by rfl,fun w=>(by go_simp)⟩) ?_
   simp only[Act.put]
   refine wpAny_take (i:=16) (v:=.int .i64 alt) rfl (by kernel_rfl) (by kernel_rfl) (by kernel_rfl) (fun _ _ _ h=>h) (Or.inl ⟨by rfl,fun w=>(by go_simp)⟩) ?_
   simp only[Act.put]
   refine wpAny_take (i:=17) (v:=.bool kn) rfl (by kernel_rfl) (by kernel_rfl) (by kernel_rfl) (fun _ _ _ h=>h) (Or.inl ⟨by rfl,fun w=>(by go_simp)⟩) ?_
   simp only[Act.put]
   refine wpAny_take (i:=18) (v:=.int .i64 alt) rfl (by kernel_rfl) (by kernel_rfl) (by kernel_rfl) (fun _ _ _ h=>h) (Or.inl ⟨by rfl,fun w=>(by go_simp)⟩) ?_
   simp only[Act.put]
   refine wpAny_take (i:=19) (v:=.bool kn) rfl (by kernel_rfl) (by kernel_rfl) (by kernel_rfl) (fun _ _ _ h=>h) (Or.inl ⟨by rfl,fun w=>(by go_simp)⟩) ?_
   simp only[Act.put]
   refine wpAny_done (by kernel_rfl) ?_ _
   have HD5:=hid hd5
   have HP5:=hid hP5
   have HB5:=hid (HB4.out.trans hb5)
   cases kn with
   | false=>
    have HST2:=hid (show Drv.stepM f.c k=(Drv.decidesM f.c dv k).2 by rw[HST.out,HD5.out];rfl)
    clear hd5 hP5 hb5 hv5 c0 k3 d6 p6 hHeld
    go_wp2_with fail
    go_end0
    refine⟨rfl,HB5.out,v5,?_⟩
    rw[HST2.out]
    exact HP5.out
   | true=>
    obtain⟨rfl,hO5⟩:=hv5 rfl
    obtain⟨hk5,har⟩:=HCD.out alt (by rw[HD5.out];rfl)
    have HP6:Hid (PstAt w5 f ⟨vo,g ::gs,s ::ss⟩ k):=hid (by have:=HP5.out;rw[hk5]at this;exact this)
    have HST2:=hid (show Drv.stepM f.c k=(if alt= -1 then Drv.failsM f.c k else Drv.goesM f.c (sx.ed alt) k) by rw[HST.out,HD5.out,hk5];rfl)
    have hT5:=(hO5.block tb (show tb<w3.heap.size by omega) (show¬tb=f.pc.M by omega)).trans HT3.out
    obtain⟨b0,b1,b2⟩:=cells3e hT5
    rcases har with rfl | har
    ·have HST3:=hid (HST2.out.trans (if_pos rfl))
     have hfa:=FA.out w5 HB5.out HP6.out HST3.out
     clear hd5 hP5 hb5 hv5 c0 k3 d6 p6 hHeld hO5 hk5 hT5
     go_wp2_with fail
     refine hfa.mono ?_
     rintro r w' ⟨rfl,hfin⟩
     go_wp2
     go_end0
     exact hfin.out
    ·unfold Drv.alt1 at har
     rw[HDEC.out,←hsn,hEN.out]at har
     obtain⟨an,rfl,halt⟩:=InR.nat har
     have hne:((an:Int)== -1)=false:=by
      rw[beq_eq_false_iff_ne];omega
     have HST3:=hid (HST2.out.trans (if_neg (by omega)))
     have hgo:=GO.out w5 an halt HB5.out HP6.out (by rw[HST3.out];congr 1;exact EDAT.out an halt)
     obtain⟨eb,eoff,hEA,heb,e0,e1,e2⟩:=(RE.out.below HB5.out).getE halt
     subst hEA
     have han:an<nE:=by rw[←HNE.out];exact halt
     have han2:(an:Int)<(nE:Int):=by omega
     generalize sx.edges[an]=ex at*
     obtain⟨ek,ew,et⟩:=ex
     have HGO:=hid hgo
     clear hgo hd5 hP5 hb5 hv5 c0 k3 d6 p6 hHeld hO5 hk5 hT5 har halt
     go_wp2_with fail
     refine HGO.out.mono ?_
     rintro r w' ⟨rfl,hfin⟩
     go_wp2
     go_end0
     exact hfin.out
end Go.Proofs.Ytgflanlniejflaa
namespace Go.Proofs.Ytgflanlniejflaa
open Go.RowKit Go.Maps
open Go.Sort (grow)
set_option maxRecDepth 100000
namespace Drv
inductive RN (c:DC):Nat→Cf→Cf→Prop where
 | refl (k):RN c 0 k k
 | step {n k k'}:k.ended=false→RN c n (stepM c k) k'→RN c (n+1) k k'
theorem Reach.rn {c:DC}{k k':Cf}(h:Reach c k k'):∃n,RN c n k k':=by
 induction h with
 | refl _=>exact⟨0,.refl _⟩
 | step he _ ih=>
  obtain⟨n,hn⟩:=ih
  exact⟨n+1,.step he hn⟩
theorem RN.zero {c:DC}{n:Nat}{k k':Cf}(h:RN c n k k') (he:k.ended=true):k=k':=by
 cases h with
 | refl _=>rfl
 | step h1 _=>rw[he]at h1;cases h1
theorem RN.next {c:DC}{n:Nat}{k k':Cf}(h:RN c n k k') (he:k.ended=false) (hk:k'.ended=true):∃m,n=m+1∧RN c m (stepM c k) k':=by
 cases h with
 | refl _=>rw[he]at hk;cases hk
 | step _ h2=>exact⟨_,rfl,h2⟩
theorem Reach.det {c:DC}{k a b:Cf}(h:Reach c k a) (ha:a.ended=true) (g:Reach c k b) (hb:b.ended=true):a=b:=by
 induction h with
 | refl k=>
  cases g with
  | refl _=>rfl
  | step h1 _=>rw[ha]at h1;cases h1
 | step he _ ih=>
  cases g with
  | refl _=>rw[hb]at he;cases he
  | step _ g2=>exact ih ha g2
theorem sok0:SOk cf0:=⟨Int.le_refl _,Int.le_refl _⟩
theorem begin0 {c:DC}(hf:0≤c.fuel) (hg:Rng c) (h1:1≤c.starts.length):COk c (beginM c (top0 c) cf0)∧SOk (beginM c (top0 c) cf0)∧BOk (beginM c (top0 c) cf0):=by
 unfold beginM
 split
 ·exact⟨⟨Int.le_refl _,Int.natCast_nonneg _,Int.le_refl _,hf,fun _ h=>(by cases h),fun _ h=>(by cases h),fun _ h=>(by cases h),.nil,Nat.zero_le _,Int.le_refl _,fun _ h=>(by cases h),fun _ h=>(by cases h)⟩,sok0,.inl rfl⟩
 ·rename_i hd
  have hs:=hg.starts 0 ⟨Int.le_refl _,by omega⟩
  refine⟨⟨Int.le_refl _,Int.natCast_nonneg _,Int.le_refl _,hf,fun _ h=>(by cases h),?_,?_,?_,?_,Int.le_refl _,?_,fun _ h=>(by cases h)⟩,⟨Int.le_refl _,Int.le_refl _⟩,.inr rfl⟩
  ·intro x hx
   have hx:x∈[{top0 c with start:=cf0.pos}]:=hx
   rw[List.mem_singleton]at hx
   subst hx
   exact⟨hs.1,hs.2,Int.le_refl _,Int.natCast_nonneg _,.inl ⟨Nat.zero_le _,Int.le_refl _,by show(0:Int)<_;omega⟩⟩
  ·intro x hx
   have hx:x∈[{top0 c with start:=cf0.pos}]:=hx
   rw[List.mem_singleton]at hx
   subst hx
   exact Int.le_refl _
  ·exact List.pairwise_singleton _ _
  ·show 1≤c.depth
   have h0:cf0.opn.length=0:=rfl
   rw[h0]at hd
   omega
  ·intro x hx
   have hx:x∈[{top0 c with start:=cf0.pos}]:=hx
   rw[List.mem_singleton]at hx
   subst hx
   exact Int.le_refl _
structure OkNet (n:NNet) (au:List (List LSt)):Prop where
 may:mayNet n=true
 len:au.length=n.decs.length
 autos:∀d (h:d<au.length),mayAuto au[d] (altsOf n d) 64=true
 alts:∀d,d<au.length→altsOf n d≤32
 starts1:1≤n.starts.length
 starts:n.starts.length≤64
 picks:n.decs.length+n.preds.length≤65536
 states:n.states.length≤1000000
 edges:∀s∈n.states,s.edges.length≤1000000
 small:∀a∈au,a.length≤1000000∧∀s∈a,s.alts.length≤1000000∧s.edges.length≤1000000
theorem OkNet.stops {n:NNet}{au:List (List LSt)}(h:OkNet n au):n.stops.length=n.starts.length:=by
 have:=h.may
 unfold mayNet at this
 simp only[Bool.and_eq_true,beq_iff_eq]at this
 exact this.1.1.1.1.1.symm
theorem OkNet.pick {n:NNet}{au:List (List LSt)}(h:OkNet n au):∀a∈au,∀s∈a,s.kind=1→s.alts≠[]:=fun a ha s hs hk e=>by
 obtain⟨d,hd,rfl⟩:=List.mem_iff_getElem.1 ha
 have h1:=h.autos d hd
 unfold mayAuto at h1
 simp only[Bool.and_eq_true,List.all_eq_true]at h1
 have h2:=h1.2 s hs
 unfold fineL at h2
 simp only[Bool.and_eq_true]at h2
 have h3:=h2.2
 unfold kindL at h3
 rw[if_neg (by omega),if_pos hk,e]at h3
 simp at h3
end Drv
structure DrvAt (w:World) (D B:Nat) (n:Drv.NNet) (au:List (List Drv.LSt)) (wd:Int):Prop where
 dlt:D<B
 states:∃A c,w.cell? ⟨D,0,none⟩=some (.slice A n.states.length c)∧StsR w B A n.states
 starts:NumsAt w D B 1 n.starts
 stops:NumsAt w D B 2 n.stops
 preds:NumsAt w D B 3 n.preds
 decs:NumsAt w D B 4 n.decs
 autos:∃A c vs,w.cell? ⟨D,5,none⟩=some (.slice A au.length c)∧Reads w B 1 A au.length vs∧∀i (h:i<au.length),∃Ai ci,vs[i]? =some (.slice Ai au[i].length ci)∧AutR w B Ai au[i]
 place:∃pl,NumsAt w D B 6 pl∧pl.length=n.states.length∧∀i (h:i<n.states.length) (h':i<pl.length),n.states[i].ends.length≠0→pl[i]=Drv.decIx n i
 wide:w.cell? ⟨D,7,none⟩=some (.int .i64 wd)
theorem DrvAt.below {w w':World}{D B:Nat}{n:Drv.NNet}{au:List (List Drv.LSt)}{wd:Int}(h:DrvAt w D B n au wd) (hb:Below B w w'):DrvAt w' D B n au wd:=by
 obtain⟨A,c,h1,h2⟩:=h.states
 obtain⟨A',c',vs,g1,g2,g3⟩:=h.autos
 obtain⟨pl,p1,p2,p3⟩:=h.place
 have hd:=h.dlt
 refine⟨hd,⟨A,c,(hb.cell (p:=⟨D,0,none⟩) hd).trans h1,h2.below hb⟩,h.starts.below hd hb,h.stops.below hd hb,h.preds.below hd hb,h.decs.below hd hb,⟨A',c',vs,(hb.cell (p:=⟨D,5,none⟩) hd).trans g1,g2.below hb,fun i hi=>?_⟩,⟨pl,p1.below hd hb,p2,p3⟩,(hb.cell (p:=⟨D,7,none⟩) hd).trans h.wide⟩
 obtain⟨Ai,ci,e1,e2⟩:=g3 i hi
 exact⟨Ai,ci,e1,e2.below hb⟩
theorem NumsAt.more {w:World}{D B B' j:Nat}{l:List Int}(h:NumsAt w D B j l) (hB:B≤B'):NumsAt w D B' j l:=by
 obtain⟨A,c,h1,h2⟩:=h
 exact⟨A,c,h1,h2.more hB⟩
theorem DrvAt.more {w:World}{D B B':Nat}{n:Drv.NNet}{au:List (List Drv.LSt)}{wd:Int}(h:DrvAt w D B n au wd) (hB:B≤B'):DrvAt w D B' n au wd:=by
 obtain⟨A,c,h1,vs0,h2,h2'⟩:=h.states
 obtain⟨A',c',vs,g1,g2,g3⟩:=h.autos
 obtain⟨pl,p1,p2,p3⟩:=h.place
 have hd:=h.dlt
 refine⟨by omega,⟨A,c,h1,vs0,h2.more hB,fun i hi=>?_⟩,h.starts.more hB,h.stops.more hB,h.preds.more hB,h.decs.more hB,⟨A',c',vs,g1,g2.more hB,fun i hi=>?_⟩,⟨pl,p1.more hB,p2,p3⟩,h.wide⟩
 ·obtain⟨EA,ec,XA,xc,e0,e1,e2,r0,r1⟩:=h2' i hi
  exact⟨EA,ec,XA,xc,e0,e1,e2,r0.more hB,r1.more hB⟩
 ·obtain⟨Ai,ci,e1,vs1,k1,k2⟩:=g3 i hi
  refine⟨Ai,ci,e1,vs1,k1.more hB,fun j hj=>?_⟩
  obtain⟨AA,ac,EA,ec,e0,e1,e2,r0,r1⟩:=k2 j hj
  exact⟨AA,ac,EA,ec,e0,e1,e2,r0.more hB,r1.more hB⟩
theorem DrvAt.auts {w:World}{D B P M br bp:Nat}{n:Drv.NNet}{au:List (List Drv.LSt)}{wd:Int}(h:DrvAt w D B n au wd) (hok:Drv.OkNet n au){WA:Option Addr}{wc:Nat}{toks:List Int}(hW:Reads w B 1 WA toks.length (toks.map (Value.int .i64)))
 (hwc:toks.length≤wc) (hwn:WA=none→wc=0) (fuel:Int) (depth:Nat):
 Auts w ⟨B,P,⟨D,WA,toks.length,wc,M,fuel,depth⟩,br,bp,Drv.mkDC n au toks fuel depth⟩ au:=by
 obtain⟨pl,p1,p2,p3⟩:=h.place
 refine⟨⟨h.dlt,h.states,h.starts,h.stops,h.preds,h.decs,rfl,hW⟩,h.autos,hok.len,fun _ _=>rfl,hok.small,⟨pl,p1,p2,fun i hi he=>?_⟩,hok.pick,hwc,hwn⟩
 have hin:i<n.states.length:=by rw[←p2];exact hi
 have hst:(Drv.mkDC n au toks fuel depth).st (i:Int)=n.states[i]:=st_at (c:=Drv.mkDC n au toks fuel depth) hin
 rw[hst]at he
 exact p3 i hin hi he
theorem PstAt.start {w:World}{f:Fx}(hpar:ParAt w f.P f.pc ⟨0,0,0,.slice none 0 0,0,0,0,0,0,false,.slice none 0 0,0,false⟩)
 (hm:MemoAt w f.pc.M f.br f.bp 0 f.c.starts.length (f.c.decs.length+f.c.preds.length:Nat) f.c.w.length (fun _ _=>none) (fun _ _=>none)) (hP:f.B0≤f.P) (hM:∀j,MemoS f.pc.M f.br f.bp j→f.B0≤j):
 PstAt w f ⟨.slice none 0 0,[],[]⟩ Drv.cf0:=by
 have hf1:fRules []=fun _ _=>none:=rfl
 have hf2:fPicks f.c.decs.length []=fun _ _=>none:=by
  funext a b
  unfold fPicks
  split <;> rfl
 refine⟨⟨0,0,0,false,.slice none 0 0,hpar,?_⟩,?_,.inl (World.ownsRow_nil _ _ _ _),rfl,rfl,?_,.nil,.nil,?_,?_⟩
 ·show TrB w _ _ (.node 0 0 0 false []) _
  unfold TrB
  refine⟨?_,TopT.nil _ _ _ _ _ _ _⟩
  unfold TrV
  exact⟨none,0,[],rfl,⟨rfl,fun h=>absurd h (Nat.lt_irrefl 0)⟩,by unfold TrsV;rfl⟩
 ·show MemoAt w f.pc.M f.br f.bp 0 _ _ _ (fRules []) (fPicks f.c.decs.length [])
  rw[hf1,hf2]
  exact hm
 ·intro i x g s h1
  have h1:([]:List Drv.Wk)[i]? =some x:=h1
  rw[List.getElem?_nil]at h1
  cases h1
 ·intro j hj
  rcases hj with h | h | h | h | ⟨s,hs,_⟩
  ·rw[h];exact hP
  ·exact hM j h
  ·have h:(none:Option Nat)=some j:=h
   cases h
  ·cases h
  ·cases hs
 ·intro j hj
  have h:(none:Option Nat)=some j:=hj
  cases h
end Go.Proofs.Ytgflanlniejflaa
