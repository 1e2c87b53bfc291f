/-
  Drivers: asks a predicate.
-/
import Derived.Test.YtgflanlniejflaaK17
namespace Go.Proofs.Ytgflanlniejflaa
open Go.RowKit Go.Maps
open Go.Sort (grow)
set_option maxRecDepth 100000
def AsksP (f:Fx) (k:Drv.Cf) (q:Int) (w:World) (e:Ending) (w':World):Prop:=e= .returned (.tuple #[])∧Below f.B0 w w'∧∃v',PstAt w' f v' (Drv.asksM f.c q k)
set_option maxHeartbeats 1600000 in
theorem asks_new (w:World) (f:Fx) (v:Vx) (k:Drv.Cf) (q:Int) (hl:Lim f) (h:PstAt w f v k) (hc:Drv.COk f.c k) (hs:Drv.SOk k) (hsta:Sta w f) (hq:Drv.InR f.c.preds.length q) (hkn:Drv.know k.known 1 q k.pos=none) (hg:Drv.Rng f.c) (hS:f.c.states.length≤1000000):
 Calls Try.prog 91 #[.pointer (some ⟨f.P,0,none⟩),.int .i64 q] w (AsksP f k q w):=by
 have hbm:Drv.asksM f.c q k=Drv.beginM f.c ⟨2,q,0,Drv.at0 f.c.preds q,Drv.at0 f.c.preds q+1,[],[]⟩ k:=by
  unfold Drv.asksM
  rw[hkn]
 obtain⟨qn,rfl,hqn⟩:=InR.nat hq
 obtain⟨sb,soff,sc,hsb,d3,s3⟩:=hsta.preds.get hqn
 obtain⟨CA,cc,d4,_⟩:=hsta.decs
 rw[at0_at hqn]at hbm
 have hpv:0≤f.c.preds[qn]∧f.c.preds[qn]≤1000000:=by
  have:=hg.preds _ hq
  rw[at0_at hqn]at this
  have h1:=this.1.1
  have h2:=this.1.2
  exact⟨h1,by omega⟩
 have hBM:=hid hbm
 obtain⟨r,t,q',b,s,hpar,_⟩:=h.par
 have c0:=(hpar.cell 0).1
 have c2:=(hpar.cell 2).1
 have c9:=(hpar.cell 9).1
 simp only[parCells,List.getElem?_toArray,List.getElem?_cons_succ,List.getElem?_cons_zero]at c0 c2 c9
 have hPlt:=h.ltTS f.P (.inl rfl)
 have hPge:=h.geP
 have hDlt:=hsta.dlt
 have hsz:=hc.size
 have hld:=hl.depth
 have hp0:=hc.pos0
 have hp1:=hc.pos1
 have hPM:f.P≠f.pc.M:=fun e=>h.neP.1 f.P (.inl e) rfl
 have hsp0:=hs.1
 have hsp1:k.spec≤4000000000:=by have h1:=hs.2;have h2:=Drv.pot_nonneg k.opn;have h3:=hc.used1;have h4:=hl.fuel;omega
 have h1:PstAt w.drew f v k:=h.still ⟨rfl,rfl,rfl,Nat.le_refl _,fun _ _ _=>rfl⟩
 have hR:=pick1P w.drew f v k qn k.pos h1 hq hl.picks hp0 hp1 hl.toks
 have hPi:=piece_any w.drew f v k qn CA cc h1 d4 (by have:=hl.picks;omega) (by omega) (by have:=hl.picks;omega)
 rw[hkn]at hR
 have H:=hid h
 have HL:=hid hl
 generalize f.c.preds[qn]=pv at*
 obtain⟨sn,hsn⟩:∃sn,f.c.preds.length=sn:=⟨_,rfl⟩
 rw[hsn]at d3 hqn
 have hr1:(qn:Int)<(sn:Int):=by omega
 have e1:IntKind.i64.wrap (pv+1)=pv+1:=w64 (by omega) (by omega)
 clear h hl hpar hc hs hsta hsn hbm hkn h1 hg hS
 go_enter Try.func91,Try.ntmps91
 go_upto_region 0 with fail
 go_region_held3 (fun w'=>w'.cell? ⟨f.P,2,none⟩=some (.pointer (some ⟨f.pc.M,0,none⟩))∧w'.cell? ⟨f.P,9,none⟩=some (.int .i64 k.pos)) (first | assumption | exact⟨c2,c9⟩ | (exact⟨(ho1.cell hPlt (fun e=>hPM e)).trans c2,(ho1.cell hPlt (fun e=>hPM e)).trans c9⟩)) (first | (go_simp;go_at_call 86;refine hR.mono ?_;rintro e w1 ⟨tt,_,rfl,hb1,ho1,hP1⟩;dsimp only) | (go_simp;go_at_call 85;refine hPi.mono ?_;rintro e w1 ⟨rfl,rfl⟩;dsimp only))
 have hDM:f.pc.D≠f.pc.M:=fun e=>by have:=H.out.geM f.pc.M (.inl rfl);omega
 have hsM:sb≠f.pc.M:=fun e=>by have:=H.out.geM f.pc.M (.inl rfl);omega
 have hsz1:w.heap.size≤w1.heap.size:=ho1.size
 have c0:=(ho1.cell (o:=0) hPlt (fun e=>hPM e)).trans c0
 have d3:=(ho1.cell (o:=3) (show f.pc.D<w.heap.size by omega) (fun e=>hDM e)).trans d3
 have s3:=(ho1.cell (o:=soff+qn) (show sb<w.heap.size by omega) (fun e=>hsM e)).trans s3
 have hPlt:=hP1.ltTS f.P (.inl rfl)
 have HP1:=hid hP1
 have HB1:=hid (show Below f.B0 w w1 from⟨hb1.os,hb1.tape,hb1.output,hb1.size,hb1.block⟩)
 clear hR hPi hP1 hb1 ho1 c2 c9
 go_wp2_with fail
 refine still_tail 26 (by kernel_rfl) (by kernel_rfl) ?_
 intro w2 HW2
 have ho2:Only (fun _=>False) w1 w2:=by rw[HW2.out];exact⟨rfl,rfl,rfl,Nat.le_refl _,fun _ _ _=>rfl⟩
 clear HW2
 have c0:=(ho2.cell (o:=0) hPlt (fun e=>e)).trans c0
 have d3:=(ho2.cell (o:=3) (show f.pc.D<w1.heap.size by omega) (fun e=>e)).trans d3
 have s3:=(ho2.cell (o:=soff+qn) (show sb<w1.heap.size by omega) (fun e=>e)).trans s3
 have HP2:=hid (HP1.out.still ho2)
 have HB2:=hid (HB1.out.trans (ho2.below' (B:=f.B0) (fun _ e=>e.elim) (by omega)))
 clear ho2
 simp only[List.take_succ_cons,List.take_zero,List.drop_succ_cons,List.drop_zero]
 repeat still_step
 refine wpStill_nil ?_
 go_wp2_with fail
 have hB:=beginP_any w2 f v k ⟨2,qn,0,pv,pv+1,[],[]⟩ none 0 0 HP2.out rfl ⟨rfl,fun e=>absurd e (Nat.lt_irrefl 0)⟩ (Nat.le_refl 0) HL.out.pdepth (by omega) hsp0 hsp1
 refine hB.mono ?_
 rintro e w4 ⟨rfl,hb4,v4,hP4⟩
 have HB4:=hid (HB2.out.trans hb4)
 have HP4:=hid hP4
 clear hB hb4 hP4 c0 d3 s3
 go_wp2
 go_end0
 refine⟨rfl,HB4.out,v4,?_⟩
 rw[hBM.out]
 exact HP4.out
set_option maxHeartbeats 1600000 in
theorem asks_known (w:World) (f:Fx) (v:Vx) (k:Drv.Cf) (q:Int) (hl:Lim f) (h:PstAt w f v k) (hc:Drv.COk f.c k) (hs:Drv.SOk k) (hsta:Sta w f) (hq:Drv.InR f.c.preds.length q) (hb:Drv.BOk k) (he:k.ended=false) (hg:Drv.Rng f.c) (tn:Int) (hkn:Drv.know k.known 1 q k.pos=some tn):
 Calls Try.prog 91 #[.pointer (some ⟨f.P,0,none⟩),.int .i64 q] w (AsksP f k q w):=by
 have hcm:Drv.asksM f.c q k=if tn= -1 then Drv.failsM f.c k else k:=by
  unfold Drv.asksM
  rw[hkn]
 obtain⟨qn,rfl,hqn⟩:=InR.nat hq
 obtain⟨CA,cc,d4,_⟩:=hsta.decs
 have HCM:=hid hcm
 obtain⟨r,t,q',b,s,hpar,_⟩:=h.par
 have c2:=(hpar.cell 2).1
 have c9:=(hpar.cell 9).1
 simp only[parCells,List.getElem?_toArray,List.getElem?_cons_succ,List.getElem?_cons_zero]at c2 c9
 have hPlt:=h.ltTS f.P (.inl rfl)
 have hp0:=hc.pos0
 have hp1:=hc.pos1
 have hPM:f.P≠f.pc.M:=fun e=>h.neP.1 f.P (.inl e) rfl
 have h1:PstAt w.drew f v k:=h.still ⟨rfl,rfl,rfl,Nat.le_refl _,fun _ _ _=>rfl⟩
 have hR:=pick1P w.drew f v k qn k.pos h1 hq hl.picks hp0 hp1 hl.toks
 have hPi:=piece_any w.drew f v k qn CA cc h1 d4 (by have:=hl.picks;omega) (by omega) (by have:=hl.picks;omega)
 rw[hkn]at hR
 have HL:=hid hl
 have HC:=hid hc
 have HS:=hid hs
 have HB:=hid hb
 have HE:=hid he
 have HSTA:=hid hsta
 clear h hl hpar hc hs hsta hcm hkn hb he h1
 go_enter Try.func91,Try.ntmps91
 go_upto_region 0 with fail
 go_region_held3 (fun w'=>w'.cell? ⟨f.P,2,none⟩=some (.pointer (some ⟨f.pc.M,0,none⟩))∧w'.cell? ⟨f.P,9,none⟩=some (.int .i64 k.pos)) (first | assumption | exact⟨c2,c9⟩ | (exact⟨(ho1.cell hPlt (fun e=>hPM e)).trans c2,(ho1.cell hPlt (fun e=>hPM e)).trans c9⟩)) (first | (go_simp;go_at_call 86;refine hR.mono ?_;rintro e w1 ⟨tt,htt,rfl,hb1,ho1,hP1⟩;dsimp only) | (go_simp;go_at_call 85;refine hPi.mono ?_;rintro e w1 ⟨rfl,rfl⟩;dsimp only))
 have htt:=htt tn rfl
 subst htt
 have HP1:=hid hP1
 have HB1:=hid (show Below f.B0 w w1 from⟨hb1.os,hb1.tape,hb1.output,hb1.size,hb1.block⟩)
 clear hR hPi hP1 hb1 ho1 c2 c9 d4
 by_cases hto:tt= -1
 ·have HCM1:=hid (HCM.out.trans (if_pos hto))
  subst hto
  go_wp2_with fail
  refine(failsP_any _ f v k HL.out HP1.out HC.out HB.out HS.out HE.out (HSTA.out.below HB1.out) hg).mono ?_
  rintro e w4 ⟨rfl,hb4,v4,hP4⟩
  have HB4:=hid (HB1.out.trans hb4)
  have HP4:=hid hP4
  clear hb4 hP4
  go_wp2
  go_end0
  refine⟨rfl,HB4.out,v4,?_⟩
  rw[HCM1.out]
  exact HP4.out
 ·have hd:(tt== -1)=false:=by simpa using hto
  have HCM1:=hid (HCM.out.trans (if_neg hto))
  clear hto
  go_wp2_with fail
  go_end0
  refine⟨rfl,HB1.out,v,?_⟩
  rw[HCM1.out]
  exact HP1.out
theorem asksP_any (w:World) (f:Fx) (v:Vx) (k:Drv.Cf) (q:Int) (hl:Lim f) (h:PstAt w f v k) (hc:Drv.COk f.c k) (hs:Drv.SOk k) (hsta:Sta w f) (hq:Drv.InR f.c.preds.length q) (hb:Drv.BOk k) (he:k.ended=false) (hg:Drv.Rng f.c) (hS:f.c.states.length≤1000000):
 Calls Try.prog 91 #[.pointer (some ⟨f.P,0,none⟩),.int .i64 q] w (AsksP f k q w):=by
 cases hkn:Drv.know k.known 1 q k.pos with
 | none=>exact asks_new w f v k q hl h hc hs hsta hq hkn hg hS
 | some tn=>exact asks_known w f v k q hl h hc hs hsta hq hb he hg tn hkn
end Go.Proofs.Ytgflanlniejflaa
