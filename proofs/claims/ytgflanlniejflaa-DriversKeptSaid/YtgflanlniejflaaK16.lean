/-
  Drivers: a walk that ended well, of whatever sort; a walk that fails, and those that need it.
-/
import Derived.Deep.LoopGhost
import Derived.Test.YtgflanlniejflaaK03
import Derived.Test.YtgflanlniejflaaK13
import Derived.Test.YtgflanlniejflaaK15
namespace Go.Proofs.Ytgflanlniejflaa
open Go.RowKit Go.Maps
open Go.Sort (grow)
set_option maxRecDepth 100000
theorem wellP_any (w:World) (f:Fx) (v:Vx) (k:Drv.Cf) (y:Drv.Wk) (rest:List Drv.Wk) (hl:Lim f) (h:PstAt w f v k) (hc:Drv.COk f.c k) (ho:k.opn=y ::rest) (hsta:Sta w f) (hg:Drv.Rng f.c):
 Calls Try.prog 58 #[.pointer (some ⟨f.P,0,none⟩)] w (WellP f k w):=by
 rcases(hc.wk y (by rw[ho];simp)).2.2.2.2 with h1 | h1 | h1
 ·have h2:y.sort=0∨y.sort=1:=by have:=h1.1;omega
  rcases h2 with h2 | h2
  ·exact well_real w f v k y rest hl h hc ho h2
  ·exact well_rule w f v k y rest hl h hc ho h2
 ·exact well_pred w f v k y rest hl h hc ho h1.1 hsta
 ·exact well_try w f v k y rest hl h hc ho h1.1 hg
theorem bok_pop {k:Drv.Cf}{y:Drv.Wk}{rest:List Drv.Wk}(h:Drv.BOk k) (he:k.ended=false) (ho:k.opn=y ::rest) (hs:y.sort≠0):(rest.getLast?.map (·.sort))=some 0:=by
 rcases h with h | h
 ·rw[he]at h;cases h
 ·rw[ho]at h
  cases rest with
  | nil=>
   have h:some y.sort=some 0:=h
   injection h with h
   exact absurd h hs
  | cons z r=>rw[List.getLast?_cons_cons]at h;exact h
theorem bok_ne {k:Drv.Cf}(h:Drv.BOk k) (he:k.ended=false):∃y rest,k.opn=y ::rest:=by
 rcases h with h | h
 ·rw[he]at h;cases h
 ·cases ho:k.opn with
  | nil=>rw[ho]at h;cases h
  | cons y rest=>exact⟨y,rest,rfl⟩
theorem failsL_real {c:Drv.DC}{y:Drv.Wk}{rest:List Drv.Wk}{k:Drv.Cf}(hs:y.sort=0):Drv.failsL c (y ::rest) k= {k with opn:=rest,pos:=y.start}.fin 8:=by
 unfold Drv.failsL
 simp only[hs]
theorem failsL_rule {c:Drv.DC}{y:Drv.Wk}{rest:List Drv.Wk}{k:Drv.Cf}(hs:y.sort=1):Drv.failsL c (y ::rest) k=Drv.failsL c rest ({k with opn:=rest,pos:=y.start}.tell 2 y.what y.start (-1)):=by
 conv=>lhs;unfold Drv.failsL
 simp only[hs]
theorem failsL_pred {c:Drv.DC}{y:Drv.Wk}{rest:List Drv.Wk}{k:Drv.Cf}(hs:y.sort=2):Drv.failsL c (y ::rest) k=Drv.failsL c rest ({k with opn:=rest,pos:=y.start}.tell 1 y.what y.start (-1)):=by
 conv=>lhs;unfold Drv.failsL
 simp only[hs]
theorem failsL_try {c:Drv.DC}{y:Drv.Wk}{rest:List Drv.Wk}{k:Drv.Cf}(hs:y.sort=3):Drv.failsL c (y ::rest) k=Drv.triesM c y.what y.alts.tail {k with opn:=rest,pos:=y.start}:=by
 unfold Drv.failsL
 simp only[hs]
def FailsP (f:Fx) (k:Drv.Cf) (w:World) (e:Ending) (w':World):Prop:=e= .returned (.tuple #[])∧Below f.B0 w w'∧∃v',PstAt w' f v' (Drv.failsM f.c k)
def FailR (f:Fx) (k0:Drv.Cf) (w:World) (n:Nat) (wr:World):Prop:=
 Below f.B0 w wr∧∃v k,PstAt wr f v k∧Drv.COk f.c k∧Drv.BOk k∧Drv.SOk k∧k.opn.length≤n∧(k.ended=false→Drv.failsL f.c k.opn k=Drv.failsM f.c k0)∧(k.ended=true→k=Drv.failsM f.c k0)
set_option maxHeartbeats 1600000 in
theorem failsP_any (w:World) (f:Fx) (v:Vx) (k:Drv.Cf) (hl:Lim f) (h:PstAt w f v k) (hc:Drv.COk f.c k) (hb:Drv.BOk k) (hs:Drv.SOk k) (he:k.ended=false) (hsta:Sta w f) (hg:Drv.Rng f.c):
 Calls Try.prog 60 #[.pointer (some ⟨f.P,0,none⟩)] w (FailsP f k w):=by
 have h0:FailR f k w k.opn.length w:=⟨Below.refl _ _,v,k,h,hc,hb,hs,Nat.le_refl _,fun _=>rfl,fun e=>by rw[he]at e;cases e⟩
 have H0:=hid h0
 have HL:=hid hl
 clear h hc hb hs he h0 hl
 go_enter Try.func60,Try.ntmps60
 go_wp2_with fail
 go_loopg [] k.opn.length (fun n wr=>Hid (FailR f k w n wr))
 case atStart=>exact H0
 case round=>
  obtain⟨hbw,v1,k1,hP,hc,hb,hs,hlen,hrec,hend⟩:=hrel.out
  obtain⟨r,t,q,b,sv,hpar,_⟩:=hP.par
  have c17:=(hpar.cell 17).1
  simp only[parCells,List.getElem?_toArray,List.getElem?_cons_succ,List.getElem?_cons_zero]at c17
  clear hpar
  have HBW:=hid hbw
  have HP:=hid hP
  have HC:=hid hc
  have HB:=hid hb
  have HS:=hid hs
  have HREC:=hid hrec
  have HEND:=hid hend
  clear hbw hP hc hb hs hrec hend H0
  cases he:k1.ended with
  | true=>
   rw[he]at c17
   go_wp2
   go_end0
   refine⟨rfl,HBW.out,v1,?_⟩
   rw[←HEND.out he]
   exact HP.out
  | false=>
   rw[he]at c17
   obtain⟨y,rest,ho⟩:=bok_ne HB.out he
   have hW:=HC.out.wk y (by rw[ho];simp)
   have hsz:=HC.out.size
   have hld:=HL.out.depth
   have hlf:=HL.out.fuel
   have hu1:=HC.out.used1
   have hfew:=HC.out.few
   have hkn:k1.known.length<4000000000:=by omega
   have hlen1:rest.length<gk:=by rw[ho]at hlen;simp only[List.length_cons]at hlen;omega
   go_wp2_with fail
   refine(popP_any wr f v1 k1 y rest HP.out ho (by omega)).mono ?_
   rintro e w1 ⟨v2,g,s,rfl,hb1,hP1,hW1,hg1,hs1,hgB⟩
   obtain⟨A,ca,xs,q1,q2,q3,q4⟩:=hW1
   obtain⟨r,t,q,b,sv,hpar,_⟩:=hP1.par
   have c9:=(hpar.cell 9).1
   have z9:=(hpar.cell 9).2
   simp only[parCells,List.getElem?_toArray,List.getElem?_cons_succ,List.getElem?_cons_zero]at c9
   obtain⟨k0,k1',k2,_,_,_,k6⟩:=walk_cells q1
   have HF:=hid (hP1.posSet y.start)
   have HO:=hid (Only.of_set w1 f.P 9 (.int .i64 y.start))
   have hgP:g≠f.P:=fun e=>hg1 (.inl e)
   have HQ1:=hid q1
   have HQ2:=hid q2
   have HQ4:=hid q4
   have HB1:=hid (HBW.out.trans hb1)
   clear hpar q1 q2 q3 q4 hP1 hb1 k0 k1' k6 hu1 hfew c17
   go_upto_region 3 with fail
   clear c9 z9 k2
   have HQ1b:=hid ((HO.out.block g (heap_lt HQ1.out) hgP).trans HQ1.out)
   have HP2:=hid HF.out.1
   have HB2:=hid (HB1.out.trans HF.out.2)
   have HQ2b:=hid (HQ2.out.only (S':=TS f v2) (HO.out.more fun _ _ e=>.inl e) fun _ _ e=>e)
   generalize w1.setCell ⟨f.P,9,none⟩ (.int .i64 y.start)=w2 at HO HQ1b HP2 HB2 HQ2b⊢
   obtain⟨r,t,q,b,sv,hpar,_⟩:=HP2.out.par
   have c2:=(hpar.cell 2).1
   simp only[parCells,List.getElem?_toArray,List.getElem?_cons_succ,List.getElem?_cons_zero]at c2
   have HPAR:=hid hpar
   have HSTA:=hid (hsta.below HB2.out)
   clear HF HO HQ1 HQ2 HB1 hpar
   have hpop:Drv.COk f.c {k1 with opn:=rest,pos:=y.start}:=HC.out.pop ho (.inr rfl)
   have spop:Drv.SOk {k1 with opn:=rest,pos:=y.start}:=HS.out.pop ho y.start
   have HPOP:=hid hpop
   have SPOP:=hid spop
   have HREC2:=hid (HREC.out he)
   rw[ho]at HREC2
   clear hpop spop
   have hsort:y.sort=0∨y.sort=1∨y.sort=2∨y.sort=3:=by
    rcases hW.2.2.2.2 with h1 | h1 | h1
    ·have:=h1.1;omega
    ·exact .inr (.inr (.inl h1.1))
    ·exact .inr (.inr (.inr h1.1))
   have HW:=hid hW
   have HO1:=hid ho
   have HE:=hid he
   clear hW ho he hrel HEND HREC
   rcases hsort with hso | hso | hso | hso
   ·have HE1:=hid (HREC2.out.symm.trans (failsL_real hso))
    have q1:=HQ1b.out
    rw[hso,show((0:Nat):Int)=0 from rfl]at q1
    obtain⟨k0,_⟩:=walk_cells q1
    clear q1 c2
    go_wp2_with fail
    refine(endP_any w2 f v2 _ 8 HP2.out).mono ?_
    rintro e w3 ⟨rfl,hP3,hb3⟩
    have HP3:=hid hP3
    have HB3:=hid (HB2.out.trans hb3)
    clear hP3 hb3 k0
    go_wp2
    go_roundg rest.length
    case measure=>exact hlen1
    case rel=>exact hid ⟨HB3.out,v2,_,HP3.out,HPOP.out.fin 8,.inl rfl,SPOP.out,Nat.le_refl _,fun e=>(by cases e),fun _=>HE1.out.symm⟩
   ·have HE1:=hid (HREC2.out.symm.trans (failsL_rule hso))
    have q1:=HQ1b.out
    rw[hso,show((1:Nat):Int)=1 from rfl]at q1
    obtain⟨k0,k1c,k2,_⟩:=walk_cells q1
    go_wp2_with fail
    refine still_tail 12 (by kernel_rfl) (by kernel_rfl) ?_
    intro w3 HW3
    have ho3:Only (fun _=>False) w2 w3:=by rw[HW3.out];exact⟨rfl,rfl,rfl,Nat.le_refl _,fun _ _ _=>rfl⟩
    clear HW3
    have c2:=(ho3.cell (o:=2) HPAR.out.lt (fun e=>e)).trans c2
    have k1c:=(ho3.cell (o:=1) (heap_lt q1) (fun e=>e)).trans k1c
    have k2:=(ho3.cell (o:=2) (heap_lt q1) (fun e=>e)).trans k2
    have HP3:=hid (HP2.out.still ho3)
    have HB3:=hid (HB2.out.trans (ho3.below' (fun _ e=>e.elim) (by have:=HP2.out.ltTS f.P (.inl rfl);have:=HP2.out.geP;omega)))
    simp only[List.take_succ_cons,List.take_zero,List.drop_succ_cons,List.drop_zero]
    repeat still_step
    refine wpStill_nil ?_
    clear q1
    go_wp2_with fail
    refine(sayRuleP w3 f v2 {k1 with opn:=rest,pos:=y.start} y.what y.start (-1) HP3.out hkn (HW.out.rule (by omega)) HL.out.starts HW.out.2.2.1 HW.out.2.2.2.1 HL.out.toks (.inl rfl) (by have:=HL.out.toks;omega)).mono ?_
    rintro e w4 ⟨rfl,hb4,_,hP4⟩
    have HP4:=hid hP4
    have HB4:=hid (HB3.out.trans hb4)
    clear hP4 hb4 k0 k1c k2 c2 ho3
    go_wp2
    go_roundg rest.length
    case measure=>exact hlen1
    case rel=>exact hid ⟨HB4.out,v2,_,HP4.out,HPOP.out.tell ⟨⟨HW.out.2.2.1,HW.out.2.2.2.1⟩,.inr (.inr ⟨rfl,HW.out.rule (by omega),.inl rfl⟩)⟩ (HC.out.pop_few HO1.out (by omega)),.inr (bok_pop HB.out HE.out HO1.out (by omega)),SPOP.out,Nat.le_refl _,fun _=>HE1.out.symm,fun e=>by have e:k1.ended=true:=e;rw[HE.out]at e;cases e⟩
   ·have HE1:=hid (HREC2.out.symm.trans (failsL_pred hso))
    have q1:=HQ1b.out
    rw[hso,show((2:Nat):Int)=2 from rfl]at q1
    obtain⟨k0,k1c,k2,_⟩:=walk_cells q1
    obtain⟨CA,cc,hD,_⟩:=HSTA.out.decs
    have hDlt:f.pc.D<w2.heap.size:=World.block_lt_of_cell? w2 _ hD
    go_wp2_with fail
    refine still_tail 14 (by kernel_rfl) (by kernel_rfl) ?_
    intro w3 HW3
    have ho3:Only (fun _=>False) w2 w3:=by rw[HW3.out];exact⟨rfl,rfl,rfl,Nat.le_refl _,fun _ _ _=>rfl⟩
    clear HW3
    have c2:=(ho3.cell (o:=2) HPAR.out.lt (fun e=>e)).trans c2
    have k1c:=(ho3.cell (o:=1) (heap_lt q1) (fun e=>e)).trans k1c
    have k2:=(ho3.cell (o:=2) (heap_lt q1) (fun e=>e)).trans k2
    have hD:=(ho3.cell (o:=4) hDlt (fun e=>e)).trans hD
    have HP3:=hid (HP2.out.still ho3)
    have HB3:=hid (HB2.out.trans (ho3.below' (fun _ e=>e.elim) (by have:=HP2.out.ltTS f.P (.inl rfl);have:=HP2.out.geP;omega)))
    simp only[List.take_succ_cons,List.take_zero,List.drop_succ_cons,List.drop_zero]
    repeat still_step
    still_call (piece_any w3 f v2 _ y.what CA cc HP3.out hD (by have:=HL.out.picks;omega) (HW.out.pred hso).1 (by have:=(HW.out.pred hso).2;have:=HL.out.picks;omega))
    repeat still_step
    refine wpStill_nil ?_
    clear q1
    go_wp2_with fail
    refine(sayPick1P w3 f v2 {k1 with opn:=rest,pos:=y.start} y.what y.start (-1) HP3.out hkn (HW.out.pred hso) HL.out.picks HW.out.2.2.1 HW.out.2.2.2.1 HL.out.toks (by decide) (by decide)).mono ?_
    rintro e w4 ⟨rfl,hb4,_,hP4⟩
    have HP4:=hid hP4
    have HB4:=hid (HB3.out.trans hb4)
    clear hP4 hb4 k0 k1c k2 c2 ho3 hD
    go_wp2
    go_roundg rest.length
    case measure=>exact hlen1
    case rel=>exact hid ⟨HB4.out,v2,_,HP4.out,HPOP.out.tell ⟨⟨HW.out.2.2.1,HW.out.2.2.2.1⟩,.inr (.inl ⟨rfl,HW.out.pred hso,.inl rfl⟩)⟩ (HC.out.pop_few HO1.out (by omega)),.inr (bok_pop HB.out HE.out HO1.out (by omega)),SPOP.out,Nat.le_refl _,fun _=>HE1.out.symm,fun e=>by have e:k1.ended=true:=e;rw[HE.out]at e;cases e⟩
   ·have HE1:=hid (HREC2.out.symm.trans (failsL_try hso))
    have q1:=HQ1b.out
    rw[hso,show((3:Nat):Int)=3 from rfl]at q1
    obtain⟨hd,hl2,hl32,hne,hal⟩:=HW.out.try (by omega)
    obtain⟨na,hna⟩:∃na,y.alts.length=na:=⟨_,rfl⟩
    rw[hna]at q1
    have hl0:(1:Int)≤(na:Int):=by omega
    have hl1:1≤na:=by omega
    have hcan:na≤ca:=by rw[←hna];exact HQ4.out.2
    have hca1:¬ca=1:=by omega
    have hca2:¬ca-1=0:=by omega
    obtain⟨b0,off0,rfl,hb0,hbT,hcell⟩:=HQ2b.out.2 (by omega)
    obtain⟨k0,k1c,_,_,_,_,k6⟩:=walk_cells q1
    have HD:=hid hd
    have HAL:=hid hal
    have HNE:=hid hne
    have HNA:=hid hna
    clear hd hne hal hna
    go_wp2_with fail
    refine still_tail 10 (by kernel_rfl) (by kernel_rfl) ?_
    intro w3 HW3
    have ho3:Only (fun _=>False) w2 w3:=by rw[HW3.out];exact⟨rfl,rfl,rfl,Nat.le_refl _,fun _ _ _=>rfl⟩
    clear HW3
    have k1c:=(ho3.cell (o:=1) (heap_lt q1) (fun e=>e)).trans k1c
    have k6:=(ho3.cell (o:=6) (heap_lt q1) (fun e=>e)).trans k6
    have HP3:=hid (HP2.out.still ho3)
    have HB3:=hid (HB2.out.trans (ho3.below' (fun _ e=>e.elim) (by have:=HP2.out.ltTS f.P (.inl rfl);have:=HP2.out.geP;omega)))
    simp only[List.take_succ_cons,List.take_zero,List.drop_succ_cons,List.drop_zero]
    repeat still_step
    refine wpStill_nil ?_
    clear q1
    go_wp2_with fail
    have hra:RO w3 (TS f v2) 1 (some ⟨b0,off0+1,none⟩) y.alts.tail.length (y.alts.tail.map (Value.int .i64)):=by
     refine⟨by simp,fun _=>⟨b0,off0+1,rfl,Nat.lt_of_lt_of_le hb0 ho3.size,hbT,fun j u hu=>?_⟩⟩
     refine(ho3.cell hb0 (fun e=>e)).trans ?_
     have:=hcell (j+1) u (by
      rw[←hu]
      simp[List.getElem?_map,List.getElem?_tail])
     rw[show off0+1+j=off0+(j+1) by omega]
     exact this
    have hna:=HNA.out
    have htl:y.alts.tail.length=na-1:=by rw[List.length_tail,HNA.out]
    have hT:=triesP_any w3 f v2 {k1 with opn:=rest,pos:=y.start} y.what y.alts.tail (some ⟨b0,off0+1,none⟩) (ca-1) HL.out HP3.out HPOP.out (HSTA.out.below (ho3.below' (fun _ e=>e.elim) (by have:=HP2.out.ltTS f.P (.inl rfl);have:=HP2.out.geP;omega))) HD.out HNE.out hg
     (fun e=>by rw[e]at htl;simp at htl;omega) (by omega) (fun a h'=>HAL.out a (List.mem_of_mem_tail h')) SPOP.out.1 (by have h1:=SPOP.out.2;have h2:=Drv.pot_nonneg rest;have h3:=HC.out.used1;show k1.spec≤_;have h1:k1.spec+Drv.pot rest≤33*k1.used:=h1;omega) hra (by omega)
    rw[htl]at hT
    refine hT.mono ?_
    rintro e w4 ⟨rfl,hb4,v4,hP4⟩
    have HP4:=hid hP4
    have HB4:=hid (HB3.out.trans hb4)
    clear hP4 hb4 hT hra k0 k1c k6 ho3 hcell hna
    go_wp2
    go_end0
    refine⟨rfl,HB4.out,v4,?_⟩
    rw[HE1.out]
    exact HP4.out
end Go.Proofs.Ytgflanlniejflaa
