/-
  Drivers: a walk goes over an edge: the walk.
-/
import Derived.Test.YtgflanlniejflaaK14
import Derived.Test.YtgflanlniejflaaK19
namespace Go.Proofs.Ytgflanlniejflaa
open Go.RowKit Go.Maps
open Go.Sort (grow)
set_option maxRecDepth 100000
theorem PstAt.stateSet {w:World}{f:Fx}{vo s:Value}{g:Nat}{gs:List Nat}{ss:List Value}{k:Drv.Cf}{x:Drv.Wk}{rest:List Drv.Wk}(h:PstAt w f ⟨vo,g ::gs,s ::ss⟩ k) (ho:k.opn=x ::rest) (st:Int):
 PstAt (w.setCell ⟨g,3,none⟩ (.int .i64 st)) f ⟨vo,g ::gs,s ::ss⟩ {k with opn:={x with state:=st} ::rest}∧Below f.B0 w (w.setCell ⟨g,3,none⟩ (.int .i64 st)):=by
 have h0:=h.walks 0 x g s (by rw[ho];rfl) rfl rfl
 obtain⟨A,ca,xs,q1,q2,q3,q4,q5⟩:=h0
 have hos:=Only.of_set w g 3 (.int .i64 st)
 have hgT:TS f ⟨vo,g ::gs,s ::ss⟩ g:=.inr (.inr (.inr (.inl (by simp))))
 have hoT:=hos.more (S':=TS f ⟨vo,g ::gs,s ::ss⟩) fun j _ e=>by rw[e];exact hgT
 refine⟨h.topSet (x':={x with state:=st}) ho rfl (hos.more fun _ _ e=>.inl e) (fun j e=>.inl e) ⟨A,ca,xs,?_,q2.only hoT fun _ _ e=>e,?_,TrsB.only hoT (fun _ _ e=>e) _ _ q4,q5⟩,h.below hos fun j e=>by rw[e];exact h.ge g hgT⟩
 ·have:=heap_setCell_same w g 3 _ _ (.int .i64 st) q1
  exact this
 ·exact ownsRow_only q3 hos fun j e e2=>row_not q3 q1 (by decide) (by rw[←e2];exact e)
theorem tok_at {c:Drv.DC}{i:Nat}(hi:i<c.w.length):c.tok (i:Int)=c.w[i]:=by
 unfold Drv.DC.tok
 rw[List.getD_eq_getElem?_getD,Int.toNat_natCast,List.getElem?_eq_getElem hi]
 rfl
theorem cells3e {w:World}{b:Nat}{T:TypeId}{x0 x1 x2:Value}(h:w.heap[b]? =some (.cells #[x0,x1,x2] T (0,0))):
 w.cell? ⟨b,0,none⟩=some x0∧w.cell? ⟨b,1,none⟩=some x1∧w.cell? ⟨b,2,none⟩=some x2:=by
 refine⟨?_,?_,?_⟩ <;> (rw[Lib.cell_of_heap h];rfl)
def GoesP (f:Fx) (k:Drv.Cf) (e:Drv.Ed) (w:World) (r:Ending) (w':World):Prop:=r= .returned (.tuple #[])∧Below f.B0 w w'∧∃v',PstAt w' f v' (Drv.goesM f.c e k)
set_option maxHeartbeats 3200000 in
theorem goesP_any (w:World) (f:Fx) (vo s:Value) (g:Nat) (gs:List Nat) (ss:List Value) (k:Drv.Cf) (x:Drv.Wk) (rest:List Drv.Wk) (ed:Drv.Ed) (hl:Lim f) (h:PstAt w f ⟨vo,g ::gs,s ::ss⟩ k) (ho:k.opn=x ::rest) (hc:Drv.COk f.c k) (hs:Drv.SOk k) (hb:Drv.BOk k) (he:k.ended=false)
 (hsta:Sta w f) (hg:Drv.Rng f.c) (hst:f.c.stops.length=f.c.starts.length) (hS:f.c.states.length≤1000000) (hed:ed∈(f.c.st x.state).edges):
 Calls Try.prog 61 #[.pointer (some ⟨f.P,0,none⟩),.pointer (some ⟨g,0,none⟩),.agg #[.int .u8 ed.kind,.int .i64 ed.what,.int .i64 ed.to]] w (GoesP f k ed w):=by
 have hgm:Drv.goesM f.c ed k=(if f.c.fuel-k.used<1 then k.fin 6 else if ed.kind=1∧((f.c.w.length:Int)≤k.pos∨f.c.tok k.pos≠ed.what)then Drv.failsM f.c {k with used:=k.used+1}
  else if ed.kind=1 then {k with used:=k.used+1,opn:=(if x.sort=0 then {x with state:=ed.to,subs:=x.subs++ [Drv.leaf k.pos ed.what]} else {x with state:=ed.to}) ::rest,pos:=k.pos+1}
  else if ed.kind=2 then Drv.callsM f.c ed.what {k with used:=k.used+1,opn:={x with state:=ed.to} ::rest}
  else if ed.kind=3 then Drv.asksM f.c ed.what {k with used:=k.used+1,opn:={x with state:=ed.to} ::rest} else {k with used:=k.used+1,opn:={x with state:=ed.to} ::rest}):=by
  unfold Drv.goesM Drv.setTop
  simp only[ho]
  repeat' split
  all_goals rfl
 have HGM:=hid hgm
 have HL:=hid hl
 have HC:=hid hc
 have HS:=hid hs
 have HB:=hid hb
 have HE:=hid he
 have HSTA:=hid hsta
 have HED:=hid (hg.edge _ ed hed)
 have HO:=hid ho
 have hPlt:=h.ltTS f.P (.inl rfl)
 have hglt:=h.ltTS g (.inr (.inr (.inr (.inl (by simp)))))
 have hPge:=h.geP
 have hp0:=hc.pos0
 have hp1:=hc.pos1
 have hu0:=hc.used0
 have hu1:=hc.used1
 have hlf:=hl.fuel
 obtain⟨ek,ew,et⟩:=ed
 have hbn:=below_new w (.cells #[.int .u8 ek,.int .i64 ew,.int .i64 et] 60)
 have T1:(w.alloc (.cells #[.int .u8 ek,.int .i64 ew,.int .i64 et] 60)).heap[w.heap.size]? =some (.cells #[.int .u8 ek,.int .i64 ew,.int .i64 et] 60 (0,0)):=heap_alloc_new w _
 have hs1:=size_alloc w (.cells #[.int .u8 ek,.int .i64 ew,.int .i64 et] 60)
 have ho1:Only (fun _=>False) w (w.alloc (.cells #[.int .u8 ek,.int .i64 ew,.int .i64 et] 60)):=Only.of_below hbn
 have HP1:=hid (h.still ho1)
 have HB1:=hid (ho1.below' (B:=f.B0) (fun _ e=>e.elim) (by omega))
 have HT1:=hid T1
 clear h ho hc hs hb he hsta hl hed hgm hbn T1 ho1
 go_enter Try.func61,Try.ntmps61
 go_upto_region 1 with fail
 generalize (w.alloc (.cells #[.int .u8 ek,.int .i64 ew,.int .i64 et] 60))=w1 at*
 generalize hebk:w.heap.size=eb at*
 have hpay:=payO_any w1 f ⟨vo,g ::gs,s ::ss⟩ k 1 HP1.out hu0 (by rw[HL.out.pfuel];exact hu1) (by rw[HL.out.pfuel];omega) (by omega) (by omega)
 go_wp2_with fail
 refine hpay.mono ?_
 rintro e w2 ⟨hb2,ho2,⟨hf,rfl,hP2⟩ | ⟨hf,rfl,hP2⟩⟩
 ·rw[HL.out.pfuel]at hf
  have HG:=hid (HGM.out.trans (if_pos hf))
  have HP2:=hid hP2
  have HB2:=hid (HB1.out.trans hb2)
  clear hf hb2 ho2 hP2 hpay
  go_wp2_with fail
  go_end0
  refine⟨rfl,HB2.out,⟨vo,g ::gs,s ::ss⟩,?_⟩
  rw[HG.out]
  exact HP2.out
 ·rw[HL.out.pfuel]at hf
  have HGM:=hid (HGM.out.trans (if_neg hf))
  have HP2:=hid hP2
  have HB2:=hid (HB1.out.trans hb2)
  have HT2:=hid ((ho2.block eb (by omega) (fun e=>by omega)).trans HT1.out)
  have HPAY:=hid (HC.out.pay (n:=1) (Int.le_refl _) hf)
  have HSP:=hid (HS.out.pay (n:=1) (Int.le_refl _))
  have hsz2:=ho2.size
  clear hf hb2 ho2 hP2 hpay
  obtain⟨b0,b1,b2⟩:=cells3e HT2.out
  obtain⟨pn,hpn⟩:∃pn:Nat,k.pos=pn:=⟨k.pos.toNat,by omega⟩
  obtain⟨r3,t3,q3,bb3,s3,hpar3,_⟩:=HP2.out.par
  have c1:=(hpar3.cell 1).1
  have c9:=(hpar3.cell 9).1
  have z9:=(hpar3.cell 9).2
  simp only[parCells,List.getElem?_toArray,List.getElem?_cons_succ,List.getElem?_cons_zero]at c1 c9
  obtain⟨hwn,hwr⟩:=Sta.toks (HSTA.out.below HB2.out)
  rw[hpn]at c9 hp0 hp1
  rw[hwn]at c1
  clear hpar3
  have HWR:=hid hwr
  clear hwr
  by_cases hm:ek=1∧((f.c.w.length:Int)≤k.pos∨f.c.tok k.pos≠ew)
  ·have HG:=hid (HGM.out.trans (if_pos hm))
   have HF:∀nq,Calls Try.prog 60 #[.pointer (some ⟨f.P,0,none⟩)] (w2.drewN nq) fun r w'=>r= .returned (.tuple #[])∧Hid (GoesP f k ⟨ek,ew,et⟩ w r w'):=fun nq=>by
    have hod:Only (fun _=>False) w2 (w2.drewN nq):=⟨rfl,rfl,rfl,Nat.le_refl _,fun _ _ _=>rfl⟩
    have hbd:Below f.B0 w2 (w2.drewN nq):=hod.below' (fun _ e=>e.elim) (by omega)
    refine(failsP_any (w2.drewN nq) f ⟨vo,g ::gs,s ::ss⟩ {k with used:=k.used+1} HL.out (HP2.out.still hod) HPAY.out.1 HB.out HSP.out.1 HE.out ((HSTA.out.below HB2.out).below hbd) hg).mono ?_
    rintro r w' ⟨rfl,hb3,v3,hP3⟩
    exact⟨rfl,rfl,(HB2.out.trans hbd).trans hb3,v3,by rw[HG.out];exact hP3⟩
   obtain⟨hk1,hmm⟩:=hm
   subst hk1
   by_cases hlen:(f.c.w.length:Int)≤k.pos
   ·rw[hpn]at hlen
    have hd2:decide (f.c.w.length≤pn)=true:=by simpa using(by omega:f.c.w.length≤pn)
    clear hmm hlen
    go_upto_region 2 with fail
    go_quiet (fail)
    go_wp2_with fail
    refine(HF _).mono ?_
    rintro r w' ⟨rfl,hfin⟩
    go_wp2
    go_end0
    exact hfin.out
   ·rw[hpn]at hlen
    have hlt:pn<f.c.w.length:=by omega
    have hd2:decide (f.c.w.length≤pn)=false:=by simpa using hlt
    have hne:=hmm.resolve_left (by rw[hpn];exact hlen)
    rw[hpn,tok_at hlt]at hne
    obtain⟨wb,wo,hWA,hwb,w0⟩:=HWR.out.getZ hlt
    rw[hWA]at c1
    have hd3:(f.c.w[pn] !=ew)=true:=by simpa using hne
    generalize f.c.w[pn]=tv at*
    clear hmm hlen hne hWA
    go_upto_region 2 with fail
    go_quiet (fail)
    go_wp2_with fail
    refine(HF _).mono ?_
    rintro r w' ⟨rfl,hfin⟩
    go_wp2
    go_end0
    exact hfin.out
  ·have HGM:=hid (HGM.out.trans (if_neg hm))
   by_cases hk1:ek=1
   ·have HGM:=hid (HGM.out.trans (if_pos hk1))
    have hlt:pn<f.c.w.length:=by
     rcases Nat.lt_or_ge pn f.c.w.length with h2 | h2
     ·exact h2
     ·exact absurd ⟨hk1,.inl (by rw[hpn];omega)⟩ hm
    have hd2:decide (f.c.w.length≤pn)=false:=by simpa using hlt
    have heq:f.c.w[pn]=ew:=by
     have:=fun h2=>hm ⟨hk1,.inr h2⟩
     rw[hpn,tok_at hlt]at this
     exact Classical.not_not.1 this
    subst hk1
    obtain⟨wb,wo,hWA,hwb,w0⟩:=HWR.out.getZ hlt
    rw[hWA]at c1
    rw[heq]at w0
    clear hm heq hWA
    go_upto_region 2 with fail
    go_quiet (fail)
    go_upto_region 4 with fail
    generalize hw3:w2.drewN _=w3
    have ho3:Only (fun _=>False) w2 w3:=by rw[←hw3];exact⟨rfl,rfl,rfl,Nat.le_refl _,fun _ _ _=>rfl⟩
    have hP3:=HP2.out.still ho3
    have HB3:=hid (HB2.out.trans (ho3.below' (B:=f.B0) (fun _ e=>e.elim) (by omega)))
    have HT3:=hid ((ho3.block eb (by have:=heap_lt HT2.out;omega) (fun e=>e)).trans HT2.out)
    have ho:=HO.out
    obtain⟨hP4,hb4⟩:=hP3.stateSet (k:={k with used:=k.used+1}) ho et
    obtain⟨A0,ca0,xs0,g0,_⟩:=hP3.walks 0 x g s (by show k.opn[0]? =_;rw[ho];rfl) rfl rfl
    have q3:w3.cell? ⟨g,3,none⟩=some (.int .i64 x.state):=by rw[Lib.cell_of_heap g0];rfl
    have zq3:=Lib.frozen_of_heap g0 3
    have hge:g≠eb:=by have:=heap_lt HT2.out;omega
    have HT4:=hid ((heap_setCell_other _ _ _ _ (fun e=>hge e.symm):(w3.setCell ⟨g,3,none⟩ (.int .i64 et)).heap[eb]? =w3.heap[eb]?).trans HT3.out)
    obtain⟨b0,b1,b2⟩:=cells3e HT3.out
    have HP4:=hid hP4
    have HB4:=hid (HB3.out.trans hb4)
    clear hP3 hP4 hb4 ho ho3 hw3 g0 c1 c9 z9
    go_upto_region 5 with fail
    generalize w3.setCell ⟨g,3,none⟩ (.int .i64 et)=w4 at HP4 HB4 HT4⊢
    clear b0 b1 b2 q3 zq3 HP2 HP1 HT2 HT1 HT3 HB3
    obtain⟨b0,b1,b2⟩:=cells3e HT4.out
    obtain⟨A0,ca0,xs0,g0,g1,g2,g3,g4⟩:=HP4.out.walks 0 _ g s rfl rfl rfl
    obtain⟨t0,_⟩:=walk_cells g0
    obtain⟨r5,t5,q5,bb5,s5,hpar5,_⟩:=HP4.out.par
    have c9:=(hpar5.cell 9).1
    have z9:=(hpar5.cell 9).2
    simp only[parCells,List.getElem?_toArray,List.getElem?_cons_succ,List.getElem?_cons_zero]at c9
    rw[hpn]at c9
    have e1:IntKind.i64.wrap ((pn:Int)+1)=((pn+1:Nat):Int):=by
     have h1:((pn:Int)+1)=((pn+1:Nat):Int):=by omega
     have h2:=HL.out.toks
     rw[h1];exact w64 (by omega) (by omega)
    by_cases hso:x.sort=0
    ·have HGM:=hid (by rw[if_pos hso]at HGM;exact HGM.out)
     obtain⟨XA,xc,rfl⟩:=row_form g2
     obtain⟨m,hm⟩:∃m,x.subs.length=m:=⟨_,rfl⟩
     have htop:=HPAY.out.2.2 x (by rw[HO.out];simp)
     have g0:w4.heap[g]? =some (.cells (walkCells (x.sort:Nat) x.what x.start et x.over (.slice XA x.subs.length xc) (.slice A0 x.alts.length ca0)) 116 (0,0)):=g0
     have g2:w4.ownsRow f.B0 65 5 (.slice XA x.subs.length xc) x.subs.length xs0:=g2
     have g1:RO w4 (TS f ⟨vo,g ::gs,.slice XA x.subs.length xc ::ss⟩) 1 A0 x.alts.length (x.alts.map (Value.int .i64)):=g1
     have g3:TrsB w4 (TS f ⟨vo,g ::gs,.slice XA x.subs.length xc ::ss⟩) f.B0 x.subs xs0:=g3
     have g4:x.alts.length≤ca0:=g4
     have hP4:=HP4.out
     rw[hm]at g0 g1 g2 g3 hP4 htop
     have HP4:=hid hP4
     have s5:w4.cell? ⟨g,5,none⟩=some (.slice XA m xc):=by rw[Lib.cell_of_heap g0];rfl
     have z5:=Lib.frozen_of_heap g0 5
     have hglt4:=heap_lt g0
     have heb4:=heap_lt HT4.out
     have hPlt4:=HP4.out.ltTS f.P (.inl rfl)
     have hd4:((x.sort:Int)==0)=true:=by simpa using hso
     have hm1:m+1≤4000000:=by omega
     have U1:=hid g0
     have U2:=hid g1
     have U3:=hid g2
     have U4:=hid g3
     have U5:=hid g4
     have HM:=hid hm
     have HSO:=hid hso
     clear g0 g1 g2 g3 g4 hm hpar5 hso htop hP4
     obtain⟨i0,hi0,hz0,hsz0,hy0⟩:=info_parts infoTree
     go_upto_region 8 with fail
     refine wp_region_late (l:=13) (S:=(fun w'=>w'.cell? ⟨g,5,none⟩=some (.slice XA m xc)∧w'.cell? ⟨f.P,9,none⟩=some (.int .i64 pn)∧w'.cell? ⟨eb,1,none⟩=some (.int .i64 ew))) (by kernel_rfl) ⟨s5,c9,b1⟩ (fun hHeld=>?_)
     refine wpAnyF_take (i:=0) (.pointer (some ⟨g,0,none⟩)) rfl (by kernel_rfl) (by kernel_rfl) (by kernel_rfl) (by kernel_rfl) (fun _ _ _ h=>h) hHeld (by rfl) (fun w' hSw=>?_) ?_
     ·obtain⟨s5,s9,sb⟩:=hSw;go_simp
     simp only[Act.put]
     refine wpAnyF_take (i:=1) (.pointer (some ⟨g,0,none⟩)) rfl (by kernel_rfl) (by kernel_rfl) (by kernel_rfl) (by kernel_rfl) (fun _ _ _ h=>h) hHeld (by rfl) (fun w' hSw=>?_) ?_
     ·obtain⟨s5,s9,sb⟩:=hSw;go_simp
     simp only[Act.put]
     refine wpAnyF_take (i:=2) (.pointer (some ⟨g,5,none⟩)) rfl (by kernel_rfl) (by kernel_rfl) (by kernel_rfl) (by kernel_rfl) (fun _ _ _ h=>h) hHeld (by rfl) (fun w' hSw=>?_) ?_
     ·obtain⟨s5,s9,sb⟩:=hSw;go_simp
     simp only[Act.put]
     refine wpAnyF_take (i:=3) (.slice XA m xc) rfl (by kernel_rfl) (by kernel_rfl) (by kernel_rfl) (by kernel_rfl) (fun _ _ _ h=>h) hHeld (by rfl) (fun w' hSw=>?_) ?_
     ·obtain⟨s5,s9,sb⟩:=hSw;go_simp
     simp only[Act.put]
     refine wpAnyF_take (i:=4) (.pointer (some ⟨f.P,0,none⟩)) rfl (by kernel_rfl) (by kernel_rfl) (by kernel_rfl) (by kernel_rfl) (fun _ _ _ h=>h) hHeld (by rfl) (fun w' hSw=>?_) ?_
     ·obtain⟨s5,s9,sb⟩:=hSw;go_simp
     simp only[Act.put]
     refine wpAnyF_take (i:=5) (.pointer (some ⟨f.P,0,none⟩)) rfl (by kernel_rfl) (by kernel_rfl) (by kernel_rfl) (by kernel_rfl) (fun _ _ _ h=>h) hHeld (by rfl) (fun w' hSw=>?_) ?_
     ·obtain⟨s5,s9,sb⟩:=hSw;go_simp
     simp only[Act.put]
     refine wpAnyF_take (i:=6) (.pointer (some ⟨f.P,9,none⟩)) rfl (by kernel_rfl) (by kernel_rfl) (by kernel_rfl) (by kernel_rfl) (fun _ _ _ h=>h) hHeld (by rfl) (fun w' hSw=>?_) ?_
     ·obtain⟨s5,s9,sb⟩:=hSw;go_simp
     simp only[Act.put]
     refine wpAnyF_take (i:=7) (.int .i64 pn) rfl (by kernel_rfl) (by kernel_rfl) (by kernel_rfl) (by kernel_rfl) (fun _ _ _ h=>h) hHeld (by rfl) (fun w' hSw=>?_) ?_
     ·obtain⟨s5,s9,sb⟩:=hSw;go_simp
     simp only[Act.put]
     refine wpAnyF_take (i:=8) (.pointer (some ⟨eb,1,none⟩)) rfl (by kernel_rfl) (by kernel_rfl) (by kernel_rfl) (by kernel_rfl) (fun _ _ _ h=>h) hHeld (by rfl) (fun w' hSw=>?_) ?_
     ·obtain⟨s5,s9,sb⟩:=hSw;go_simp
     simp only[Act.put]
     refine wpAnyF_take (i:=9) (.int .i64 ew) rfl (by kernel_rfl) (by kernel_rfl) (by kernel_rfl) (by kernel_rfl) (fun _ _ _ h=>h) hHeld (by rfl) (fun w' hSw=>?_) ?_
     ·obtain⟨s5,s9,sb⟩:=hSw;go_simp
     simp only[Act.put]
     refine wpAnyF_take (i:=10) (.agg #[.int .i64 (-1),.int .i64 pn,.int .i64 ew,.bool false,.slice none 0 0]) rfl (by kernel_rfl) (by kernel_rfl) (by kernel_rfl) (by kernel_rfl) (fun _ _ _ h=>h) hHeld (by rfl) (fun w' hSw=>?_) ?_
     ·obtain⟨s5,s9,sb⟩:=hSw;go_simp
     simp only[Act.put]
     refine wpAnyF_take (i:=11) (.int .i64 m) rfl (by kernel_rfl) (by kernel_rfl) (by kernel_rfl) (by kernel_rfl) (fun _ _ _ h=>h) hHeld (by rfl) (fun w' hSw=>?_) ?_
     ·obtain⟨s5,s9,sb⟩:=hSw;go_simp
     simp only[Act.put]
     refine wpAnyF_step 12 (by kernel_rfl) rfl (fun K hK=>?_)
     go_simp
     have hcA:∀(b i:Nat),b<w4.heap.size→(w4.drew.alloc (.cells #[.int .i64 0,.int .i64 0,.int .i64 0,.bool false,.slice none 0 0] 65)).cell? ⟨b,i,none⟩=w4.cell? ⟨b,i,none⟩:=fun b i hb=>(below_new w4.drew _).cell (p:=⟨b,i,none⟩) hb
     refine hK _ _ ⟨(hcA g 5 hglt4).trans s5,(hcA f.P 9 hPlt4).trans c9,(hcA eb 1 heb4).trans b1⟩ (fun _=>?_)
     clear hK hcA hHeld
     clear K
     refine wpAnyF_turn 13 (by kernel_rfl) rfl (by decide) (by decide) (fun K hK=>?_)
     have hmx:m+1≤maxLen:=by simp only[maxLen];omega
     have hmy:(m+1)*56≤140737488355328:=by omega
     refine step_push4 w4.drew rfl _ _ 63 rfl f.B0 65 i0 _ 5 56 Try.underlying63 hi0 hz0 hsz0 hy0 rfl (by omega) (.slice XA m xc) m xs0 rfl U3.out.drew [.int .i64 0,.int .i64 0,.int .i64 0,.bool false,.slice none 0 0] 1 _ rfl rfl rfl (by simp[Value.oneCell']) Nat.zero_lt_one hmx hmy ?_ ?_
     ·show f.B0≤w4.heap.size
      omega
     intro gn cn wn hownN hgN hoN
     refine hK _ _ ?_
     clear hK
     clear K
     have hgun:¬g=gn:=fun e=>row_not hownN ((hoN.block g hglt4 (row_not U3.out U1.out (by decide))).trans U1.out) (by decide) (by rw[e];rfl)
     have gnot:=row_not U3.out U1.out (by decide)
     have N1:wn.heap[g]? =_:=(hoN.block g hglt4 gnot).trans U1.out
     have s5N:wn.cell? ⟨g,5,none⟩=some (.slice XA m xc):=by rw[Lib.cell_of_heap N1];rfl
     have z5N:=Lib.frozen_of_heap N1 5
     have zgN:∀i,wn.frozen? ⟨gn,i,none⟩=false:=own_frozen hownN
     obtain⟨n0,n1,n2,n3,n4⟩:wn.cell? ⟨gn,m*5,none⟩=some (.int .i64 0)∧wn.cell? ⟨gn,m*5+1,none⟩=some (.int .i64 0)∧wn.cell? ⟨gn,m*5+2,none⟩=some (.int .i64 0)∧wn.cell? ⟨gn,m*5+3,none⟩=some (.bool false)∧wn.cell? ⟨gn,m*5+4,none⟩=some (.slice none 0 0):=by
      obtain⟨b,off,hb,_,hc⟩:=(Reads.of_own hownN).2 (by omega)
      injection hb with hb
      injection hb with hb ho _
      subst hb ho
      have hlx:xs0.length=m*5:=U3.out.1
      have hc':∀j u,(xs0++ [.int .i64 0,.int .i64 0,.int .i64 0,.bool false,.slice none 0 0])[j]? =some u→wn.cell? ⟨gn,j,none⟩=some u:=fun j u hu=>by
       have:=hc j u hu
       simpa using this
      refine⟨hc' _ _ ?_,hc' _ _ ?_,hc' _ _ ?_,hc' _ _ ?_,hc' _ _ ?_⟩ <;> (rw[List.getElem?_append_right (by omega),hlx];simp)
     have fin:∀wF:World,wF.ownsRow f.B0 65 5 (.slice (some ⟨gn,0,none⟩) (m+1) cn) (m+1) (xs0++ [.int .i64 (-1),.int .i64 pn,.int .i64 ew,.bool false,.slice none 0 0])→Only (fun j=>j=gn∨j=g) wn wF→
      wF.heap[g]? =some (.cells (walkCells (x.sort:Nat) x.what x.start et x.over (.slice (some ⟨gn,0,none⟩) (m+1) cn) (.slice A0 x.alts.length ca0)) 116 (0,0))→
      Below f.B0 w wF∧PstAt wF f ⟨vo,g ::gs,.slice (some ⟨gn,0,none⟩) (m+1) cn ::ss⟩ {k with used:=k.used+1,opn:={x with state:=et,subs:=x.subs++ [Drv.leaf k.pos ew]} ::rest}:=by
      intro wF hr ho1 hgw
      have hN3:Only (fun j=>j=g∨(Value.slice XA m xc).ownBlock=some j) w4 wn:=Only.more ⟨hoN.os,hoN.tape,hoN.output,hoN.size,hoN.block⟩ fun _ _ e=>.inr e
      have hO:Only (fun j=>j=g∨(Value.slice XA m xc).ownBlock=some j) w4 wF:=hN3.trans ho1 fun j hj e=>by
       rcases e with rfl | e
       ·rcases hgN with h' | h'
        ·exact .inr h'
        ·exact absurd h' (by show¬w4.heap.size<_;omega)
       ·exact .inl e
      have hgn':(Value.slice XA m xc).ownBlock=some gn∨w4.heap.size≤gn:=hgN.imp id fun h'=>Nat.le_of_lt h'
      have hT:TrB w4 (TS f ⟨vo,g ::gs,.slice XA m xc ::ss⟩) f.B0 (Drv.leaf k.pos ew) [.int .i64 (-1),.int .i64 pn,.int .i64 ew,.bool false,.slice none 0 0]:=by
       unfold TrB
       refine⟨?_,TopT.nil _ _ _ _ _ _ _⟩
       unfold Drv.leaf TrV
       rw[hpn]
       refine⟨none,0,[],rfl,⟨rfl,fun e=>absurd e (Nat.lt_irrefl 0)⟩,?_⟩
       unfold TrsV
       rfl
      have hP:=HP4.out.pushTree et rfl U2.out U4.out hT HM.out U5.out hgn' hO hgw hr
      refine⟨HB4.out.trans (hO.below' (fun j e=>HP4.out.ge j ?_) (by omega)),hP⟩
      rcases e with rfl | e
      ·exact .inr (.inr (.inr (.inl (by simp))))
      ·exact .inr (.inr (.inr (.inr ⟨_,by simp,e⟩)))
     have FIN:=hid fin
     have hPge4:f.P≠g:=fun e=>HP4.out.neP.2.2.1 g (by simp) e.symm
     have hPgn:f.P≠gn:=fun e=>by
      rcases hgN with h' | h'
      ·exact HP4.out.neP.2.2.2 _ (by simp) gn h' e.symm
      ·have:w4.heap.size<gn:=h';omega
     have hN9:Only (fun j=>(Value.slice XA m xc).ownBlock=some j) w4 wn:=Only.more ⟨hoN.os,hoN.tape,hoN.output,hoN.size,hoN.block⟩ fun _ _ e=>e
     have c9N:=(hN9.cell (o:=9) hPlt4 (fun e=>HP4.out.neP.2.2.2 _ (by simp) _ e rfl)).trans c9
     have hPltn:f.P<wn.heap.size:=Nat.lt_of_lt_of_le hPlt4 hN9.size
     clear fin hN9 c9
     simp only[Act.put]
     refine wpAny_take (i:=14) (v:=.pointer (some ⟨gn,m*5,none⟩)) rfl (by kernel_rfl) (by kernel_rfl) (by kernel_rfl) (fun _ _ _ h=>h) (Or.inl ⟨by rfl,fun w=>(by go_simp;intro h';omega)⟩) ?_
     simp only[Act.put]
     refine wpAny_take (i:=16) (v:=.pointer (some ⟨g,0,none⟩)) rfl (by kernel_rfl) (by kernel_rfl) (by kernel_rfl) (fun _ _ _ h=>h) (Or.inl ⟨by rfl,fun w=>(by go_simp)⟩) ?_
     simp only[Act.put]
     refine wpAny_take (i:=17) (v:=.pointer (some ⟨g,5,none⟩)) rfl (by kernel_rfl) (by kernel_rfl) (by kernel_rfl) (fun _ _ _ h=>h) (Or.inl ⟨by rfl,fun w=>(by go_simp)⟩) ?_
     simp only[Act.put]
     refine wpAny_ready (rs:=[15,18]) (by kernel_rfl) (by simp) ?_
     refine AllReady.cons rfl (fun K hK=>?_) (AllReady.cons rfl (fun K hK=>?_) AllReady.nil)
     ·go_simp
      refine hK _ _ ?_
      clear hK
      clear K
      obtain⟨rA,oA⟩:=row_last5 hownN U3.out.1 (.int .i64 (-1)) (.int .i64 pn) (.int .i64 ew) (.bool false) (.slice none 0 0)
      generalize ((((wn.setCell ⟨gn,m*5,none⟩ (.int .i64 (-1))).setCell ⟨gn,m*5+1,none⟩ (.int .i64 pn)).setCell ⟨gn,m*5+2,none⟩ (.int .i64 ew)).setCell ⟨gn,m*5+3,none⟩ (.bool false)).setCell ⟨gn,m*5+4,none⟩ (.slice none 0 0)=wA at rA oA⊢
      have N2:=(oA.block g (heap_lt N1) hgun).trans N1
      have s5A:wA.cell? ⟨g,5,none⟩=some (.slice XA m xc):=by rw[Lib.cell_of_heap N2];rfl
      have z5A:=Lib.frozen_of_heap N2 5
      refine wpAny_ready (rs:=[18]) (by kernel_rfl) (by simp) (AllReady.cons rfl (fun K hK=>?_) AllReady.nil)
      go_simp
      refine hK _ _ (wpAny_done (by kernel_rfl) ?_ _)
      clear hK
      clear K
      have hoF:=(oA.more (S':=fun j=>j=gn∨j=g) fun _ _ e=>.inl e).trans ((Only.of_set wA g 5 (.slice (some ⟨gn,0,none⟩) (m+1) cn)).more (S':=fun j=>j=gn∨j=g) fun _ _ e=>.inr e) fun _ _ e=>e
      obtain⟨hbF,hPF⟩:=FIN.out _ (own_setTb rA N2 (by decide)) hoF (heap_setCell_same wA g 5 _ _ _ N2)
      have c9:=(hoF.cell (o:=9) hPltn (fun e=>e.elim hPgn hPge4)).trans c9N
      generalize wA.setCell ⟨g,5,none⟩ (.slice (some ⟨gn,0,none⟩) (m+1) cn)=wF at hbF hPF c9⊢
      obtain⟨rF,tF,qF,bF,sF,hparF,_⟩:=hPF.par
      have z9:=(hparF.cell 9).2
      have HF:=hid (hPF.posSet ((pn+1:Nat):Int))
      have HBF:=hid hbF
      clear hparF hPF hbF hoF rA oA N2 n0 n1 n2 n3 n4 c9N
      go_wp2_with fail
      go_end0
      refine⟨rfl,HBF.out.trans HF.out.2,⟨vo,g ::gs,.slice (some ⟨gn,0,none⟩) (m+1) cn ::ss⟩,?_⟩
      rw[HGM.out,show k.pos+1=((pn+1:Nat):Int) by omega]
      exact HF.out.1
     ·go_simp
      refine hK _ _ ?_
      clear hK
      clear K
      obtain⟨rA,oA⟩:=row_last5 (own_setTb (u:=.slice (some ⟨gn,0,none⟩) (m+1) cn) (o:=5) hownN N1 (by decide)) U3.out.1 (.int .i64 (-1)) (.int .i64 pn) (.int .i64 ew) (.bool false) (.slice none 0 0)
      have oB:=Only.of_set wn g 5 (.slice (some ⟨gn,0,none⟩) (m+1) cn)
      have N2:=heap_setCell_same wn g 5 _ _ (.slice (some ⟨gn,0,none⟩) (m+1) cn) N1
      have zB:∀i,(wn.setCell ⟨g,5,none⟩ (.slice (some ⟨gn,0,none⟩) (m+1) cn)).frozen? ⟨gn,i,none⟩=false:=fun i=>own_frozen (own_setTb hownN N1 (by decide)) i
      have cB:∀i,(wn.setCell ⟨g,5,none⟩ (.slice (some ⟨gn,0,none⟩) (m+1) cn)).cell? ⟨gn,i,none⟩=wn.cell? ⟨gn,i,none⟩:=fun i=>by simp only[World.cell?];rw[heap_setCell_other _ _ _ _ (fun e=>hgun e.symm)]
      have n0:=(cB _).trans n0
      have n1:=(cB _).trans n1
      have n2:=(cB _).trans n2
      have n3:=(cB _).trans n3
      have n4:=(cB _).trans n4
      clear cB zgN s5N z5N
      generalize wn.setCell ⟨g,5,none⟩ (.slice (some ⟨gn,0,none⟩) (m+1) cn)=wB at rA oA oB N2 zB n0 n1 n2 n3 n4⊢
      refine wpAny_ready (rs:=[15]) (by kernel_rfl) (by simp) (AllReady.cons rfl (fun K hK=>?_) AllReady.nil)
      go_simp
      refine hK _ _ (wpAny_done (by kernel_rfl) ?_ _)
      clear hK
      clear K
      have hoF:=(oB.more (S':=fun j=>j=gn∨j=g) fun _ _ e=>.inr e).trans (oA.more (S':=fun j=>j=gn∨j=g) fun _ _ e=>.inl e) fun _ _ e=>e
      obtain⟨hbF,hPF⟩:=FIN.out _ rA hoF ((oA.block g (heap_lt N2) hgun).trans N2)
      have c9:=(hoF.cell (o:=9) hPltn (fun e=>e.elim hPgn hPge4)).trans c9N
      generalize ((((wB.setCell ⟨gn,m*5,none⟩ (.int .i64 (-1))).setCell ⟨gn,m*5+1,none⟩ (.int .i64 pn)).setCell ⟨gn,m*5+2,none⟩ (.int .i64 ew)).setCell ⟨gn,m*5+3,none⟩ (.bool false)).setCell ⟨gn,m*5+4,none⟩ (.slice none 0 0)=wF at hbF hPF c9⊢
      obtain⟨rF,tF,qF,bF,sF,hparF,_⟩:=hPF.par
      have z9:=(hparF.cell 9).2
      have HF:=hid (hPF.posSet ((pn+1:Nat):Int))
      have HBF:=hid hbF
      clear hparF hPF hbF hoF rA oA N2 n0 n1 n2 n3 n4 c9N
      go_wp2_with fail
      go_end0
      refine⟨rfl,HBF.out.trans HF.out.2,⟨vo,g ::gs,.slice (some ⟨gn,0,none⟩) (m+1) cn ::ss⟩,?_⟩
      rw[HGM.out,show k.pos+1=((pn+1:Nat):Int) by omega]
      exact HF.out.1
    ·have HGM:=hid (by rw[if_neg hso]at HGM;exact HGM.out)
     have hd4:((x.sort:Int)==0)=false:=by simpa using hso
     have HF:=hid (HP4.out.posSet ((pn+1:Nat):Int))
     clear hso g0 g1 g2 g3 g4 hpar5
     go_wp2_with fail
     go_end0
     refine⟨rfl,HB4.out.trans HF.out.2,⟨vo,g ::gs,s ::ss⟩,?_⟩
     rw[HGM.out,hpn,show((pn:Int)+1)=((pn+1:Nat):Int) by omega]
     exact HF.out.1
   ·have HGM:=hid (HGM.out.trans (if_neg hk1))
    have hd1:(ek==1)=false:=by simpa using hk1
    clear hm hk1
    go_upto_region 2 with fail
    go_quiet (fail)
    go_upto_region 4 with fail
    generalize hw3:w2.drewN _=w3
    have ho3:Only (fun _=>False) w2 w3:=by rw[←hw3];exact⟨rfl,rfl,rfl,Nat.le_refl _,fun _ _ _=>rfl⟩
    have hP3:=HP2.out.still ho3
    have HB3:=hid (HB2.out.trans (ho3.below' (B:=f.B0) (fun _ e=>e.elim) (by omega)))
    have HT3:=hid ((ho3.block eb (by have:=heap_lt HT2.out;omega) (fun e=>e)).trans HT2.out)
    have ho:=HO.out
    obtain⟨hP4,hb4⟩:=hP3.stateSet (k:={k with used:=k.used+1}) ho et
    obtain⟨A0,ca0,xs0,g0,_⟩:=hP3.walks 0 x g s (by show k.opn[0]? =_;rw[ho];rfl) rfl rfl
    have q3:w3.cell? ⟨g,3,none⟩=some (.int .i64 x.state):=by rw[Lib.cell_of_heap g0];rfl
    have zq3:=Lib.frozen_of_heap g0 3
    have hge:g≠eb:=by have:=heap_lt HT2.out;omega
    have HT4:=hid ((heap_setCell_other _ _ _ _ (fun e=>hge e.symm):(w3.setCell ⟨g,3,none⟩ (.int .i64 et)).heap[eb]? =w3.heap[eb]?).trans HT3.out)
    obtain⟨b0,b1,b2⟩:=cells3e HT3.out
    have HP4:=hid hP4
    have HB4:=hid (HB3.out.trans hb4)
    clear hP3 hP4 hb4 ho ho3 hw3 g0 c1 c9 z9
    go_upto_region 5 with fail
    generalize w3.setCell ⟨g,3,none⟩ (.int .i64 et)=w4 at HP4 HB4 HT4⊢
    clear b0 b1 b2 q3 zq3 HP2 HP1 HT2 HT1 HT3 HB3
    obtain⟨b0,b1,b2⟩:=cells3e HT4.out
    have ho:=HO.out
    have hx:=HC.out.wk x (by rw[ho];simp)
    have hed:=HED.out
    have hw2:Drv.W1 f.c {x with state:=et}:=⟨hed.1,hx.2.1,hx.2.2.1,hx.2.2.2.1,hx.2.2.2.2⟩
    have hxm:x∈k.opn:=by rw[ho];simp
    have ht:=HPAY.out.1.top_set (x:=x) (x':={x with state:=et}) ho hw2 rfl rfl (HPAY.out.1.top x hxm) (Int.le_refl _) HPAY.out.1.pos1
    have hss:=HSP.out.1.top (x:=x) (x':={x with state:=et}) ho rfl rfl k.pos
    have hbb:Drv.BOk {k with used:=k.used+1,opn:={x with state:=et} ::rest}:=HB.out.top (x':={x with state:=et}) ho rfl
    have hsta:=HSTA.out.below HB4.out
    have hee:=HE.out
    by_cases hk2:ek=2
    ·have HGM:=hid (HGM.out.trans (if_pos hk2))
     have hC:=callsP_any w4 f ⟨vo,g ::gs,s ::ss⟩ {k with used:=k.used+1,opn:={x with state:=et} ::rest} ew HL.out HP4.out ht hss hsta (hed.2.1 hk2) hst hbb hee hg
     have HCC:=hid hC
     subst hk2
     clear ho hx hed hw2 hxm ht hss hbb hsta hee hC
     go_wp2_with fail
     refine HCC.out.mono ?_
     rintro r w' ⟨rfl,hb5,v5,hP5⟩
     have hfin:=hid (show GoesP f k ⟨2,ew,et⟩ w (.returned (.tuple #[])) w' from⟨rfl,HB4.out.trans hb5,v5,by rw[HGM.out];exact hP5⟩)
     clear hb5 hP5 HCC
     go_wp2
     go_end0
     exact hfin.out
    ·have HGM:=hid (HGM.out.trans (if_neg hk2))
     have hd2:(ek==2)=false:=by simpa using hk2
     by_cases hk3:ek=3
     ·have HGM:=hid (HGM.out.trans (if_pos hk3))
      have hC:=asksP_any w4 f ⟨vo,g ::gs,s ::ss⟩ {k with used:=k.used+1,opn:={x with state:=et} ::rest} ew HL.out HP4.out ht hss hsta (hed.2.2 hk3) hbb hee hg hS
      have HCC:=hid hC
      subst hk3
      clear ho hx hed hw2 hxm ht hss hbb hsta hee hC hk2
      go_wp2_with fail
      refine HCC.out.mono ?_
      rintro r w' ⟨rfl,hb5,v5,hP5⟩
      have hfin:=hid (show GoesP f k ⟨3,ew,et⟩ w (.returned (.tuple #[])) w' from⟨rfl,HB4.out.trans hb5,v5,by rw[HGM.out];exact hP5⟩)
      clear hb5 hP5 HCC
      go_wp2
      go_end0
      exact hfin.out
     ·have HGM:=hid (HGM.out.trans (if_neg hk3))
      have hd3:(ek==3)=false:=by simpa using hk3
      clear ho hx hed hw2 hxm ht hss hbb hsta hee hk2 hk3
      go_wp2_with fail
      go_end0
      refine⟨rfl,HB4.out,⟨vo,g ::gs,s ::ss⟩,?_⟩
      rw[HGM.out]
      exact HP4.out
end Go.Proofs.Ytgflanlniejflaa
