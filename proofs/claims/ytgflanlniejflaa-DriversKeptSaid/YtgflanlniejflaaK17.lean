/-
  Drivers: Pst11, Pst12 (texts joined).
-/
import Derived.Test.YtgflanlniejflaaK16
namespace Go.Proofs.Ytgflanlniejflaa
open Go.RowKit Go.Maps
open Go.Sort (grow)
set_option maxRecDepth 100000
def AskP (f:Fx) (v:Vx) (k:Drv.Cf) (r:Option Int) (w:World) (e:Ending) (w':World):Prop:=
 ∃t,(∀u,r=some u→t=u)∧e= .returned (.tuple #[.int .i64 t,.bool r.isSome])∧Below f.B0 w w'∧Only (fun j=>j=f.pc.M) w w'∧PstAt w' f v k
section
variable {w w':World}{f:Fx}{v:Vx}{k:Drv.Cf}
theorem PstAt.asked (h:PstAt w f v k) (ho:Only (fun j=>j=f.pc.M) w w')
 (hm:MemoAt w' f.pc.M f.br f.bp k.known.length f.c.starts.length (f.c.decs.length+f.c.preds.length:Nat) f.c.w.length (fRules k.known) (fPicks f.c.decs.length k.known)):PstAt w' f v k:=
 h.memoSet (ho.more fun _ _ e=>.inl e) k.known hm
end
theorem ruleP (w:World) (f:Fx) (v:Vx) (k:Drv.Cf) (a c:Int) (h:PstAt w f v k) (ha:Drv.InR f.c.starts.length a) (hs:f.c.starts.length≤64) (hc0:0≤c) (hc1:c≤f.c.w.length) (hw:f.c.w.length≤16384):
 Calls Try.prog 101 #[.pointer (some ⟨f.pc.M,0,none⟩),.int .i64 a,.int .i64 c] w (AskP f v k (Drv.know k.known 2 a c) w):=by
 have hh:hasB f.c.starts.length f.c.w.length a c=true:=by unfold hasB;simp only[Bool.and_eq_true,decide_eq_true_eq];exact⟨⟨⟨ha.1,ha.2⟩,hc0⟩,hc1⟩
 refine(Rule_any f.pc.M f.br f.bp k.known.length _ _ _ a c _ _ w (i64_small (by have:=ha.1;omega) (by have:=ha.2;omega)) (i64_small (by omega) (by omega)) h.memo hh).mono ?_
 rintro e w' ⟨⟨t,ht,rfl⟩,ho,hm⟩
 exact⟨t,ht,rfl,h.below ho fun j e=>h.geM j (.inl e),ho,h.asked ho hm⟩
theorem pick0P (w:World) (f:Fx) (v:Vx) (k:Drv.Cf) (a c:Int) (h:PstAt w f v k) (ha:Drv.InR f.c.decs.length a) (hs:f.c.decs.length+f.c.preds.length≤65536) (hc0:0≤c) (hc1:c≤f.c.w.length) (hw:f.c.w.length≤16384):
 Calls Try.prog 86 #[.pointer (some ⟨f.pc.M,0,none⟩),.int .i64 a,.int .i64 c] w (AskP f v k (Drv.know k.known 0 a c) w):=by
 have ha2:=ha.2
 have hh:hasB (f.c.decs.length+f.c.preds.length:Nat) f.c.w.length a c=true:=by unfold hasB;simp only[Bool.and_eq_true,decide_eq_true_eq];exact⟨⟨⟨ha.1,by omega⟩,hc0⟩,hc1⟩
 have e1:fPicks f.c.decs.length k.known a c=Drv.know k.known 0 a c:=by unfold fPicks;rw[if_pos ha2]
 refine(Pick_any f.pc.M f.br f.bp k.known.length _ _ _ a c _ _ w (i64_small (by have:=ha.1;omega) (by omega)) (i64_small (by omega) (by omega)) h.memo hh).mono ?_
 rintro e w' ⟨⟨t,ht,rfl⟩,ho,hm⟩
 rw[e1]at ht⊢
 exact⟨t,ht,rfl,h.below ho fun j e=>h.geM j (.inl e),ho,h.asked ho hm⟩
theorem pick1P (w:World) (f:Fx) (v:Vx) (k:Drv.Cf) (q c:Int) (h:PstAt w f v k) (ha:Drv.InR f.c.preds.length q) (hs:f.c.decs.length+f.c.preds.length≤65536) (hc0:0≤c) (hc1:c≤f.c.w.length) (hw:f.c.w.length≤16384):
 Calls Try.prog 86 #[.pointer (some ⟨f.pc.M,0,none⟩),.int .i64 (f.c.decs.length+q),.int .i64 c] w (AskP f v k (Drv.know k.known 1 q c) w):=by
 have ha1:=ha.1
 have ha2:=ha.2
 have hh:hasB (f.c.decs.length+f.c.preds.length:Nat) f.c.w.length (f.c.decs.length+q) c=true:=by unfold hasB;simp only[Bool.and_eq_true,decide_eq_true_eq];exact⟨⟨⟨by omega,by omega⟩,hc0⟩,hc1⟩
 have e1:fPicks f.c.decs.length k.known (f.c.decs.length+q) c=Drv.know k.known 1 q c:=by
  unfold fPicks
  rw[if_neg (by omega)]
  congr 1
  omega
 refine(Pick_any f.pc.M f.br f.bp k.known.length _ _ _ (f.c.decs.length+q) c _ _ w (i64_small (by omega) (by omega)) (i64_small (by omega) (by omega)) h.memo hh).mono ?_
 rintro e w' ⟨⟨t,ht,rfl⟩,ho,hm⟩
 rw[e1]at ht⊢
 exact⟨t,ht,rfl,h.below ho fun j e=>h.geM j (.inl e),ho,h.asked ho hm⟩
theorem looking_nonreal (k:Drv.Cf):Drv.looking k=decide (0<Drv.nonreal k.opn):=by
 unfold Drv.looking Drv.nonreal
 induction k.opn with
 | nil=>rfl
 | cons x l ih=>
  rw[List.any_cons,ih]
  by_cases h:x.sort=0
  ·rw[List.filter_cons_of_neg (by simp[h])];simp[h]
  ·rw[List.filter_cons_of_pos (by simp[h])];simp[h]
end Go.Proofs.Ytgflanlniejflaa
namespace Go.Proofs.Ytgflanlniejflaa
open Go.RowKit Go.Maps
open Go.Sort (grow)
set_option maxRecDepth 100000
def CallsP (f:Fx) (k:Drv.Cf) (r:Int) (w:World) (e:Ending) (w':World):Prop:=e= .returned (.tuple #[])∧Below f.B0 w w'∧∃v',PstAt w' f v' (Drv.callsM f.c r k)
set_option maxHeartbeats 1600000 in
theorem calls_real (w:World) (f:Fx) (v:Vx) (k:Drv.Cf) (r:Int) (hl:Lim f) (h:PstAt w f v k) (hc:Drv.COk f.c k) (hs:Drv.SOk k) (hsta:Sta w f) (hr:Drv.InR f.c.starts.length r) (hst:f.c.stops.length=f.c.starts.length) (hlk:Drv.nonreal k.opn=0):
 Calls Try.prog 90 #[.pointer (some ⟨f.P,0,none⟩),.int .i64 r] w (CallsP f k r w):=by
 have hbm:Drv.callsM f.c r k=Drv.beginM f.c ⟨0,r,0,Drv.at0 f.c.starts r,Drv.at0 f.c.stops r,[],[]⟩ k:=by
  unfold Drv.callsM
  rw[looking_nonreal]
  rw[if_neg (by simp;omega)]
 obtain⟨rn,rfl,hrn⟩:=InR.nat hr
 obtain⟨sb,soff,sc,hsb,d1,s1⟩:=hsta.starts.get hrn
 have hst2:rn<f.c.stops.length:=by rw[hst];exact hrn
 obtain⟨pb,poff,pc,hpb,d2,s2⟩:=hsta.stops.get hst2
 rw[at0_at hrn,at0_at hst2]at hbm
 have hBM:=hid hbm
 obtain⟨r,t,q,b,s,hpar,_⟩:=h.par
 have c0:=(hpar.cell 0).1
 have c2:=(hpar.cell 2).1
 have c9:=(hpar.cell 9).1
 have c10:=(hpar.cell 10).1
 simp only[parCells,List.getElem?_toArray,List.getElem?_cons_succ,List.getElem?_cons_zero]at c0 c2 c9 c10
 have hPlt:=h.ltTS f.P (.inl rfl)
 have hPge:=h.geP
 have hDlt:=hsta.dlt
 have hsz:=hc.size
 have hld:=hl.depth
 have hp0:=hc.pos0
 have hPM:f.P≠f.pc.M:=fun e=>h.neP.1 f.P (.inl e) rfl
 have hp1:=hc.pos1
 have hsp0:=hs.1
 have hsp1:k.spec≤4000000000:=by have h1:=hs.2;have h2:=Drv.pot_nonneg k.opn;have h3:=hc.used1;have h4:=hl.fuel;omega
 have H:=hid h
 have HL:=hid hl
 have HPAR:=hid hpar
 generalize f.c.starts[rn]=sv at*
 generalize f.c.stops[rn]=pv at*
 obtain⟨sn,hsn⟩:∃sn,f.c.starts.length=sn:=⟨_,rfl⟩
 obtain⟨pn,hpn⟩:∃pn,f.c.stops.length=pn:=⟨_,rfl⟩
 obtain⟨nr,hnr⟩:∃nr,Drv.nonreal k.opn=nr:=⟨_,rfl⟩
 rw[hsn]at d1 hrn
 rw[hpn]at d2 hst2
 rw[hnr]at c10 hlk
 subst hlk
 have hr1:(rn:Int)<(sn:Int):=by omega
 have hr2:(rn:Int)<(pn:Int):=by omega
 clear h hl hpar hc hs hsta hsn hpn hnr hst hbm
 go_enter Try.func90,Try.ntmps90
 have hS:∀o:Obj,(w.alloc o).drew.cell? ⟨f.P,0,none⟩=some (.pointer (some ⟨f.pc.D,0,none⟩))∧(w.alloc o).drew.cell? ⟨f.pc.D,1,none⟩=some (.slice (some ⟨sb,soff,none⟩) sn sc)∧(w.alloc o).drew.cell? ⟨f.pc.D,2,none⟩=some (.slice (some ⟨pb,poff,none⟩) pn pc)∧(w.alloc o).drew.cell? ⟨sb,soff+rn,none⟩=some (.int .i64 sv)∧(w.alloc o).drew.cell? ⟨pb,poff+rn,none⟩=some (.int .i64 pv):=fun o=>by
  have hn:∀(b i:Nat),b<w.heap.size→(w.alloc o).drew.cell? ⟨b,i,none⟩=w.cell? ⟨b,i,none⟩:=fun b i hb=>(below_new w o).drew.cell (p:=⟨b,i,none⟩) hb
  exact⟨(hn _ _ hPlt).trans c0,(hn _ _ (by omega)).trans d1,(hn _ _ (by omega)).trans d2,(hn _ _ (by omega)).trans s1,(hn _ _ (by omega)).trans s2⟩
 go_upto_region 6 with fail
 go_region_held3 (fun w'=>w'.cell? ⟨f.P,0,none⟩=some (.pointer (some ⟨f.pc.D,0,none⟩))∧w'.cell? ⟨f.pc.D,1,none⟩=some (.slice (some ⟨sb,soff,none⟩) sn sc)∧w'.cell? ⟨f.pc.D,2,none⟩=some (.slice (some ⟨pb,poff,none⟩) pn pc)∧w'.cell? ⟨sb,soff+rn,none⟩=some (.int .i64 sv)∧w'.cell? ⟨pb,poff+rn,none⟩=some (.int .i64 pv)) (first | assumption | exact⟨c0,d1,d2,s1,s2⟩ | exact hS _) (fail)
 have hb2:Below w.heap.size w (w.alloc (.cells #[.int .i64 0,.int .i64 rn,.int .i64 0,.int .i64 sv,.int .i64 pv,.slice none 0 0,.slice none 0 0] 116)).drew:=(below_new w _).drew
 have T2:(w.alloc (.cells #[.int .i64 0,.int .i64 rn,.int .i64 0,.int .i64 sv,.int .i64 pv,.slice none 0 0,.slice none 0 0] 116)).drew.heap[w.heap.size]? =some (.cells #[.int .i64 0,.int .i64 rn,.int .i64 0,.int .i64 sv,.int .i64 pv,.slice none 0 0,.slice none 0 0] 116 (0,0)):=heap_alloc_new w _
 have hsz2:(w.alloc (.cells #[.int .i64 0,.int .i64 rn,.int .i64 0,.int .i64 sv,.int .i64 pv,.slice none 0 0,.slice none 0 0] 116)).drew.heap.size=w.heap.size+1:=size_alloc w _
 generalize (w.alloc (.cells #[.int .i64 0,.int .i64 rn,.int .i64 0,.int .i64 sv,.int .i64 pv,.slice none 0 0,.slice none 0 0] 116)).drew=w2 at hb2 T2 hsz2⊢
 generalize htb:w.heap.size=tb at*
 have ho2:Only (fun _=>False) w w2:=Only.of_below (by rw[htb];exact hb2)
 have c10:=(ho2.cell (o:=10) (by omega) (fun e=>e)).trans c10
 obtain⟨t0,t1,t2,t3,t4,t5,t6⟩:=walk_cells T2
 have z0:=Lib.frozen_of_heap T2 0
 clear hS c0 d1 d2 s1 s2
 have HP2:=hid (H.out.still ho2)
 have HB2:=hid (ho2.below' (B:=f.B0) (fun _ e=>e.elim) (by omega))
 clear T2 ho2 hb2
 go_wp2_with fail
 have hB:=beginP_any w2 f v k ⟨0,rn,0,sv,pv,[],[]⟩ none 0 0 HP2.out rfl ⟨rfl,fun e=>absurd e (Nat.lt_irrefl 0)⟩ (Nat.le_refl 0) HL.out.pdepth (by omega) hsp0 hsp1
 refine hB.mono ?_
 rintro e w4 ⟨rfl,hb4,v4,hP4⟩
 have HB4:=hid (HB2.out.trans hb4)
 have HP4:=hid hP4
 clear hB hb4 hP4 t0 t1 t2 t3 t4 t5 t6 c10
 go_wp2
 go_end0
 refine⟨rfl,HB4.out,v4,?_⟩
 rw[hBM.out]
 exact HP4.out
set_option maxHeartbeats 1600000 in
theorem calls_new (w:World) (f:Fx) (v:Vx) (k:Drv.Cf) (r:Int) (hl:Lim f) (h:PstAt w f v k) (hc:Drv.COk f.c k) (hs:Drv.SOk k) (hsta:Sta w f) (hr:Drv.InR f.c.starts.length r) (hst:f.c.stops.length=f.c.starts.length) (hlk:0<Drv.nonreal k.opn) (hkn:Drv.know k.known 2 r k.pos=none):
 Calls Try.prog 90 #[.pointer (some ⟨f.P,0,none⟩),.int .i64 r] w (CallsP f k r w):=by
 have hbm:Drv.callsM f.c r k=Drv.beginM f.c ⟨1,r,0,Drv.at0 f.c.starts r,Drv.at0 f.c.stops r,[],[]⟩ k:=by
  unfold Drv.callsM
  rw[looking_nonreal]
  rw[if_pos (by simpa using hlk),hkn]
 obtain⟨rn,rfl,hrn⟩:=InR.nat hr
 obtain⟨sb,soff,sc,hsb,d1,s1⟩:=hsta.starts.get hrn
 have hst2:rn<f.c.stops.length:=by rw[hst];exact hrn
 obtain⟨pb,poff,pc,hpb,d2,s2⟩:=hsta.stops.get hst2
 rw[at0_at hrn,at0_at hst2]at hbm
 have hBM:=hid hbm
 obtain⟨r,t,q,b,s,hpar,_⟩:=h.par
 have c0:=(hpar.cell 0).1
 have c2:=(hpar.cell 2).1
 have c9:=(hpar.cell 9).1
 have c10:=(hpar.cell 10).1
 simp only[parCells,List.getElem?_toArray,List.getElem?_cons_succ,List.getElem?_cons_zero]at c0 c2 c9 c10
 have hPlt:=h.ltTS f.P (.inl rfl)
 have hPge:=h.geP
 have hDlt:=hsta.dlt
 have hsz:=hc.size
 have hld:=hl.depth
 have hp0:=hc.pos0
 have hPM:f.P≠f.pc.M:=fun e=>h.neP.1 f.P (.inl e) rfl
 have hp1:=hc.pos1
 have hsp0:=hs.1
 have hsp1:k.spec≤4000000000:=by have h1:=hs.2;have h2:=Drv.pot_nonneg k.opn;have h3:=hc.used1;have h4:=hl.fuel;omega
 have hR:=ruleP w.drew f v k rn k.pos (h.still ⟨rfl,rfl,rfl,Nat.le_refl _,fun _ _ _=>rfl⟩) hr hl.starts hp0 hp1 hl.toks
 rw[hkn]at hR
 have hlk1:(0:Int)<(Drv.nonreal k.opn:Nat):=by omega
 have H:=hid h
 have HL:=hid hl
 have HPAR:=hid hpar
 generalize f.c.starts[rn]=sv at*
 generalize f.c.stops[rn]=pv at*
 obtain⟨sn,hsn⟩:∃sn,f.c.starts.length=sn:=⟨_,rfl⟩
 obtain⟨pn,hpn⟩:∃pn,f.c.stops.length=pn:=⟨_,rfl⟩
 obtain⟨nr,hnr⟩:∃nr,Drv.nonreal k.opn=nr:=⟨_,rfl⟩
 rw[hsn]at d1 hrn
 rw[hpn]at d2 hst2
 rw[hnr]at c10 hlk
 rw[hnr]at hlk1
 have hr1:(rn:Int)<(sn:Int):=by omega
 have hr2:(rn:Int)<(pn:Int):=by omega
 clear h hl hpar hc hs hsta hsn hpn hnr hst hbm hkn
 go_enter Try.func90,Try.ntmps90
 go_upto_region 1 with fail
 go_region_held3 (fun w'=>w'.cell? ⟨f.P,2,none⟩=some (.pointer (some ⟨f.pc.M,0,none⟩))∧w'.cell? ⟨f.P,9,none⟩=some (.int .i64 k.pos)) (first | assumption | exact⟨c2,c9⟩ | (exact⟨(ho1.cell hPlt (fun e=>hPM e)).trans c2,(ho1.cell hPlt (fun e=>hPM e)).trans c9⟩)) (first | (go_simp;go_at_call 101;refine hR.mono ?_;rintro e w1 ⟨tt,_,rfl,hb1,ho1,hP1⟩;dsimp only))
 have hDM:f.pc.D≠f.pc.M:=fun e=>by have:=H.out.geM f.pc.M (.inl rfl);omega
 have hsM:sb≠f.pc.M:=fun e=>by have:=H.out.geM f.pc.M (.inl rfl);omega
 have hpM:pb≠f.pc.M:=fun e=>by have:=H.out.geM f.pc.M (.inl rfl);omega
 have hsz1:w.heap.size≤w1.heap.size:=ho1.size
 have c0:=(ho1.cell (o:=0) hPlt (fun e=>hPM e)).trans c0
 have c10:=(ho1.cell (o:=10) hPlt (fun e=>hPM e)).trans c10
 have d1:=(ho1.cell (o:=1) (show f.pc.D<w.heap.size by omega) (fun e=>hDM e)).trans d1
 have d2:=(ho1.cell (o:=2) (show f.pc.D<w.heap.size by omega) (fun e=>hDM e)).trans d2
 have s1:=(ho1.cell (o:=soff+rn) (show sb<w.heap.size by omega) (fun e=>hsM e)).trans s1
 have s2:=(ho1.cell (o:=poff+rn) (show pb<w.heap.size by omega) (fun e=>hpM e)).trans s2
 have hPlt:=hP1.ltTS f.P (.inl rfl)
 have HP1:=hid hP1
 have HB1:=hid (show Below f.B0 w w1 from⟨hb1.os,hb1.tape,hb1.output,hb1.size,hb1.block⟩)
 clear hR hP1 hb1 ho1 c2 c9 HPAR
 have hS:∀o:Obj,(w1.alloc o).drew.cell? ⟨f.P,0,none⟩=some (.pointer (some ⟨f.pc.D,0,none⟩))∧(w1.alloc o).drew.cell? ⟨f.pc.D,1,none⟩=some (.slice (some ⟨sb,soff,none⟩) sn sc)∧(w1.alloc o).drew.cell? ⟨f.pc.D,2,none⟩=some (.slice (some ⟨pb,poff,none⟩) pn pc)∧(w1.alloc o).drew.cell? ⟨sb,soff+rn,none⟩=some (.int .i64 sv)∧(w1.alloc o).drew.cell? ⟨pb,poff+rn,none⟩=some (.int .i64 pv):=fun o=>by
  have hn:∀(b i:Nat),b<w1.heap.size→(w1.alloc o).drew.cell? ⟨b,i,none⟩=w1.cell? ⟨b,i,none⟩:=fun b i hb=>(below_new w1 o).drew.cell (p:=⟨b,i,none⟩) hb
  exact⟨(hn _ _ hPlt).trans c0,(hn _ _ (by omega)).trans d1,(hn _ _ (by omega)).trans d2,(hn _ _ (by omega)).trans s1,(hn _ _ (by omega)).trans s2⟩
 go_upto_region 6 with fail
 go_region_held3 (fun w'=>w'.cell? ⟨f.P,0,none⟩=some (.pointer (some ⟨f.pc.D,0,none⟩))∧w'.cell? ⟨f.pc.D,1,none⟩=some (.slice (some ⟨sb,soff,none⟩) sn sc)∧w'.cell? ⟨f.pc.D,2,none⟩=some (.slice (some ⟨pb,poff,none⟩) pn pc)∧w'.cell? ⟨sb,soff+rn,none⟩=some (.int .i64 sv)∧w'.cell? ⟨pb,poff+rn,none⟩=some (.int .i64 pv)) (first | assumption | exact⟨c0,d1,d2,s1,s2⟩ | exact hS _) (fail)
 have hb2:Below w1.heap.size w1 (w1.alloc (.cells #[.int .i64 0,.int .i64 rn,.int .i64 0,.int .i64 sv,.int .i64 pv,.slice none 0 0,.slice none 0 0] 116)).drew:=(below_new w1 _).drew
 have T2:(w1.alloc (.cells #[.int .i64 0,.int .i64 rn,.int .i64 0,.int .i64 sv,.int .i64 pv,.slice none 0 0,.slice none 0 0] 116)).drew.heap[w1.heap.size]? =some (.cells #[.int .i64 0,.int .i64 rn,.int .i64 0,.int .i64 sv,.int .i64 pv,.slice none 0 0,.slice none 0 0] 116 (0,0)):=heap_alloc_new w1 _
 have hsz2:(w1.alloc (.cells #[.int .i64 0,.int .i64 rn,.int .i64 0,.int .i64 sv,.int .i64 pv,.slice none 0 0,.slice none 0 0] 116)).drew.heap.size=w1.heap.size+1:=size_alloc w1 _
 generalize (w1.alloc (.cells #[.int .i64 0,.int .i64 rn,.int .i64 0,.int .i64 sv,.int .i64 pv,.slice none 0 0,.slice none 0 0] 116)).drew=w2 at hb2 T2 hsz2⊢
 generalize htb:w1.heap.size=tb at*
 have ho2:Only (fun _=>False) w1 w2:=Only.of_below (by rw[htb];exact hb2)
 have c10:=(ho2.cell (o:=10) (by omega) (fun e=>e)).trans c10
 obtain⟨t0,t1,t2,t3,t4,t5,t6⟩:=walk_cells T2
 have z0:=Lib.frozen_of_heap T2 0
 clear hS c0 d1 d2 s1 s2
 have T3:=heap_setCell_same w2 tb 0 _ _ (.int .i64 1) T2
 have ho3:Only (fun _=>False) w1 (w2.setCell ⟨tb,0,none⟩ (.int .i64 1)):=ho2.trans ((Only.of_set w2 tb 0 (.int .i64 1))) fun b hb e=>by omega
 have HP2:=hid (HP1.out.still ho3)
 have HB2:=hid (HB1.out.trans (ho3.below' (B:=f.B0) (fun _ e=>e.elim) (by omega)))
 have T3:=hid T3
 clear T2 ho2 hb2 ho3
 go_upto_region 9 with fail
 clear t0 t1 t2 t3 t4 t5 t6
 obtain⟨t0,t1,t2,t3,t4,t5,t6⟩:=walk_cells (sv:=.slice none 0 0) (av:=.slice none 0 0) T3.out
 generalize w2.setCell ⟨tb,0,none⟩ (.int .i64 1)=w3 at HP2 HB2 T3 t0 t1 t2 t3 t4 t5 t6⊢
 go_wp2_with fail
 have hB:=beginP_any w3 f v k ⟨1,rn,0,sv,pv,[],[]⟩ none 0 0 HP2.out rfl ⟨rfl,fun e=>absurd e (Nat.lt_irrefl 0)⟩ (Nat.le_refl 0) HL.out.pdepth (by omega) hsp0 hsp1
 refine hB.mono ?_
 rintro e w4 ⟨rfl,hb4,v4,hP4⟩
 have HB4:=hid (HB2.out.trans hb4)
 have HP4:=hid hP4
 clear hB hb4 hP4 t0 t1 t2 t3 t4 t5 t6 c10
 go_wp2
 go_end0
 refine⟨rfl,HB4.out,v4,?_⟩
 rw[hBM.out]
 exact HP4.out
set_option maxHeartbeats 1600000 in
theorem calls_known (w:World) (f:Fx) (v:Vx) (k:Drv.Cf) (r:Int) (hl:Lim f) (h:PstAt w f v k) (hc:Drv.COk f.c k) (hs:Drv.SOk k) (hsta:Sta w f) (hr:Drv.InR f.c.starts.length r) (hb:Drv.BOk k) (he:k.ended=false) (hg:Drv.Rng f.c) (hlk:0<Drv.nonreal k.opn) (tn:Int) (hkn:Drv.know k.known 2 r k.pos=some tn):
 Calls Try.prog 90 #[.pointer (some ⟨f.P,0,none⟩),.int .i64 r] w (CallsP f k r w):=by
 have hcm:Drv.callsM f.c r k=if tn= -1 then Drv.failsM f.c k else {k with pos:=tn}:=by
  unfold Drv.callsM
  rw[looking_nonreal,if_pos (by simpa using hlk),hkn]
 obtain⟨rn,rfl,hrn⟩:=InR.nat hr
 have HCM:=hid hcm
 obtain⟨r,t,q,b,s,hpar,_⟩:=h.par
 have c2:=(hpar.cell 2).1
 have c9:=(hpar.cell 9).1
 have c10:=(hpar.cell 10).1
 simp only[parCells,List.getElem?_toArray,List.getElem?_cons_succ,List.getElem?_cons_zero]at c2 c9 c10
 have hPlt:=h.ltTS f.P (.inl rfl)
 have hp0:=hc.pos0
 have hp1:=hc.pos1
 have hPM:f.P≠f.pc.M:=fun e=>h.neP.1 f.P (.inl e) rfl
 have hR:=ruleP w.drew f v k rn k.pos (h.still ⟨rfl,rfl,rfl,Nat.le_refl _,fun _ _ _=>rfl⟩) hr hl.starts hp0 hp1 hl.toks
 rw[hkn]at hR
 have hlk1:(0:Int)<(Drv.nonreal k.opn:Nat):=by omega
 have HL:=hid hl
 have HC:=hid hc
 have HS:=hid hs
 have HB:=hid hb
 have HE:=hid he
 have HSTA:=hid hsta
 obtain⟨nr,hnr⟩:∃nr,Drv.nonreal k.opn=nr:=⟨_,rfl⟩
 rw[hnr]at c10 hlk hlk1
 clear h hl hpar hc hs hsta hnr hcm hkn hb he
 go_enter Try.func90,Try.ntmps90
 go_upto_region 1 with fail
 go_region_held3 (fun w'=>w'.cell? ⟨f.P,2,none⟩=some (.pointer (some ⟨f.pc.M,0,none⟩))∧w'.cell? ⟨f.P,9,none⟩=some (.int .i64 k.pos)) (first | assumption | exact⟨c2,c9⟩ | (exact⟨(ho1.cell hPlt (fun e=>hPM e)).trans c2,(ho1.cell hPlt (fun e=>hPM e)).trans c9⟩)) (first | (go_simp;go_at_call 101;refine hR.mono ?_;rintro e w1 ⟨tt,htt,rfl,hb1,ho1,hP1⟩;dsimp only))
 have htt:=htt tn rfl
 subst htt
 have HP1:=hid hP1
 have HB1:=hid (show Below f.B0 w w1 from⟨hb1.os,hb1.tape,hb1.output,hb1.size,hb1.block⟩)
 have z9:w1.frozen? ⟨f.P,9,none⟩=false:=by
  obtain⟨r,t,q,b,s,hpar,_⟩:=hP1.par
  exact(hpar.cell 9).2
 have c9:=(ho1.cell (o:=9) hPlt (fun e=>hPM e)).trans c9
 clear hR hP1 hb1 ho1 c2
 by_cases hto:tt= -1
 ·have HCM1:=hid (HCM.out.trans (if_pos hto))
  subst hto
  clear c9 z9
  go_upto_region 4 with fail
  go_wp2_with fail
  refine(failsP_any _ f v k HL.out HP1.out HC.out HB.out HS.out HE.out (HSTA.out.below HB1.out) hg).mono ?_
  rintro e w4 ⟨rfl,hb4,v4,hP4⟩
  have HB4:=hid (HB1.out.trans hb4)
  have HP4:=hid hP4
  clear hb4 hP4
  go_wp2
  go_end0
  refine⟨rfl,HB4.out,v4,?_⟩
  rw[HCM1.out]
  exact HP4.out
 ·have hd:(tt== -1)=false:=by simpa using hto
  have HCM1:=hid (HCM.out.trans (if_neg hto))
  have HF:=hid (HP1.out.posSet tt)
  clear hto
  go_wp2_with fail
  go_end0
  refine⟨rfl,HB1.out.trans HF.out.2,v,?_⟩
  rw[HCM1.out]
  exact HF.out.1
theorem callsP_any (w:World) (f:Fx) (v:Vx) (k:Drv.Cf) (r:Int) (hl:Lim f) (h:PstAt w f v k) (hc:Drv.COk f.c k) (hs:Drv.SOk k) (hsta:Sta w f) (hr:Drv.InR f.c.starts.length r) (hst:f.c.stops.length=f.c.starts.length) (hb:Drv.BOk k) (he:k.ended=false) (hg:Drv.Rng f.c):
 Calls Try.prog 90 #[.pointer (some ⟨f.P,0,none⟩),.int .i64 r] w (CallsP f k r w):=by
 by_cases hlk:0<Drv.nonreal k.opn
 ·cases hkn:Drv.know k.known 2 r k.pos with
  | none=>exact calls_new w f v k r hl h hc hs hsta hr hst hlk hkn
  | some tn=>exact calls_known w f v k r hl h hc hs hsta hr hb he hg hlk tn hkn
 ·exact calls_real w f v k r hl h hc hs hsta hr hst (by omega)
end Go.Proofs.Ytgflanlniejflaa
