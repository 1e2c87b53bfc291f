/-
  Drivers: decides at a decision: the walk.
-/
import Derived.Test.YtgflanlniejflaaK11
import Derived.Test.YtgflanlniejflaaK18
namespace Go.Proofs.Ytgflanlniejflaa
open Go.RowKit Go.Maps
open Go.Sort (grow)
set_option maxRecDepth 100000
structure Auts (w:World) (f:Fx) (au:List (List Drv.LSt)):Prop where
 sta:Sta w f
 autos:∃A c vs,w.cell? ⟨f.pc.D,5,none⟩=some (.slice A au.length c)∧Reads w f.B0 1 A au.length vs∧∀i (h:i<au.length),∃Ai ci,vs[i]? =some (.slice Ai au[i].length ci)∧AutR w f.B0 Ai au[i]
 alen:au.length=f.c.decs.length
 run:∀d pos,f.c.run d pos=Drv.runA (au.getD d.toNat []) (f.c.w.drop pos.toNat)
 small:∀a∈au,a.length≤1000000∧∀s∈a,s.alts.length≤1000000∧s.edges.length≤1000000
 place:∃pl,NumsAt w f.pc.D f.B0 6 pl∧pl.length=f.c.states.length∧∀i (h:i<pl.length),(f.c.st i).ends.length≠0→pl[i]=f.c.dec i
 pick:∀a∈au,∀s∈a,s.kind=1→s.alts≠[]
 room:f.pc.wn≤f.pc.wc∧(f.pc.WA=none→f.pc.wc=0)
theorem Auts.below {w w':World}{f:Fx}{autos:List (List Drv.LSt)}(h:Auts w f autos) (hb:Below f.B0 w w'):Auts w' f autos:=by
 obtain⟨A,c,vs,h1,h2,h3⟩:=h.autos
 obtain⟨pl,p1,p2⟩:=h.place
 refine⟨h.sta.below hb,⟨A,c,vs,(hb.cell (p:=⟨f.pc.D,5,none⟩) h.sta.dlt).trans h1,h2.below hb,fun i hi=>?_⟩,h.alen,h.run,h.small,⟨pl,p1.below h.sta.dlt hb,p2⟩,h.pick,h.room⟩
 obtain⟨Ai,ci,e1,e2⟩:=h3 i hi
 exact⟨Ai,ci,e1,e2.below hb⟩
theorem Auts.get {w:World}{f:Fx}{autos:List (List Drv.LSt)}(h:Auts w f autos){d:Nat}(hd:d<autos.length):∃b off c Ai ci,b<f.B0∧w.cell? ⟨f.pc.D,5,none⟩=some (.slice (some ⟨b,off,none⟩) autos.length c)∧w.cell? ⟨b,off+d,none⟩=some (.slice Ai autos[d].length ci)∧AutR w f.B0 Ai autos[d]:=by
 obtain⟨A,c,vs,h1,h2,h3⟩:=h.autos
 obtain⟨b,off,rfl,hb,hc⟩:=h2.2 (by omega)
 obtain⟨Ai,ci,e1,e2⟩:=h3 d hd
 exact⟨b,off,c,Ai,ci,hb,h1,hc d _ e1,e2⟩
theorem runL_le {a:List Drv.LSt}{toks:List Int}:∀(n:Nat) (s:Int) (pos:Nat),(Drv.runL a toks n s pos).2.2≤(pos:Int)+n
 | 0,_,_=>by unfold Drv.runL;simp
 | n+1,s,pos=>by
  unfold Drv.runL
  by_cases h1:s<0∨(a.length:Int)≤s
  ·rw[if_pos h1];show(pos:Int)≤_;omega
  ·rw[if_neg h1]
   simp only
   by_cases h2:(a.getD s.toNat ⟨0,[],[]⟩).kind≠0
   ·rw[if_pos h2];show(pos:Int)≤_;omega
   ·rw[if_neg h2]
    generalize (if pos<toks.length then toks.getD pos 0 else -1)=tok
    split
    ·show(pos:Int)≤_;omega
    ·rename_i e _
     split
     ·show(pos:Int)≤_;omega
     ·have:=runL_le (a:=a) (toks:=toks) n e.2 (pos+1)
      omega
theorem reads_from {w:World}{B n c lo:Nat}{A:Option Addr}{l:List Int}(h:Reads w B 1 A n (l.map (Value.int .i64))) (hn:n=l.length) (hc:n≤c):Reads w B 1 (if c=lo then A else Option.map (fun x=>x.add lo) A) (n-lo) ((l.drop lo).map (Value.int .i64)):=by
 subst hn
 refine⟨by simp,fun hlt=>?_⟩
 obtain⟨b,off,rfl,hb,hcell⟩:=h.2 (by omega)
 rw[if_neg (by omega)]
 refine⟨b,off+lo,?_,hb,fun j u hu=>?_⟩
 ·show some (Addr.add ⟨b,off,none⟩ lo)=_;rw[addr_off]
 ·have:=hcell (lo+j) u (by
   rw[←hu,List.getElem?_map,List.getElem?_map,List.getElem?_drop])
  rw[Nat.add_assoc]
  exact this
theorem ownC_RO {w:World}{base size n c:Nat}{e:TypeId}{A:Option Addr}{xs:List Value}{S:Nat→Prop}(h:OwnC w base e size (.slice A n c) n xs) (hS:∀j,S j→j<base):RO w S size A n xs:=by
 have hr:=h.reads
 refine⟨h.1,fun hn=>?_⟩
 obtain⟨b,off,rfl,hb,hc⟩:=hr.2 hn
 refine⟨b,off,rfl,hb,fun e=>?_,hc⟩
 have h1:=hS b e
 rcases h.2 with⟨h2,h3⟩ | ⟨g,_,_,h2,h3,_⟩
 ·cases h2
 ·injection h2 with h2
  injection h2 with h2
  injection h2 with h2
  omega
theorem S4of {w w':World}{P D ab aoff dn acp pn n ci wc wl:Nat}{AW:Option Addr}{M:Nat}{Ai:Option Addr}(hb:Below w.heap.size w.drew w') (hP:P<w.heap.size) (hD:D<w.heap.size) (ha:ab<w.heap.size)
 (c0:w.cell? ⟨P,0,none⟩=some (.pointer (some ⟨D,0,none⟩))) (c1:w.cell? ⟨P,1,none⟩=some (.slice AW wl wc)) (c9:w.cell? ⟨P,9,none⟩=some (.int .i64 pn)) (d5:w.cell? ⟨D,5,none⟩=some (.slice (some ⟨ab,aoff,none⟩) n acp)) (a5:w.cell? ⟨ab,aoff+dn,none⟩=some (.slice Ai M ci)):
 w'.cell? ⟨P,0,none⟩=some (.pointer (some ⟨D,0,none⟩))∧w'.cell? ⟨P,1,none⟩=some (.slice AW wl wc)∧w'.cell? ⟨P,9,none⟩=some (.int .i64 pn)∧w'.cell? ⟨D,5,none⟩=some (.slice (some ⟨ab,aoff,none⟩) n acp)∧w'.cell? ⟨ab,aoff+dn,none⟩=some (.slice Ai M ci):=
 ⟨(hb.cell (p:=⟨P,0,none⟩) hP).trans c0,(hb.cell (p:=⟨P,1,none⟩) hP).trans c1,(hb.cell (p:=⟨P,9,none⟩) hP).trans c9,(hb.cell (p:=⟨D,5,none⟩) hD).trans d5,(hb.cell (p:=⟨ab,aoff+dn,none⟩) ha).trans a5⟩
def PayO (w:World) (f:Fx) (v:Vx) (k:Drv.Cf) (n:Int) (r:Ending) (w':World):Prop:=
 Below f.B0 w w'∧Only (fun j=>j=f.P) w w'∧((f.pc.fuel-k.used<n∧r= .returned (.bool false)∧PstAt w' f v (k.fin 6))∨(¬f.pc.fuel-k.used<n∧r= .returned (.bool true)∧PstAt w' f v {k with used:=k.used+n}))
set_option maxHeartbeats 400000 in
theorem payO_any (w:World) (f:Fx) (v:Vx) (k:Drv.Cf) (n:Int) (h:PstAt w f v k) (h0:0≤k.used) (h1:k.used≤f.pc.fuel) (h2:f.pc.fuel≤4000000000) (h3:0≤n) (h4:n≤4000000000):
 Calls Try.prog 88 #[.pointer (some ⟨f.P,0,none⟩),.int .i64 n] w (PayO w f v k n):=by
 obtain⟨r,t,q,b,s,hpar,_⟩:=h.par
 refine(pay_any f.P f.pc _ n w hpar h0 h1 h2 h3 h4).mono ?_
 rintro r' w' (⟨e1,rfl,ho,hp⟩ | ⟨e1,rfl,ho,hp⟩)
 ·refine⟨h.below ho fun j e=>by rw[e];exact h.geP,ho,.inl ⟨e1,rfl,h.parSet ho (k.fin 6) rfl rfl rfl (fun r1 t1 q1 b1 s1 g1=>?_)⟩⟩
  obtain⟨rfl,rfl,rfl,rfl,rfl⟩:=par_same hpar g1
  exact hp
 ·refine⟨h.below ho fun j e=>by rw[e];exact h.geP,ho,.inr ⟨e1,rfl,h.parSet ho {k with used:=k.used+n} rfl rfl rfl (fun r1 t1 q1 b1 s1 g1=>?_)⟩⟩
  obtain⟨rfl,rfl,rfl,rfl,rfl⟩:=par_same hpar g1
  exact hp
def DecP (f:Fx) (v:Vx) (k:Drv.Cf) (d:Int) (w:World) (e:Ending) (w':World):Prop:=
 ∃alt kn,e= .returned (.tuple #[.int .i64 alt,.bool kn])∧(Drv.decidesM f.c d k).1=(if kn=true then some alt else none)∧Below f.B0 w w'∧∃v',PstAt w' f v' (Drv.decidesM f.c d k).2∧(kn=true→v'=v∧Only (fun j=>j=f.pc.M) w w')
set_option maxHeartbeats 1600000 in
theorem decides_known (w:World) (f:Fx) (v:Vx) (k:Drv.Cf) (d:Int) (hl:Lim f) (h:PstAt w f v k) (hc:Drv.COk f.c k) (hd:Drv.InR f.c.decs.length d) (tn:Int) (hkn:Drv.know k.known 0 d k.pos=some tn):
 Calls Try.prog 59 #[.pointer (some ⟨f.P,0,none⟩),.int .i64 d] w (DecP f v k d w):=by
 have hcm:Drv.decidesM f.c d k=(some tn,k):=by unfold Drv.decidesM;rw[hkn]
 have HCM:=hid hcm
 obtain⟨r,t,q',b,s,hpar,_⟩:=h.par
 have c2:=(hpar.cell 2).1
 have c9:=(hpar.cell 9).1
 simp only[parCells,List.getElem?_toArray,List.getElem?_cons_succ,List.getElem?_cons_zero]at c2 c9
 have hPlt:=h.ltTS f.P (.inl rfl)
 have hPM:f.P≠f.pc.M:=fun e=>h.neP.1 f.P (.inl e) rfl
 have h1:PstAt w.drew f v k:=h.still ⟨rfl,rfl,rfl,Nat.le_refl _,fun _ _ _=>rfl⟩
 have hR:=pick0P w.drew f v k d k.pos h1 hd hl.picks hc.pos0 hc.pos1 hl.toks
 rw[hkn]at hR
 clear h hl hpar hc hkn h1 hcm
 go_enter Try.func59,Try.ntmps59
 go_upto_region 1 with fail
 go_region_held3 (fun w'=>w'.cell? ⟨f.P,2,none⟩=some (.pointer (some ⟨f.pc.M,0,none⟩))∧w'.cell? ⟨f.P,9,none⟩=some (.int .i64 k.pos)) (first | assumption | exact⟨c2,c9⟩ | (exact⟨(ho1.cell hPlt (fun e=>hPM e)).trans c2,(ho1.cell hPlt (fun e=>hPM e)).trans c9⟩)) (first | (go_simp;go_at_call 86;refine hR.mono ?_;rintro e w1 ⟨tt,htt,rfl,hb1,ho1,hP1⟩;dsimp only))
 have htt:=htt tn rfl
 subst htt
 have HP1:=hid hP1
 have HB1:=hid (show Below f.B0 w w1 from⟨hb1.os,hb1.tape,hb1.output,hb1.size,hb1.block⟩)
 have HO1:=hid (show Only (fun j=>j=f.pc.M) w w1 from⟨ho1.os,ho1.tape,ho1.output,ho1.size,ho1.block⟩)
 clear hR hP1 hb1 ho1 c2 c9
 go_wp2_with fail
 go_ret2
 refine⟨tt,true,rfl,?_,HB1.out,v,?_,fun _=>⟨rfl,HO1.out⟩⟩
 ·rw[HCM.out];rfl
 ·rw[HCM.out];exact HP1.out
set_option maxHeartbeats 1600000 in
theorem decides_new (w:World) (f:Fx) (v:Vx) (k:Drv.Cf) (d:Int) (autos:List (List Drv.LSt)) (hl:Lim f) (h:PstAt w f v k) (hc:Drv.COk f.c k) (hs:Drv.SOk k) (hA:Auts w f autos) (hd:Drv.InR f.c.decs.length d)
 (he:(f.c.st (Drv.at0 f.c.decs d)).ends.length≠0) (hdi:f.c.dec (Drv.at0 f.c.decs d)=d) (hg:Drv.Rng f.c) (hv:Drv.Val f.c) (hkn:Drv.know k.known 0 d k.pos=none):
 Calls Try.prog 59 #[.pointer (some ⟨f.P,0,none⟩),.int .i64 d] w (DecP f v k d w):=by
 have hcm:Drv.decidesM f.c d k=(if f.c.fuel-k.used<1+(f.c.run d k.pos).2.2 then(none,k.fin 6)else if(f.c.run d k.pos).1=1 then(none,{k with used:=k.used+(1+(f.c.run d k.pos).2.2)}.tell 0 d k.pos ((f.c.run d k.pos).2.1.headD 0))
  else if(f.c.run d k.pos).1=3 then(none,Drv.triesM f.c d (f.c.run d k.pos).2.1 {k with used:=k.used+(1+(f.c.run d k.pos).2.2)})else(none,{k with used:=k.used+(1+(f.c.run d k.pos).2.2)}.tell 0 d k.pos (-1))):=by
  unfold Drv.decidesM
  rw[hkn]
 obtain⟨dn,rfl,hdn⟩:=InR.nat hd
 have hal:dn<autos.length:=by rw[hA.alen];exact hdn
 have hrun:f.c.run (dn:Int) k.pos=Drv.runA autos[dn] (f.c.w.drop k.pos.toNat):=by
  rw[hA.run]
  simp[List.getD,hal]
 obtain⟨pn,hpn⟩:∃pn:Nat,k.pos=pn:=⟨k.pos.toNat,by have:=hc.pos0;omega⟩
 obtain⟨ab,aoff,acp,Ai,ci,hab,d5,a5,hAR⟩:=hA.get hal
 obtain⟨hwn,hwr⟩:=hA.sta.toks
 have hsm:=hA.small autos[dn] (List.getElem_mem hal)
 obtain⟨r,t,q',b,s,hpar,_⟩:=h.par
 have c0:=(hpar.cell 0).1
 have c1:=(hpar.cell 1).1
 have c2:=(hpar.cell 2).1
 have c9:=(hpar.cell 9).1
 simp only[parCells,List.getElem?_toArray,List.getElem?_cons_succ,List.getElem?_cons_zero]at c0 c1 c2 c9
 have hPlt:=h.ltTS f.P (.inl rfl)
 have hPge:=h.geP
 have hPM:f.P≠f.pc.M:=fun e=>h.neP.1 f.P (.inl e) rfl
 have hDlt:=hA.sta.dlt
 have h1:PstAt w.drew f v k:=h.still ⟨rfl,rfl,rfl,Nat.le_refl _,fun _ _ _=>rfl⟩
 have hR:=pick0P w.drew f v k dn k.pos h1 hd hl.picks hc.pos0 hc.pos1 hl.toks
 have hp1:=hc.pos1
 have hlt16:=hl.toks
 have hroom:=hA.room
 rw[hkn]at hR
 have HCM:=hid hcm
 have HRUN:=hid hrun
 have HL:=hid hl
 have HC:=hid hc
 have HS:=hid hs
 have HA:=hid hA
 have H:=hid h
 have HAR:=hid hAR
 have HWR:=hid hwr
 have HD:=hid hd
 have HE:=hid he
 rw[hpn]at c9 hp1
 clear h hl hpar hc hkn h1 hcm hrun hs hA hAR hwr hd he
 go_enter Try.func59,Try.ntmps59
 go_upto_region 1 with fail
 rw[hpn]at hR
 go_region_held3 (fun w'=>w'.cell? ⟨f.P,2,none⟩=some (.pointer (some ⟨f.pc.M,0,none⟩))∧w'.cell? ⟨f.P,9,none⟩=some (.int .i64 pn)) (first | assumption | exact⟨c2,c9⟩ | (exact⟨(ho1.cell hPlt (fun e=>hPM e)).trans c2,(ho1.cell hPlt (fun e=>hPM e)).trans c9⟩)) (first | (go_simp;go_at_call 86;refine hR.mono ?_;rintro e w1 ⟨tt,htt,rfl,hb1,ho1,hP1⟩;dsimp only))
 have hDM:f.pc.D≠f.pc.M:=fun e=>by have:=H.out.geM f.pc.M (.inl rfl);omega
 have haM:ab≠f.pc.M:=fun e=>by have:=H.out.geM f.pc.M (.inl rfl);omega
 have hsz1:w.heap.size≤w1.heap.size:=ho1.size
 have c0:=(ho1.cell (o:=0) hPlt (fun e=>hPM e)).trans c0
 have c1:=(ho1.cell (o:=1) hPlt (fun e=>hPM e)).trans c1
 have c9:=(ho1.cell (o:=9) hPlt (fun e=>hPM e)).trans c9
 have d5:=(ho1.cell (o:=5) (show f.pc.D<w.heap.size by omega) (fun e=>hDM e)).trans d5
 have a5:=(ho1.cell (o:=aoff+dn) (show ab<w.heap.size by omega) (fun e=>haM e)).trans a5
 have HP1:=hid hP1
 have HB1:=hid (show Below f.B0 w w1 from⟨hb1.os,hb1.tape,hb1.output,hb1.size,hb1.block⟩)
 have hPlt:=hP1.ltTS f.P (.inl rfl)
 clear hR hP1 hb1 ho1 c2
 go_upto_region 4 with fail
 obtain⟨hwc1,hwc2⟩:=hroom
 rw[hwn]at hwc1 c1
 have hpl2:pn≤f.c.w.length:=by omega
 have hw1:Below w.heap.size w1 w1.drew:=⟨rfl,rfl,rfl,Nat.le_refl _,fun _ _=>rfl⟩
 have hRn:=run_any autos[dn] (f.c.w.drop pn) Ai (if f.pc.wc=pn then f.pc.WA else Option.map (fun x=>x.add pn) f.pc.WA) ci (f.pc.wc-pn) f.B0 w1.drew (show f.B0≤w1.heap.size by omega) ((HAR.out.below HB1.out).below (hw1.mono (by omega)))
  (by rw[List.length_drop];exact reads_from ((HWR.out.below HB1.out).below (hw1.mono (by omega))) rfl hwc1) (by rw[List.length_drop];omega) hsm.2
 rw[List.length_drop]at hRn
 have hrr:Drv.runA autos[dn] (f.c.w.drop pn)=f.c.run (dn:Int) k.pos:=by rw[HRUN.out,hpn];rfl
 unfold RunP at hRn
 rw[hrr]at hRn
 have hsn0:=hv.seen (dn:Int) k.pos
 have hsn1:(f.c.run (dn:Int) k.pos).2.2≤40000:=by
  have:=runL_le (a:=autos[dn]) (toks:=f.c.w.drop pn) ((f.c.w.drop pn).length+2) 0 0
  rw[←hrr]
  have h2:(f.c.w.drop pn).length≤f.c.w.length:=by rw[List.length_drop];omega
  unfold Drv.runA
  omega
 have hal32:=hg.alts (dn:Int) k.pos
 have HPK:=hid (show(f.c.run (dn:Int) k.pos).1=1→(f.c.run (dn:Int) k.pos).2.1≠[]from fun e=>by
  rw[←hrr]at e⊢
  rcases Drv.runL_kind (a:=autos[dn]) (toks:=f.c.w.drop pn) ((f.c.w.drop pn).length+2) 0 0 with h2 | ⟨x,hx,h2,h3⟩
  ·unfold Drv.runA at e;rw[h2]at e;cases e
  ·unfold Drv.runA at e⊢
   rw[h3]
   exact HA.out.pick _ (List.getElem_mem hal) x hx (by rw[←h2];exact e))
 have HV1:=hid (hv.pick (Drv.at0 f.c.decs dn) k.pos HE.out)
 have HV3:=hid (hv.tries (Drv.at0 f.c.decs dn) k.pos HE.out)
 rw[hdi]at HV1 HV3
 have HCM:=hid HCM.out
 generalize f.c.run (dn:Int) k.pos=rr at*
 obtain⟨kd,al,sn⟩:=rr
 simp only at hRn hsn0 hsn1 hal32
 have HRn:=hid hRn
 clear hRn hrr HRUN hdi HAR HWR hwc2
 go_region_held3 (fun w'=>w'.cell? ⟨f.P,0,none⟩=some (.pointer (some ⟨f.pc.D,0,none⟩))∧w'.cell? ⟨f.P,1,none⟩=some (.slice f.pc.WA f.c.w.length f.pc.wc)∧w'.cell? ⟨f.P,9,none⟩=some (.int .i64 pn)∧w'.cell? ⟨f.pc.D,5,none⟩=some (.slice (some ⟨ab,aoff,none⟩) autos.length acp)∧w'.cell? ⟨ab,aoff+dn,none⟩=some (.slice Ai autos[dn].length ci)) (first | assumption | exact⟨c0,c1,c9,d5,a5⟩ | exact S4of hb2 hPlt (by omega) (by omega) c0 c1 c9 d5 a5) (first | (go_simp;go_at_call 87;refine HRn.out.mono ?_;rintro e w2 ⟨A2,c2',rfl,hO,hb2⟩;dsimp only))
 generalize (if f.pc.wc=pn then f.pc.WA else Option.map (fun x=>x.add pn) f.pc.WA)=WB
 have HO:=hid hO
 have hw1d:Below w1.heap.size w1 w1.drew:=⟨rfl,rfl,rfl,Nat.le_refl _,fun _ _=>rfl⟩
 have ho2:Only (fun _=>False) w1 w2:=Only.of_below (hw1d.trans (show Below w1.heap.size w1.drew w2 from hb2))
 have HB2:=hid (HB1.out.trans (ho2.below' (B:=f.B0) (fun _ e=>e.elim) (by omega)))
 have HP2:=hid (HP1.out.still ho2)
 have HLT:=hid HP1.out.ltTS
 have hsz2:=ho2.size
 clear hb2 hO HRn HP1 HB1 ho2 hw1 hw1d c0 c1 c9 d5 a5
 have hu0:=HC.out.used0
 have hu1:=HC.out.used1
 have hlf:=HL.out.fuel
 have e1:IntKind.i64.wrap (1+sn)=1+sn:=w64 (by omega) (by omega)
 have hpay:=payO_any w2 f v k (1+sn) HP2.out hu0 (by rw[HL.out.pfuel];exact hu1) (by rw[HL.out.pfuel];omega) (by omega) (by omega)
 go_wp2_with fail
 refine hpay.mono ?_
 rintro e w3 ⟨hb3,ho3,⟨hf,rfl,hP3⟩ | ⟨hf,rfl,hP3⟩⟩
 ·have HP3:=hid hP3
  have HB3:=hid (HB2.out.trans hb3)
  rw[HL.out.pfuel]at hf
  have HCM:=hid (HCM.out.trans (if_pos hf))
  clear hb3 hP3 hpay HP2 hf
  go_wp2_with fail
  go_ret2
  refine⟨-1,false,rfl,?_,HB3.out,v,?_,fun e=>by cases e⟩
  ·rw[HCM.out];rfl
  ·rw[HCM.out];exact HP3.out
 ·have HP3:=hid hP3
  have HB3:=hid (HB2.out.trans hb3)
  rw[HL.out.pfuel]at hf
  have HCM:=hid (HCM.out.trans (if_neg hf))
  have HPAY:=hid (HC.out.pay (n:=1+sn) (by omega) hf)
  have HSP:=hid (HS.out.pay (n:=1+sn) (by omega))
  obtain⟨r3,t3,q3,b3,s3,hpar3,_⟩:=HP3.out.par
  have c2:=(hpar3.cell 2).1
  have c9:=(hpar3.cell 9).1
  simp only[parCells,List.getElem?_toArray,List.getElem?_cons_succ,List.getElem?_cons_zero]at c2 c9
  rw[hpn]at c9
  have hsz3:=hb3.size
  clear hpay HP2 hf hpar3
  have HO3:=hid ((ownC_RO (S:=TS f v) HO.out (fun j e=>HLT.out j e)).only (ho3.more fun _ _ e=>.inl e) fun _ _ e=>e)
  have hcap:=HO.out.form2
  clear hb3 hP3 ho3
  have hkn4:k.known.length<4000000000:=by have:=HC.out.few;omega
  have hpz:=HC.out.pos0
  have hpz1:=HC.out.pos1
  rw[hpn]at hpz1
  by_cases hk1:kd=1
  ·have HCM:=hid (HCM.out.trans (if_pos hk1))
   have hne:=HPK.out hk1
   have hv1:=HV1.out hk1
   obtain⟨a,al',rfl⟩:∃a al',al=a ::al':=by
    cases al with
    | nil=>exact absurd rfl hne
    | cons a al'=>exact⟨a,al',rfl⟩
   obtain⟨xb,xo,rfl,hxb,_,hxc⟩:=HO3.out.2 (by simp)
   have x0:=hxc 0 (.int .i64 a) rfl
   rw[Nat.add_zero]at x0
   have ha32:a<32:=by
    have h1:a<((f.c.st (Drv.at0 f.c.decs dn)).edges.length:Int):=hv1.2
    have:=(hg.both _ HE.out).2
    omega
   have ha0:0≤a:=hv1.1
   obtain⟨na,hna⟩:∃na,al'.length=na:=⟨_,rfl⟩
   subst hk1
   clear hne hv1 hxc
   rw[List.length_cons,hna]
   clear hna
   go_wp2_with fail
   refine still_tail 12 (by kernel_rfl) (by kernel_rfl) ?_
   intro w4 HW4
   have ho4:Only (fun _=>False) w3 w4:=by rw[HW4.out];exact⟨rfl,rfl,rfl,Nat.le_refl _,fun _ _ _=>rfl⟩
   clear HW4
   have hPlt3:=HP3.out.ltTS f.P (.inl rfl)
   have c2:=(ho4.cell (o:=2) hPlt3 (fun e=>e)).trans c2
   have c9:=(ho4.cell (o:=9) hPlt3 (fun e=>e)).trans c9
   have x0:=(ho4.cell (o:=xo) hxb (fun e=>e)).trans x0
   have HP4:=hid (HP3.out.still ho4)
   have HB4:=hid (HB3.out.trans (ho4.below' (B:=f.B0) (fun _ e=>e.elim) (by have:=HP3.out.geP;omega)))
   clear ho4
   simp only[List.take_succ_cons,List.take_zero,List.drop_succ_cons,List.drop_zero]
   repeat still_step
   refine wpStill_nil ?_
   go_wp2_with fail
   refine(sayPick0P w4 f v {k with used:=k.used+(1+sn)} dn pn a HP4.out hkn4 HD.out HL.out.picks (by omega) hpz1 HL.out.toks (by omega) ha32).mono ?_
   rintro e w5 ⟨rfl,hb5,_,hP5⟩
   have HB5:=hid (HB4.out.trans hb5)
   have HP5:=hid hP5
   clear c2 c9 HP4 HB4 hb5 hP5
   go_wp2
   go_ret2
   refine⟨-1,false,rfl,?_,HB5.out,v,?_,fun e=>by cases e⟩
   ·rw[HCM.out];rfl
   ·rw[HCM.out];have h5:=HP5.out;rw[←hpn]at h5;exact h5
  ·have HCM:=hid (HCM.out.trans (if_neg hk1))
   by_cases hk3:kd=3
   ·have HCM:=hid (HCM.out.trans (if_pos hk3))
    obtain⟨hne,hv3⟩:=HV3.out hk3
    have hsp0:=HS.out.1
    have hsp1:k.spec≤4000000000:=by have h1:=HS.out.2;have h2:=Drv.pot_nonneg k.opn;have h3:=HC.out.used1;omega
    have hT:=triesP_any w3 f v {k with used:=k.used+(1+sn)} dn al A2 c2' HL.out HP3.out HPAY.out.1 (HA.out.sta.below HB3.out) HD.out HE.out hg hne hal32 hv3 hsp0 hsp1 HO3.out hcap
    have hd1:(kd==1)=false:=by simpa using hk1
    have hd3:(kd==3)=true:=by simpa using hk3
    clear hne hv3 hk1 hk3 c2 c9
    go_wp2_with fail
    refine hT.mono ?_
    rintro e w4 ⟨rfl,hb4,v4,hP4⟩
    have HB4:=hid (HB3.out.trans hb4)
    have HP4:=hid hP4
    clear hT hb4 hP4
    go_wp2
    go_ret2
    refine⟨-1,false,rfl,?_,HB4.out,v4,?_,fun e=>by cases e⟩
    ·rw[HCM.out];rfl
    ·rw[HCM.out];exact HP4.out
   ·have HCM:=hid (HCM.out.trans (if_neg hk3))
    have hd1:(kd==1)=false:=by simpa using hk1
    have hd3:(kd==3)=false:=by simpa using hk3
    clear hk1 hk3
    go_wp2_with fail
    refine still_tail 9 (by kernel_rfl) (by kernel_rfl) ?_
    intro w4 HW4
    have ho4:Only (fun _=>False) w3 w4:=by rw[HW4.out];exact⟨rfl,rfl,rfl,Nat.le_refl _,fun _ _ _=>rfl⟩
    clear HW4
    have hPlt3:=HP3.out.ltTS f.P (.inl rfl)
    have c2:=(ho4.cell (o:=2) hPlt3 (fun e=>e)).trans c2
    have c9:=(ho4.cell (o:=9) hPlt3 (fun e=>e)).trans c9
    have HP4:=hid (HP3.out.still ho4)
    have HB4:=hid (HB3.out.trans (ho4.below' (B:=f.B0) (fun _ e=>e.elim) (by have:=HP3.out.geP;omega)))
    clear ho4
    simp only[List.take_succ_cons,List.take_zero,List.drop_succ_cons,List.drop_zero]
    repeat still_step
    refine wpStill_nil ?_
    go_wp2_with fail
    refine(sayPick0P w4 f v {k with used:=k.used+(1+sn)} dn pn (-1) HP4.out hkn4 HD.out HL.out.picks (by omega) hpz1 HL.out.toks (by omega) (by omega)).mono ?_
    rintro e w5 ⟨rfl,hb5,_,hP5⟩
    have HB5:=hid (HB4.out.trans hb5)
    have HP5:=hid hP5
    clear c2 c9 HP4 HB4 hb5 hP5
    go_wp2
    go_ret2
    refine⟨-1,false,rfl,?_,HB5.out,v,?_,fun e=>by cases e⟩
    ·rw[HCM.out];rfl
    ·rw[HCM.out];have h5:=HP5.out;rw[←hpn]at h5;exact h5
theorem decidesP_any (w:World) (f:Fx) (v:Vx) (k:Drv.Cf) (i:Int) (autos:List (List Drv.LSt)) (hl:Lim f) (h:PstAt w f v k) (hc:Drv.COk f.c k) (hs:Drv.SOk k) (hA:Auts w f autos) (hg:Drv.Rng f.c) (hv:Drv.Val f.c) (hi:(f.c.st i).ends.length≠0):
 Calls Try.prog 59 #[.pointer (some ⟨f.P,0,none⟩),.int .i64 (f.c.dec i)] w (DecP f v k (f.c.dec i) w):=by
 have hd:=hg.dec i hi
 have hdi:=hv.dec i hi
 cases hkn:Drv.know k.known 0 (f.c.dec i) k.pos with
 | some tn=>exact decides_known w f v k _ hl h hc hd tn hkn
 | none=>exact decides_new w f v k _ autos hl h hc hs hA hd (by rw[hdi];exact hi) (by rw[hdi]) hg hv hkn
end Go.Proofs.Ytgflanlniejflaa
