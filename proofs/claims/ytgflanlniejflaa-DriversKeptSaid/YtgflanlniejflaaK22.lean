/-
  Drivers: Rf3, Rf4 (texts joined).
-/
import Derived.Test.YtgflanlniejflaaK12
import Derived.Test.YtgflanlniejflaaK21
namespace Go.Proofs.Ytgflanlniejflaa
open Go.RowKit Go.Maps
open Go.Sort (grow)
set_option maxRecDepth 100000
def encEf (e:Drv.Ed):List Value:=[.int .i64 e.kind,.int .i64 e.what,.int .i64 e.to]
def StVf (w:World) (B:Nat) (vs:List Value) (i:Nat) (s:Drv.NSt):Prop:=
 ∃EA ec XA xc,vs[i*3]? =some (.int .i64 s.rule)∧vs[i*3+1]? =some (.slice EA s.edges.length ec)∧vs[i*3+2]? =some (.slice XA s.ends.length xc)∧Reads w B 3 EA s.edges.length (flat encEf s.edges)∧Reads w B 1 XA s.ends.length (s.ends.map (Value.int .i64))
def StsRf (w:World) (B:Nat) (A:Option Addr) (l:List Drv.NSt):Prop:=∃vs,Reads w B 3 A l.length vs∧∀i (h:i<l.length),StVf w B vs i l[i]
theorem StsRf.below {w w':World}{B:Nat}{A:Option Addr}{l:List Drv.NSt}(h:StsRf w B A l) (hb:Below B w w'):StsRf w' B A l:=by
 obtain⟨vs,h1,h2⟩:=h
 refine⟨vs,h1.below hb,fun i hi=>?_⟩
 obtain⟨EA,ec,XA,xc,e0,e1,e2,r0,r1⟩:=h2 i hi
 exact⟨EA,ec,XA,xc,e0,e1,e2,r0.below hb,r1.below hb⟩
theorem StsRf.more {w:World}{B B':Nat}{A:Option Addr}{l:List Drv.NSt}(h:StsRf w B A l) (hb:B≤B'):StsRf w B' A l:=by
 obtain⟨vs,h1,h2⟩:=h
 refine⟨vs,h1.more hb,fun i hi=>?_⟩
 obtain⟨EA,ec,XA,xc,e0,e1,e2,r0,r1⟩:=h2 i hi
 exact⟨EA,ec,XA,xc,e0,e1,e2,r0.more hb,r1.more hb⟩
theorem StsRf.at {w:World}{B:Nat}{A:Option Addr}{l:List Drv.NSt}(h:StsRf w B A l){i:Nat}(hi:i<l.length):∃b off EA ec XA xc,A=some ⟨b,off,none⟩∧b<B∧
 w.cell? ⟨b,off+i*3,none⟩=some (.int .i64 l[i].rule)∧w.cell? ⟨b,off+i*3+1,none⟩=some (.slice EA l[i].edges.length ec)∧w.cell? ⟨b,off+i*3+2,none⟩=some (.slice XA l[i].ends.length xc)∧
 Reads w B 3 EA l[i].edges.length (flat encEf l[i].edges)∧Reads w B 1 XA l[i].ends.length (l[i].ends.map (Value.int .i64)):=by
 obtain⟨vs,h1,h2⟩:=h
 obtain⟨b,off,rfl,hb,hc⟩:=h1.2 (by omega)
 obtain⟨EA,ec,XA,xc,e0,e1,e2,r0,r1⟩:=h2 i hi
 exact⟨b,off,EA,ec,XA,xc,rfl,hb,hc _ _ e0,by simpa[Nat.add_assoc]using hc _ _ e1,by simpa[Nat.add_assoc]using hc _ _ e2,r0,r1⟩
structure RDrv (w:World) (D B:Nat) (n:Drv.NNet) (au:List (List Drv.LSt)):Prop where
 dlt:D<B
 states:∃A c,w.cell? ⟨D,0,none⟩=some (.slice A n.states.length c)∧StsRf w B A n.states
 starts:NumsAt w D B 1 n.starts
 stops:NumsAt w D B 2 n.stops
 preds:NumsAt w D B 3 n.preds
 decs:NumsAt w D B 4 n.decs
 autos:∃A c vs,w.cell? ⟨D,5,none⟩=some (.slice A au.length c)∧Reads w B 1 A au.length vs∧∀i (h:i<au.length),∃Ai ci,vs[i]? =some (.slice Ai au[i].length ci)∧AutRf w B Ai au[i]
theorem RDrv.below {w w':World}{D B:Nat}{n:Drv.NNet}{au:List (List Drv.LSt)}(h:RDrv w D B n au) (hb:Below B w w'):RDrv w' D B n au:=by
 obtain⟨A,c,h1,h2⟩:=h.states
 obtain⟨A',c',vs,g1,g2,g3⟩:=h.autos
 have hd:=h.dlt
 refine⟨hd,⟨A,c,(hb.cell (p:=⟨D,0,none⟩) hd).trans h1,h2.below hb⟩,h.starts.below hd hb,h.stops.below hd hb,h.preds.below hd hb,h.decs.below hd hb,⟨A',c',vs,(hb.cell (p:=⟨D,5,none⟩) hd).trans g1,g2.below hb,fun i hi=>?_⟩⟩
 obtain⟨Ai,ci,e1,e2⟩:=g3 i hi
 exact⟨Ai,ci,e1,e2.below hb⟩
structure RSta (w:World) (f:Rf) (n:Drv.NNet) (au:List (List Drv.LSt)):Prop where
 drv:RDrv w f.D f.B0 n au
 toks:Reads w f.B0 1 f.WA f.c.w.length (f.c.w.map (Value.int .i64))
 room:f.c.w.length≤f.wc∧(f.WA=none→f.wc=0)
 c:∃(wl:List Int) (fuel:Int) (depth:Nat),f.c=Drv.mkDC n au wl fuel depth
 ok:Drv.OkNet n au
 fuel0:0≤f.c.fuel
 fuel:f.c.fuel≤100000
 depth:f.c.depth≤100000
 len:f.c.w.length≤16384
theorem RSta.below {w w':World}{f:Rf}{n:Drv.NNet}{au:List (List Drv.LSt)}(h:RSta w f n au) (hb:Below f.B0 w w'):RSta w' f n au:=
 ⟨h.drv.below hb,h.toks.below hb,h.room,h.c,h.ok,h.fuel0,h.fuel,h.depth,h.len⟩
theorem RSta.rng {w:World}{f:Rf}{n:Drv.NNet}{au:List (List Drv.LSt)}(h:RSta w f n au):Drv.Rng f.c:=by
 obtain⟨wl,fu,de,e⟩:=h.c
 rw[e]
 exact Drv.rng_mk h.ok.may h.ok.len h.ok.autos h.ok.alts wl fu de
theorem RSta.val {w:World}{f:Rf}{n:Drv.NNet}{au:List (List Drv.LSt)}(h:RSta w f n au):Drv.Val f.c:=by
 obtain⟨wl,fu,de,e⟩:=h.c
 rw[e]
 exact Drv.val_mk h.ok.may h.ok.len h.ok.autos wl fu de
def RWalkP (f:Rf) (kv:Value) (opn:Int) (r:List Drv.Tr×Int×Drv.PS) (w:World) (e:Ending) (w':World):Prop:=
 ∃A c kv' xs,e= .returned (.tuple #[.slice A r.1.length c,.int .i64 r.2.1])∧RpAt w' f kv' opn r.2.2∧RO w' (fun k=>RT f kv' k∨k<w.heap.size) 5 A r.1.length xs∧TrsV w' (fun k=>RT f kv' k∨k<w.heap.size) r.1 xs∧Only (RT f kv) w w'∧∀k,kv'.ownBlock=some k→kv.ownBlock=some k∨w.heap.size≤k
def RWalkC (f:Rf) (n:Drv.NNet) (au:List (List Drv.LSt)) (N d:Nat):Prop:=∀(w:World) (kv:Value) (st ov pos:Int) (real:Bool) (p:Drv.PS),RpAt w f kv ((f.c.depth:Int)-d) p→RSta w f n au→
 Drv.InR f.c.states.length st→Drv.InR f.c.states.length ov→Drv.POk f.c p→0≤pos→pos≤f.c.w.length→
 Calls Try.prog 31 #[.pointer (some ⟨f.P,0,none⟩),.int .i64 st,.int .i64 ov,.int .i64 pos,.bool real] w (RWalkP f kv ((f.c.depth:Int)-d) (Drv.walkF f.c N d st ov pos real p) w)
def RLookP (f:Rf) (kv:Value) (opn:Int) (r:Int×Drv.PS) (w:World) (e:Ending) (w':World):Prop:=
 ∃A m c kv',e= .returned (.tuple #[.slice A m c,.int .i64 r.1])∧RpAt w' f kv' opn r.2∧Only (RT f kv) w w'∧∀k,kv'.ownBlock=some k→kv.ownBlock=some k∨w.heap.size≤k
theorem RWalkP.look {f:Rf}{kv:Value}{opn:Int}{r:List Drv.Tr×Int×Drv.PS}{w w0:World}{e:Ending}{w':World}(h:RWalkP f kv opn r w e w') (ho:Only (RT f kv) w0 w) (hs:w0.heap.size≤w.heap.size):RLookP f kv opn (r.2.1,r.2.2) w0 e w':=by
 obtain⟨A,c,kv',xs,h1,h2,_,_,h3,h4⟩:=h
 exact⟨A,_,c,kv',h1,h2,ho.trans h3 fun _ _ e=>e,fun k hk=>(h4 k hk).imp id fun g=>by omega⟩
set_option maxHeartbeats 1600000 in
theorem rlook_any (f:Rf) (n:Drv.NNet) (au:List (List Drv.LSt)) (N d:Nat) (hW:RWalkC f n au N d) (w:World) (kv:Value) (st ov pos:Int) (p:Drv.PS)
 (h:RpAt w f kv ((f.c.depth:Int)-d) {p with spec:=p.spec+1}) (hst:RSta w f n au) (h1:Drv.InR f.c.states.length st) (h2:Drv.InR f.c.states.length ov) (hp:Drv.POk f.c p) (hs:p.spec+1≤64*p.used) (h0:0≤pos) (hl:pos≤f.c.w.length):
 Calls Try.prog 80 #[.pointer (some ⟨f.P,0,none⟩),.int .i64 st,.int .i64 ov,.int .i64 pos] w (RLookP f kv ((f.c.depth:Int)-d) (Drv.lookF f.c N d st ov pos p) w):=by
 have c3:=(h.cell 3).1
 have c4:=(h.cell 4).1
 simp only[rfCells,List.getElem?_toArray,List.getElem?_cons_succ,List.getElem?_cons_zero]at c3 c4
 obtain⟨dp,hdp⟩:∃dp:Int,(f.c.depth:Int)-d=dp:=⟨_,rfl⟩
 have hsp0:=hp.spec0
 have hsp1:=hp.spec1
 have hus:=hp.used1
 have hfu:=hst.fuel
 have ho1:Only (fun _=>False) w w.drew:=⟨rfl,rfl,rfl,Nat.le_refl _,fun _ _ _=>rfl⟩
 by_cases hd0:d=0
 ·have e1:IntKind.i64.wrap (p.spec+1-1)=p.spec:=by rw[w64 (by omega) (by omega)];omega
  have hb:decide ((f.c.depth:Int)≤dp)=true:=by rw[decide_eq_true_eq];omega
  have HL:Hid (Drv.lookF f.c N d st ov pos p=((Drv.walkF f.c N d st ov pos false p).2.1,(Drv.walkF f.c N d st ov pos false p).2.2)):=hid (by rw[hd0];rfl)
  rw[hdp]at h c4⊢
  have HW:=hid hW
  have H:=hid h
  have HST:=hid hst
  have HP:=hid hp
  have H1:=hid h1
  have H2:=hid h2
  have HDP:=hid hdp
  clear hW h hst hp h1 h2 hdp hd0 ho1
  go_enter Try.func80,Try.ntmps80
  go_upto_region 1 with fail
  go_quiet (fail)
  have ho1:=(Only.refl (fun _=>False) w).none_drew nq
  have h1:=H.out.only ho1 (fun _ _ e=>e)
  have hst1:=HST.out.below (H.out.below ho1 fun _ e=>e.elim)
  generalize w.drewN nq=w1 at ho1 h1 hst1⊢
  clear c3 c4
  have c7:=(h1.cell 7).1
  have z7:=(h1.cell 7).2
  simp only[rfCells,List.getElem?_toArray,List.getElem?_cons_succ,List.getElem?_cons_zero]at c7
  have h2:=h1.set (opn':=dp) (p':=p) 7 (.int .i64 p.spec) rfl rfl
  have ho2:=Only.of_set w1 f.P 7 (.int .i64 p.spec)
  have hst2:=hst1.below (h1.below ho2 fun k e=>by rw[e];exact h1.geP)
  have HO2:=hid ((ho1.more (S':=RT f kv) fun _ _ e=>e.elim).trans (ho2.more (S':=RT f kv) fun _ _ e=>.inl e) fun _ _ e=>e)
  have H3:=hid h2
  have HST2:=hid hst2
  clear h1 ho1 hst1 h2 ho2 hst2 H HST
  go_upto_region 3 with fail
  have hC:=HW.out (w1.setCell ⟨f.P,7,none⟩ (.int .i64 p.spec)) kv st ov pos false p (by rw[HDP.out];exact H3.out) HST2.out H1.out H2.out HP.out h0 hl
  rw[HDP.out]at hC
  have HC:=hid hC
  clear hC
  go_wp2_with fail
  refine HC.out.mono ?_
  intro e w4 h4
  have h5:=h4.look HO2.out HO2.out.size
  rw[←HL.out]at h5
  obtain⟨A,m,c,kv',rfl,g⟩:=h5
  have G:=hid g
  clear h4 g
  dsimp only
  go_wp2_with fail
  go_ret2
  exact⟨A,m,c,kv',rfl,G.out⟩
 ·have hb:decide ((f.c.depth:Int)≤dp)=false:=by rw[decide_eq_false_iff_not];omega
  have HL:Hid (Drv.lookF f.c N d st ov pos p=((Drv.walkF f.c N d st ov pos false {p with spec:=p.spec+1}).2.1,(Drv.walkF f.c N d st ov pos false {p with spec:=p.spec+1}).2.2)):=hid (by unfold Drv.lookF;rw[if_neg hd0])
  have HP:Hid (Drv.POk f.c {p with spec:=p.spec+1}):=hid ⟨hp.used0,hp.used1,hp.kn,hp.few,by show 0≤p.spec+1;omega,hs,hp.deep0,hp.deep1⟩
  rw[hdp]at h c4⊢
  have HW:=hid hW
  have H:=hid h
  have HST:=hid hst
  have H1:=hid h1
  have H2:=hid h2
  have HDP:=hid hdp
  clear hW h hst hp h1 h2 hdp hd0 ho1
  go_enter Try.func80,Try.ntmps80
  go_upto_region 1 with fail
  go_quiet (fail)
  have ho1:=(Only.refl (fun _=>False) w).none_drew nq
  have h1:=H.out.only ho1 (fun _ _ e=>e)
  have hst1:=HST.out.below (H.out.below ho1 fun _ e=>e.elim)
  generalize w.drewN nq=w1 at ho1 h1 hst1⊢
  clear c3 c4
  have hC:=HW.out w1 kv st ov pos false _ (by rw[HDP.out];exact h1) hst1 H1.out H2.out HP.out h0 hl
  rw[HDP.out]at hC
  have HC:=hid hC
  have HO1:=hid (ho1.more (S':=RT f kv) fun _ _ e=>e.elim)
  clear hC ho1 h1 hst1 H HST
  go_wp2_with fail
  refine HC.out.mono ?_
  intro e w4 h4
  have h5:=h4.look HO1.out HO1.out.size
  rw[←HL.out]at h5
  obtain⟨A,m,c,kv',rfl,g⟩:=h5
  have G:=hid g
  clear h4 g
  dsimp only
  go_wp2_with fail
  go_ret2
  exact⟨A,m,c,kv',rfl,G.out⟩
end Go.Proofs.Ytgflanlniejflaa
namespace Go.Proofs.Ytgflanlniejflaa
open Go.RowKit Go.Maps
open Go.Sort (grow)
set_option maxRecDepth 100000
theorem idxOf_ne {l:List Int}{a:Int}{k:Nat}(h:k<l.idxOf a) (hk:k<l.length):l[k]≠a:=by
 have:=List.not_of_lt_findIdx (p:=(· ==a)) h
 simpa using this
def RPickP (f:Rf) (kv:Value) (opn:Int) (r:Int×Drv.PS) (w:World) (e:Ending) (w':World):Prop:=
 ∃kv',e= .returned (.int .i64 r.1)∧RpAt w' f kv' opn r.2∧Only (RT f kv) w w'∧∀k,kv'.ownBlock=some k→kv.ownBlock=some k∨w.heap.size≤k
theorem RDrv.aut {w:World}{D B:Nat}{n:Drv.NNet}{au:List (List Drv.LSt)}(h:RDrv w D B n au){d:Nat}(hd:d<au.length):∃b off c Ai ci,b<B∧w.cell? ⟨D,5,none⟩=some (.slice (some ⟨b,off,none⟩) au.length c)∧w.cell? ⟨b,off+d,none⟩=some (.slice Ai au[d].length ci)∧AutRf w B Ai au[d]:=by
 obtain⟨A,c,vs,h1,h2,h3⟩:=h.autos
 obtain⟨b,off,rfl,hb,hc⟩:=h2.2 (by omega)
 obtain⟨Ai,ci,e1,e2⟩:=h3 d hd
 exact⟨b,off,c,Ai,ci,hb,h1,hc d _ e1,e2⟩
theorem NumsAt.nth {w:World}{D B j:Nat}{l:List Int}(h:NumsAt w D B j l){k:Nat}(hk:k<l.length):∃b off c,b<B∧w.cell? ⟨D,j,none⟩=some (.slice (some ⟨b,off,none⟩) l.length c)∧∀i (hi:i<l.length),w.cell? ⟨b,off+i,none⟩=some (.int .i64 l[i]):=by
 obtain⟨A,c,h1,h2⟩:=h
 obtain⟨b,off,rfl,hb,hc⟩:=h2.2 (by omega)
 exact⟨b,off,c,hb,h1,fun i hi=>hc i _ (by simp[List.getElem?_eq_getElem hi])⟩
namespace Drv
theorem tryR_more (c:DC) (look:Int→Int→Int→PS→Int×PS) (s:NSt) (d pos a b:Int) (r:List Int) (p:PS):tryR c look s d pos (a ::b ::r) p=
 if(look (s.ed a).to (at0 s.ends a) pos p).2.err≠0 then(-1,(look (s.ed a).to (at0 s.ends a) pos p).2)
 else if 0≤(look (s.ed a).to (at0 s.ends a) pos p).1 then(a,{(look (s.ed a).to (at0 s.ends a) pos p).2 with known:=say (look (s.ed a).to (at0 s.ends a) pos p).2.known 0 d pos a})
 else tryR c look s d pos (b ::r) (look (s.ed a).to (at0 s.ends a) pos p).2:=rfl
end Drv
structure TryL (f:Rf) (kv:Value) (dp:Int) (look:Int→Int→Int→Drv.PS→Int×Drv.PS) (s:Drv.NSt) (k pn:Int) (al:List Int) (A2:Option Addr) (R:Int×Drv.PS) (w:World) (g:Nat) (cs:Array Value) (j:Nat) (av:Int) (q:Drv.PS) (kv':Value) (wr:World):Prop where
 at':RpAt wr f kv' dp q
 only:Only (RT f kv) w wr
 new:∀k',kv'.ownBlock=some k'→kv.ownBlock=some k'∨w.heap.size≤k'
 blk:wr.heap[g]? =some (.cells cs 44 (0,0))
 ge:w.heap.size≤g
 ok:Drv.POk f.c q
 few:(q.known.length:Int)+1≤q.used
 spec:q.spec+((al.length:Int)-j)≤64*q.used
 alts:RO wr (RT f kv') 1 A2 al.length (al.map (Value.int .i64))
 res:(av= -1∧j<al.length∧R=Drv.tryR f.c look s k pn (al.drop j) q)∨(0≤av∧R=(av,{q with known:=Drv.say q.known 0 k pn av}))
set_option maxHeartbeats 6400000 in
theorem rpick_any (f:Rf) (n:Drv.NNet) (au:List (List Drv.LSt)) (N d:Nat) (hW:RWalkC f n au N d) (hd:d≤f.c.depth) (w:World) (kv:Value) (st pos:Int) (p:Drv.PS)
 (h:RpAt w f kv ((f.c.depth:Int)-d) p) (hst:RSta w f n au) (he:(f.c.st st).ends.length≠0) (hp:Drv.POk f.c p) (h0:0≤pos) (hl:pos≤f.c.w.length):
 Calls Try.prog 76 #[.pointer (some ⟨f.P,0,none⟩),.int .i64 st,.int .i64 pos] w (RPickP f kv ((f.c.depth:Int)-d) (Drv.pickR f.c (Drv.lookF f.c N d) st pos p) w):=by
 have hrng:=hst.rng
 have hval:=hst.val
 have hdec:=hrng.dec st he
 have hds:=hval.dec st he
 obtain⟨wl,fu,de,hcc⟩:=hst.c
 have hdi:f.c.dec st=(n.decs.idxOf st:Int):=by rw[hcc];rfl
 have hdl:f.c.decs=n.decs:=by rw[hcc];rfl
 have hsl:f.c.states=n.states:=by rw[hcc];rfl
 rw[hdl]at hdec
 obtain⟨dd,hdd⟩:∃dd,n.decs.idxOf st=dd:=⟨_,rfl⟩
 rw[hdd]at hdi
 have hddl:dd<n.decs.length:=by rw[hdi]at hdec;have:=hdec.2;omega
 have hdst:n.decs[dd]=st:=by
  have:=hds
  unfold Drv.at0 at this
  rw[hdl,hdi,Int.toNat_natCast,List.getD_eq_getElem?_getD,List.getElem?_eq_getElem hddl]at this
  exact this
 have hnot:∀k (hk:k<n.decs.length),k<dd→n.decs[k]≠st:=fun k hk hkd=>idxOf_ne (by rw[hdd];exact hkd) hk
 have hrun:∀q:Int,f.c.run (dd:Int) q=Drv.runA (au.getD dd []) (f.c.w.drop q.toNat):=fun q=>by rw[hcc];rfl
 have hal:dd<au.length:=by rw[hst.ok.len];exact hddl
 obtain⟨pn,hpn⟩:∃pn:Nat,pos=pn:=⟨pos.toNat,by omega⟩
 subst hpn
 obtain⟨db,doff,dc,hdb,d4,dcs⟩:=hst.drv.decs.nth hddl
 have c0:=(h.cell 0).1
 simp only[rfCells,List.getElem?_toArray,List.getElem?_cons_zero]at c0
 have hkl:p.known.length≤1000000:=by have:=hp.few;have:=hp.used1;have:=hst.fuel;omega
 have hKN:=rknow_any w f kv _ p 0 dd pn h hkl
 obtain⟨dp,hdp⟩:∃dp:Int,(f.c.depth:Int)-d=dp:=⟨_,rfl⟩
 rw[hdp]at h⊢
 have hpk:Drv.pickR f.c (Drv.lookF f.c N d) st pn p=match Drv.know p.known 0 dd pn with
  | some alt=>(alt,p)
  | none=>
   let r:=f.c.run (dd:Int) pn
   if f.c.fuel<p.used+(1+r.2.2)then(-1,{p with err:=6})
   else
    let p:={p with used:=p.used+(1+r.2.2)}
    if r.1=1 then(r.2.1.headD 0,{p with known:=Drv.say p.known 0 dd pn (r.2.1.headD 0)})
    else if r.1=3 then Drv.tryR f.c (Drv.lookF f.c N d) (f.c.st st) dd pn r.2.1 p
    else(-1,{p with known:=Drv.say p.known 0 dd pn (-1)}):=by
  unfold Drv.pickR
  rw[hdi]
  rfl
 obtain⟨R,hR⟩:∃R,Drv.pickR f.c (Drv.lookF f.c N d) st pn p=R:=⟨_,rfl⟩
 rw[hR]at hpk⊢
 have HPK:=hid hpk
 have hnd16:n.decs.length≤65536:=by have:=hst.ok.picks;omega
 clear hR
 have HP:=hid hp
 have H:=hid h
 have HST:=hid hst
 have HDP:=hid hdp
 have HE:=hid he
 have HW:=hid hW
 have HDI:=hid hdi
 have HDS:=hid hdst
 have HNOT:=hid hnot
 have HRUN:=hid hrun
 have HRNG:=hid hrng
 have HVAL:=hid hval
 have HSL:=hid hsl
 have HDCS:=hid dcs
 obtain⟨nd,hnd⟩:∃m,n.decs.length=m:=⟨_,rfl⟩
 rw[hnd]at d4 hnd16
 have HND:=hid hnd
 have HDL:=hid hddl
 have hdnd:dd<nd:=by rw[←hnd];exact hddl
 have HAL:=hid hal
 have HDD:=hid hds
 clear hp h hst hdp he hW hdi hdst hnot hrun hrng hval hdec hds hcc hdl hsl hdd dcs hnd hpk hal
 go_enter Try.func76,Try.ntmps76
 go_wp2_with fail
 go_loop [7] (fun i=>∃k:Nat,k≤dd∧i= .int .i64 k) (fun i=>dd-(intOf i).toNat)
 case atStart=>exact⟨0,Nat.zero_le _,rfl⟩
 case round=>
  obtain⟨k,hk,rfl⟩:=hrel
  have hkb:k≤65536:=by omega
  by_cases hlt:k<dd
  ·have hkl:k<n.decs.length:=by rw[HND.out];omega
   have x0:=HDCS.out k hkl
   have hne:(n.decs[k] !=st)=true:=by rw[bne_iff_ne];exact HNOT.out k hkl hlt
   generalize n.decs[k]=v at x0 hne
   have hknd:k<nd:=by omega
   have hkI:(k:Int)<(nd:Int):=by omega
   go_wp2_with fail
   go_round
   case rel=>exact⟨k+1,by omega,by go_num⟩
   case measure=>simp[intOf];omega
  ·have hkd:k=dd:=by omega
   subst hkd
   have x0:=HDCS.out k HDL.out
   rw[HDS.out]at x0
   have hkI:(k:Int)<(nd:Int):=by omega
   unfold KnowP at hKN
   cases hkn:Drv.know p.known 0 (k:Int) (pn:Int)with
   | some alt=>
    rw[hkn]at hKN
    have HK:=hid hKN
    have hr1:=HPK.out
    rw[hkn]at hr1
    have HR:=hid hr1
    clear hr1
    clear hKN hkn HPK
    go_wp2_with fail
    refine HK.out.mono ?_
    rintro e w1 ⟨rfl,rfl⟩
    dsimp only[Option.isSome,Option.getD]
    go_wp2_with fail
    go_ret
    rw[HR.out]
    exact⟨kv,rfl,H.out,Only.refl _ _,fun k e=>.inl e⟩
   | none=>
    rw[hkn]at hKN
    have HK:=hid hKN
    have HKN:=hid hkn
    have hr1:=HPK.out
    rw[hkn]at hr1
    have HR:=hid hr1
    clear hr1
    clear hKN hkn HPK
    go_upto_region 4 with fail
    go_wp2_with fail
    refine HK.out.mono ?_
    rintro e w1 ⟨rfl,hw1⟩
    obtain rfl:=hw1.symm
    dsimp only[Option.isSome,Option.getD]
    go_upto_region 7 with fail
    clear x0 d4 HNOT HDCS HK
    obtain⟨ab,aoff,acp,Ai,ci,hab,d5,a5,hAR⟩:=HST.out.drv.aut HAL.out
    have hsm:=HST.out.ok.small au[k] (List.getElem_mem HAL.out)
    have hrn:f.c.run (k:Int) (pn:Int)=Drv.runA au[k] (f.c.w.drop pn):=by
     rw[HRUN.out pn,List.getD_eq_getElem?_getD,List.getElem?_eq_getElem HAL.out];rfl
    have c1:=(H.out.cell 1).1
    simp only[rfCells,List.getElem?_toArray,List.getElem?_cons_succ,List.getElem?_cons_zero]at c1
    have hPlt:=heap_lt H.out.blk
    have hPge:=H.out.geP
    have hDlt:=HST.out.drv.dlt
    have hw1:Below f.B0 w w.drew:=⟨rfl,rfl,rfl,Nat.le_refl _,fun _ _=>rfl⟩
    obtain⟨hwc1,hwc2⟩:=HST.out.room
    have hlen16:=HST.out.len
    have hlN:pn≤f.c.w.length:=by omega
    have hRn:=rrun_any au[k] (f.c.w.drop pn) Ai (if f.wc=pn then f.WA else Option.map (fun x=>x.add pn) f.WA) ci (f.wc-pn) f.B0 w.drew (show f.B0≤w.heap.size by omega) (hAR.below hw1)
     (by rw[List.length_drop];exact reads_from (HST.out.toks.below hw1) rfl hwc1) (by rw[List.length_drop];omega) hsm.2
    rw[List.length_drop]at hRn
    unfold RRunP at hRn
    rw[←hrn]at hRn
    have hsn0:=HVAL.out.seen (k:Int) pn
    have hsn1:(f.c.run (k:Int) pn).2.2≤40000:=by
     have:=runL_le (a:=au[k]) (toks:=f.c.w.drop pn) ((f.c.w.drop pn).length+2) 0 0
     rw[hrn]
     have h2:(f.c.w.drop pn).length≤f.c.w.length:=by rw[List.length_drop];omega
     unfold Drv.runA
     omega
    have HPICK:=hid (HVAL.out.pick st pn HE.out)
    have HTRY:=hid (HVAL.out.tries st pn HE.out)
    have hal32:=HRNG.out.alts (k:Int) pn
    have HNE1:=hid (show(f.c.run (k:Int) pn).1=1→(f.c.run (k:Int) pn).2.1≠[]from fun e=>by
     rw[hrn]at e⊢
     rcases Drv.runL_kind (a:=au[k]) (toks:=f.c.w.drop pn) ((f.c.w.drop pn).length+2) 0 0 with h2 | ⟨x,hx,h2,h3⟩
     ·unfold Drv.runA at e;rw[h2]at e;cases e
     ·unfold Drv.runA at e⊢
      rw[h3]
      exact HST.out.ok.pick _ (List.getElem_mem HAL.out) x hx (by rw[←h2];exact e))
    rw[HDI.out]at HPICK HTRY
    have HR2:=hid HR.out
    clear HR
    generalize f.c.run (k:Int) pn=rr at*
    obtain⟨kd,al,sn⟩:=rr
    simp only at hRn hsn0 hsn1 hal32
    have HRn:=hid hRn
    have hkau:=HAL.out
    have hkauI:(k:Int)<(au.length:Int):=by omega
    clear hRn hrn hAR hwc2
    have KEEP:=hid (fun w' (hb:Below w.drew.heap.size w.drew w')=>(show w'.cell? ⟨f.P,0,none⟩=some (.pointer (some ⟨f.D,0,none⟩))∧w'.cell? ⟨f.P,1,none⟩=some (.slice f.WA f.c.w.length f.wc)∧w'.cell? ⟨f.D,5,none⟩=some (.slice (some ⟨ab,aoff,none⟩) au.length acp)∧w'.cell? ⟨ab,aoff+k,none⟩=some (.slice Ai au[k].length ci)from
     ⟨(hb.cell (p:=⟨f.P,0,none⟩) hPlt).trans c0,(hb.cell (p:=⟨f.P,1,none⟩) hPlt).trans c1,(hb.cell (p:=⟨f.D,5,none⟩) (show f.D<w.heap.size by omega)).trans d5,(hb.cell (p:=⟨ab,aoff+k,none⟩) (show ab<w.heap.size by omega)).trans a5⟩))
    generalize hlw:f.c.w.length=lw at*
    have HLW:=hid hlw
    clear hlw
    go_region_held3 (fun w'=>w'.cell? ⟨f.P,0,none⟩=some (.pointer (some ⟨f.D,0,none⟩))∧w'.cell? ⟨f.P,1,none⟩=some (.slice f.WA lw f.wc)∧w'.cell? ⟨f.D,5,none⟩=some (.slice (some ⟨ab,aoff,none⟩) au.length acp)∧w'.cell? ⟨ab,aoff+k,none⟩=some (.slice Ai au[k].length ci)) (first | assumption | exact⟨c0,c1,d5,a5⟩ | exact KEEP.out _ hb2) (first | (go_simp;go_at_call 93;refine HRn.out.mono ?_;rintro e w2 ⟨A2,c2',rfl,hO,hb2⟩;dsimp only))
    have ho2:Only (fun _=>False) w w2:=Only.of_below ((show Below w.heap.size w w.drew from⟨rfl,rfl,rfl,Nat.le_refl _,fun _ _=>rfl⟩).trans (show Below w.heap.size w.drew w2 from hb2))
    have H2:=hid (H.out.only ho2 (fun _ _ e=>e))
    have HAL2:=hid (ownC_RO (S:=RT f kv) (OwnC.of hO) (fun j e=>(H.out.lt j e).2))
    have HO2:=hid ho2
    have hu0:=HP.out.used0
    have hu1:=HP.out.used1
    have hfu:=HST.out.fuel
    have hsz2:=ho2.size
    clear hO hb2 ho2 c0 c1 d5 a5 KEEP HRn
    generalize (if f.wc=pn then f.WA else Option.map (fun x=>x.add pn) f.WA)=WB
    have e1:IntKind.i64.wrap (1+sn)=1+sn:=w64 (by omega) (by omega)
    go_wp2_with fail
    refine(rpay_any w2 f kv dp p (1+sn) H2.out hu0 (by omega) (by omega) (by omega)).mono ?_
    rintro e w3 ⟨ho3,⟨hf,rfl,h3⟩ | ⟨hf,rfl,h3⟩⟩
    ·have hr1:=HR2.out
     simp only[if_pos hf]at hr1
     have HR3:=hid hr1
     have HO3:=hid ((HO2.out.more (S':=RT f kv) fun _ _ e=>e.elim).trans (ho3.more (S':=RT f kv) fun _ _ e=>.inl e) fun _ _ e=>e)
     have H3:=hid h3
     clear hr1 ho3 h3 H2 HO2 hf
     go_wp2_with fail
     go_ret
     rw[HR3.out]
     exact⟨kv,rfl,H3.out,HO3.out,fun k e=>.inl e⟩
    ·have hr1:=HR2.out
     simp only[if_neg hf]at hr1
     have HR3:=hid hr1
     have HO3:=hid ((HO2.out.more (S':=RT f kv) fun _ _ e=>e.elim).trans (ho3.more (S':=RT f kv) fun _ _ e=>.inl e) fun _ _ e=>e)
     have H3:=hid h3
     have HP3:=hid (HP.out.pay (n:=1+sn) (by omega) hf)
     have HAL3:=hid (HAL2.out.only (ho3.more (S':=RT f kv) fun _ _ e=>.inl e) fun _ _ e=>e)
     have hsz3:=ho3.size
     have HFEW:=hid (show((p.known.length:Nat):Int)+1≤p.used+(1+sn) by have:=HP.out.few;omega)
     clear hr1 ho3 h3 H2 HO2 hf HAL2 e1 HR2
     have hB3:f.B0≤w3.heap.size:=by have:=HO3.out.size;omega
     by_cases hk1:kd=1
     ·have hd1:(kd==1)=true:=by rw[hk1];rfl
      have hd3:(kd==3)=false:=by rw[hk1];rfl
      have hr1:=HR3.out
      simp only[if_pos hk1]at hr1
      have hne:=HNE1.out hk1
      obtain⟨a,al',rfl⟩:∃a al',al=a ::al':=by
       cases al with
       | nil=>exact absurd rfl hne
       | cons a al'=>exact⟨a,al',rfl⟩
      simp only[List.headD_cons]at hr1
      have HR4:=hid hr1
      obtain⟨xb,xo,rfl,hxb,_,hxc⟩:=HAL3.out.2 (by simp)
      have x0:=hxc 0 (.int .i64 a) rfl
      rw[Nat.add_zero]at x0
      rw[List.length_cons]
      generalize al'.length=na
      clear hne hr1 HR3 hxc hk1 HPICK HTRY HNE1
      go_wp2_with fail
      refine(rsay_any w3 f kv dp _ 0 k pn a H3.out hkl hB3).mono ?_
      rintro e w4 ⟨rfl,ho4,kv',h4,hk4⟩
      have HF:Hid (RPickP f kv dp (a,{p with used:=p.used+(1+sn),known:=Drv.say p.known 0 k pn a}) w (.returned (.int .i64 a)) w4):=hid ⟨kv',rfl,h4,HO3.out.trans ho4 fun _ _ e=>e,fun j e=>(hk4 j e).imp id fun g=>by omega⟩
      clear ho4 h4 hk4 x0
      dsimp only
      go_wp2_with fail
      go_ret
      rw[HR4.out]
      exact HF.out
     ·have hd1:(kd==1)=false:=by simpa using hk1
      have hr1:=HR3.out
      simp only[if_neg hk1]at hr1
      by_cases hk3:kd=3
      ·have hd3:(kd==3)=true:=by rw[hk3];rfl
       simp only[if_pos hk3]at hr1
       have HR4:=hid hr1
       obtain⟨hne,halts⟩:=HTRY.out hk3
       have hlt0:0<al.length:=List.length_pos_iff.2 hne
       have HALT:=hid (fun a ha=>Drv.altOk HRNG.out HVAL.out HE.out (halts a ha))
       have HALI:=hid halts
       have hb3:Below f.B0 w w3:=HO3.out.below' (fun j e=>(H.out.lt j e).1) (by omega)
       obtain⟨s0,s1,s2⟩:=Drv.st_ne HE.out
       obtain⟨i0,hi0⟩:∃i0:Nat,st=i0:=⟨st.toNat,by omega⟩
       subst hi0
       simp only[Int.toNat_natCast]at s1 s2
       obtain⟨ZA,zc,z0,hz⟩:=HST.out.drv.states
       rw[HSL.out]at s1
       have s2':f.c.st (i0:Int)=n.states[i0]:=by rw[s2];congr 1
       obtain⟨zb,zo,EA,ec,XA,xc,rfl,hzb,z1,z2,z3,re,rx⟩:=hz.at s1
       rw[←s2']at z1 z2 z3 re rx
       have z0:=(hb3.cell (p:=⟨f.D,0,none⟩) hDlt).trans z0
       have z1:=(hb3.cell (p:=⟨zb,zo+i0*3,none⟩) hzb).trans z1
       have z2:=(hb3.cell (p:=⟨zb,zo+i0*3+1,none⟩) hzb).trans z2
       have z3:=(hb3.cell (p:=⟨zb,zo+i0*3+2,none⟩) hzb).trans z3
       clear hb3
       have c0:=(H3.out.cell 0).1
       simp only[rfCells,List.getElem?_toArray,List.getElem?_cons_zero]at c0
       obtain⟨S,hS⟩:∃S,f.c.st (i0:Int)=S:=⟨_,rfl⟩
       rw[hS]at z1 z2 z3 re rx
       have HSS:=hid hS
       have hi0I:(i0:Int)<(n.states.length:Int):=by omega
       obtain⟨ns,hns⟩:∃m,n.states.length=m:=⟨_,rfl⟩
       rw[hns]at z0 hi0I
       have s1n:i0<ns:=by omega
       have hns6:ns≤1000000:=by rw[←hns];exact HST.out.ok.states
       have hSb:=HRNG.out.both i0 HE.out
       rw[hS]at hSb
       obtain⟨hSb1,hSb2⟩:=hSb
       obtain⟨nE,hnE⟩:∃m,S.edges.length=m:=⟨_,rfl⟩
       obtain⟨nX,hnX⟩:∃m,S.ends.length=m:=⟨_,rfl⟩
       rw[hnE]at z2 re hSb1 hSb2
       rw[hnX]at z3 rx hSb1
       obtain rfl:=hSb1.symm
       have HNE:=hid hnE
       have HNX:=hid hnX
       have RE:=hid re
       have RX:=hid rx
       generalize hrl:S.rule=rl at z1
       clear hr1 hne halts s0 s2 s2' s1 hz hS hnE hnX hrl re rx hns HR3 HPICK HTRY HNE1 hk1 hk3
       have e1:w3.heap.size+1=(w3.alloc (.cells #[.int .i64 rl,.slice EA nE ec,.slice XA nE xc] 44)).heap.size:=by simp
       have T:=heap_alloc_new w3 (.cells #[.int .i64 rl,.slice EA nE ec,.slice XA nE xc] 44)
       have hoa:Only (fun _=>False) w3 (w3.alloc (.cells #[.int .i64 rl,.slice EA nE ec,.slice XA nE xc] 44)):=Only.of_below (below_new _ _)
       have START:Hid (TryL f kv dp (Drv.lookF f.c N d) S k pn al A2 R w w3.heap.size #[.int .i64 rl,.slice EA nE ec,.slice XA nE xc] 0 (-1) {p with used:=p.used+(1+sn)} kv (w3.alloc (.cells #[.int .i64 rl,.slice EA nE ec,.slice XA nE xc] 44))):=hid
        ⟨H3.out.only hoa fun _ _ e=>e,HO3.out.trans (hoa.more (S':=RT f kv) fun _ _ e=>e.elim) fun _ _ e=>e,fun _ e=>.inl e,T,by have:=HO3.out.size;omega,HP3.out,HFEW.out,by
         have:=HP.out.spec1
         show p.spec+((al.length:Int)-(0:Nat))≤64*(p.used+(1+sn))
         omega,HAL3.out.only (hoa.more (S':=RT f kv) fun _ _ e=>e.elim) fun _ _ e=>e,.inl ⟨rfl,hlt0,by rw[HR4.out,HSS.out];rfl⟩⟩
       have FIN:=hid (fun(wx:World) (q:Drv.PS) (kv':Value) (av:Int) (e:Ending) (w4:World) (ho:Only (RT f kv) w wx) (hn:∀k',kv'.ownBlock=some k'→kv.ownBlock=some k'∨w.heap.size≤k') (hR:R=(av,{q with known:=Drv.say q.known 0 k pn av})) (h4:RSayP f kv' dp q 0 k pn av wx e w4)=>(show e= .returned (.tuple #[])∧RPickP f kv dp R w (.returned (.int .i64 av)) w4 from by
        obtain⟨he,ho4,kv4,h4,hk4⟩:=h4
        refine⟨he,kv4,by rw[hR],by rw[hR];exact h4,ho.trans ho4 fun b hb e=>e.elim .inl fun e=>(hn b e).elim .inr fun g=>by omega,fun b e=>?_⟩
        rcases hk4 b e with g | g
        ·exact hn b g
        ·exact .inr (Nat.le_trans ho.size g)))
       go_upto_region 15 with fail
       generalize w3.alloc (.cells #[.int .i64 rl,.slice EA nE ec,.slice XA nE xc] 44)=w5 at START e1 T hoa⊢
       generalize hgg:w3.heap.size=gg at START⊢
       clear e1 T hoa z0 z1 z2 z3 c0
       go_wp2_with fail
       go_loopw[8,14] (fun alt i wr=>∃(j:Nat) (av:Int) (q:Drv.PS) (kv':Value),j≤al.length∧alt= .int .i64 av∧i= .int .i64 j∧Hid (TryL f kv dp (Drv.lookF f.c N d) S k pn al A2 R w gg #[.int .i64 rl,.slice EA nE ec,.slice XA nE xc] j av q kv' wr)) (fun _ i _=>al.length-(intOf i).toNat)
       case atStart=>exact⟨0,-1,_,kv,Nat.zero_le _,rfl,rfl,START⟩
       case round=>
        clear START
        obtain⟨j,av,q,kv',hj,rfl,rfl,HL⟩:=hrel
        obtain⟨nal,hnal⟩:∃m,al.length=m:=⟨_,rfl⟩
        rw[hnal]at hj hal32 hlt0⊢
        have HNAL:=hid hnal
        clear hnal
        have hkq:q.known.length≤1000000:=by have:=HL.out.ok.few;have:=HL.out.ok.used1;omega
        have hBr:f.B0≤wr.heap.size:=by have:=HL.out.only.size;omega
        rcases HL.out.res with⟨rfl,hjl,hR⟩ | ⟨hav,hR⟩
        ·have hjn:j<nal:=by rw[←HNAL.out];exact hjl
         have hjI:(j:Int)<(nal:Int):=by omega
         have hdr:=List.drop_eq_getElem_cons hjl
         have hmem:=List.getElem_mem hjl
         have hao:=HALT.out _ hmem
         have hai:=HALI.out _ hmem
         rw[HSS.out]at hao hai
         obtain⟨xb,xo,rfl,hxb,hxn,hxc⟩:=HL.out.alts.2 (by rw[HNAL.out];omega)
         have x0:=hxc j _ (by rw[List.getElem?_map,List.getElem?_eq_getElem hjl];rfl)
         have hnx:∀(h2:j+1<al.length),al.drop (j+1)=al[j+1] ::al.drop (j+2):=fun h2=>List.drop_eq_getElem_cons h2
         obtain⟨an,han⟩:∃an:Nat,al[j]=an:=⟨al[j].toNat,by have:=hai.1;omega⟩
         rw[han]at hdr hao hai x0
         have haE:an<S.edges.length:=by have:=hai.2;omega
         have haX:an<S.ends.length:=by rw[HNX.out,←HNE.out];exact haE
         have hanE:an<nE:=by rw[←HNE.out];exact haE
         have hanI:(an:Int)<(nE:Int):=by omega
         clear han hmem hxc
         rw[hdr]at hR
         by_cases hlast:j+1=nal
         ·have hdn:al.drop (j+1)= []:=List.drop_eq_nil_of_le (by rw[HNAL.out];omega)
          rw[hdn]at hR
          have HFR:=hid (show R=((an:Int),{q with known:=Drv.say q.known 0 k pn an})from hR)
          have HSAY:=hid (rsay_any wr f kv' dp q 0 k pn an HL.out.at' hkq hBr)
          have hq1:((j:Int)==(nal:Int)-1)=true:=by rw[beq_iff_eq];omega
          clear hR hdn hnx hdr hao hai hlast hjl haE haX
          go_wp2_with fail
          refine HSAY.out.mono ?_
          intro e w6 h6
          obtain⟨rfl,h7⟩:=FIN.out wr q kv' an e w6 HL.out.only HL.out.new HFR.out h6
          have H7:=hid h7
          clear h6 h7
          dsimp only
          go_wp2_with fail
          go_ret
          exact H7.out
         ·have hj2:j+1<al.length:=by rw[HNAL.out];omega
          have hq1:((j:Int)==(nal:Int)-1)=false:=by rw[beq_eq_false_iff_ne];omega
          have hR2:=hR
          rw[hnx hj2,Drv.tryR_more,←hnx hj2]at hR2
          have hlok:=Drv.lookF_ok (Drv.walkF_ok HRNG.out HVAL.out N d hd) (S.ed an).to (Drv.at0 S.ends an) pn q hao.1.1 hao.1.2 HL.out.ok (by have:=HL.out.spec;rw[HNAL.out]at this;omega) h0 (by rw[HLW.out];exact hl)
          have hsp0:=HL.out.ok.spec0
          have hsp1:q.spec≤6400000:=by have:=HL.out.ok.spec1;have:=HL.out.ok.used1;omega
          have e7:IntKind.i64.wrap (q.spec+1)=q.spec+1:=w64 (by omega) (by omega)
          have c7:=(HL.out.at'.cell 7).1
          have z7:=(HL.out.at'.cell 7).2
          simp only[rfCells,List.getElem?_toArray,List.getElem?_cons_succ,List.getElem?_cons_zero]at c7
          have h8:=HL.out.at'.set (opn':=dp) (p':={q with spec:=q.spec+1}) 7 (.int .i64 (q.spec+1)) rfl rfl
          have ho8:=Only.of_set wr f.P 7 (.int .i64 (q.spec+1))
          have hRT:RT f kv' f.P:=.inl rfl
          have hgl:=heap_lt HL.out.blk
          have hgR:¬RT f kv' gg:=fun e=>by
           rcases e with e | e
           ·have:=HL.out.ge;omega
           ·have h1:=HL.out.at'.row
            exact row_not h1 HL.out.blk (by decide) e
          have T8:=(ho8.block gg hgl (fun e=>hgR (.inl e))).trans HL.out.blk
          have x8:=(ho8.cell (o:=xo+j) hxb (fun e=>hxn (.inl e))).trans x0
          have ALT8:=HL.out.alts.only (ho8.more (S':=RT f kv') fun _ _ e=>.inl e) fun _ _ e=>e
          have hx8:xb<(wr.setCell ⟨f.P,7,none⟩ (.int .i64 (q.spec+1))).heap.size:=Nat.lt_of_lt_of_le hxb ho8.size
          have hs8:(wr.setCell ⟨f.P,7,none⟩ (.int .i64 (q.spec+1))).heap.size=wr.heap.size:=by simp[World.setCell]
          have ho08:=HL.out.only.trans (ho8.more (S':=RT f kv') fun _ _ e=>.inl e) fun b hb e=>e.elim .inl fun e=>(HL.out.new b e).elim .inr fun g=>by omega
          have hb08:Below f.B0 w (wr.setCell ⟨f.P,7,none⟩ (.int .i64 (q.spec+1))):=ho08.below' (fun j e=>(H.out.lt j e).1) (by omega)
          go_upto_region 21 with fail
          generalize wr.setCell ⟨f.P,7,none⟩ (.int .i64 (q.spec+1))=w8 at h8 ho8 T8 x8 ALT8 hx8 hs8 ho08 hb08⊢
          have g1:w8.cell? ⟨gg,1,none⟩=some (.slice EA nE ec):=by rw[Lib.cell_of_heap T8];rfl
          have g2:w8.cell? ⟨gg,2,none⟩=some (.slice XA nE xc):=by rw[Lib.cell_of_heap T8];rfl
          obtain⟨eb,eo,rfl,heb,ce⟩:=(RE.out.below hb08).2 (by omega)
          obtain⟨yb,yo,rfl,hyb,cy⟩:=(RX.out.below hb08).2 (by omega)
          have y1a:=ce _ _ (flat_get encEf 3 (fun _=>rfl) S.edges an haE 2 (by omega))
          have y2:=cy an _ (by rw[List.getElem?_map,List.getElem?_eq_getElem haX];rfl)
          have hed:(S.ed (an:Int)).to=S.edges[an].to:=by unfold Drv.NSt.ed;rw[Int.toNat_natCast,List.getD_eq_getElem?_getD,List.getElem?_eq_getElem haE];rfl
          have hen:Drv.at0 S.ends (an:Int)=S.ends[an]:=by unfold Drv.at0;rw[Int.toNat_natCast,List.getD_eq_getElem?_getD,List.getElem?_eq_getElem haX];rfl
          have y1:w8.cell? ⟨eb,eo+(an*3+2),none⟩=some (.int .i64 S.edges[an].to):=y1a
          clear y1a
          rw[←hed,←Nat.add_assoc]at y1
          rw[←hen]at y2
          have hgl8:=heap_lt T8
          have hw8l:w.heap.size≤w8.heap.size:=ho08.size
          have hRTn:∀b,b<f.B0→¬RT f kv' b:=fun b hb e=>by
           have:=(HL.out.at'.lt b e).1
           omega
          have KEEP:=hid (fun w' (ho:Only (RT f kv') w8.drew w')=>(show w'.cell? ⟨gg,1,none⟩=some (.slice (some ⟨eb,eo,none⟩) nE ec)∧w'.cell? ⟨gg,2,none⟩=some (.slice (some ⟨yb,yo,none⟩) nE xc)∧w'.cell? ⟨xb,xo+j,none⟩=some (.int .i64 an)∧w'.cell? ⟨eb,eo+an*3+2,none⟩=some (.int .i64 (S.ed an).to)∧w'.cell? ⟨yb,yo+an,none⟩=some (.int .i64 (Drv.at0 S.ends an))from
           ⟨(ho.cell (o:=1) hgl8 hgR).trans g1,(ho.cell (o:=2) hgl8 hgR).trans g2,(ho.cell (o:=xo+j) hx8 hxn).trans x8,(ho.cell (o:=eo+an*3+2) (show eb<w8.heap.size by omega) (hRTn eb heb)).trans y1,(ho.cell (o:=yo+an) (show yb<w8.heap.size by omega) (hRTn yb hyb)).trans y2⟩))
          have hdr8:Only (fun _=>False) w8 w8.drew:=⟨rfl,rfl,rfl,Nat.le_refl _,fun _ _ _=>rfl⟩
          have HLK:=hid (rlook_any f n au N d HW.out w8.drew kv' (S.ed an).to (Drv.at0 S.ends an) pn q (by rw[HDP.out];exact h8.only hdr8 fun _ _ e=>e) ((HST.out.below hb08).below (show Below f.B0 w8 w8.drew from⟨rfl,rfl,rfl,Nat.le_refl _,fun _ _=>rfl⟩)) hao.1.1 hao.1.2 HL.out.ok (by have:=HL.out.spec;rw[HNAL.out]at this;omega) h0 (by rw[HLW.out];exact hl))
          rw[HDP.out]at HLK
          have HH:=hid h8
          have HT8:=hid T8
          have HALT8:=hid ALT8
          have HO08:=hid ho08
          have HJ2:=hid hj2
          have HR5:=hid hR2
          generalize hrr:Drv.lookF f.c N d (S.ed (an:Int)).to (Drv.at0 S.ends (an:Int)) (pn:Int) q=rr at HLK HR5 hlok
          have HLO:=hid hlok
          have HGR:=hid hgR
          have hjal:j<nal:=hjn
          clear hrr hlok hR hR2 hnx hdr hao hai hlast hjl haE haX hed hen ce cy h8 T8 ALT8 ho08 hj2 c7 z7 ho8 hRT hs8 hgR hRTn hdr8 x0 e7 hb08
          go_region_held3 (fun w'=>w'.cell? ⟨gg,1,none⟩=some (.slice (some ⟨eb,eo,none⟩) nE ec)∧w'.cell? ⟨gg,2,none⟩=some (.slice (some ⟨yb,yo,none⟩) nE xc)∧w'.cell? ⟨xb,xo+j,none⟩=some (.int .i64 an)∧w'.cell? ⟨eb,eo+an*3+2,none⟩=some (.int .i64 (S.ed an).to)∧w'.cell? ⟨yb,yo+an,none⟩=some (.int .i64 (Drv.at0 S.ends an))) (first | assumption | exact⟨g1,g2,x8,y1,y2⟩ | exact KEEP.out _ ho9) (first | (go_simp;go_at_call 80;refine HLK.out.mono ?_;rintro e w9 ⟨A9,m9,c9,kv9,rfl,h9,ho9,hn9⟩;dsimp only))
          have ho89:Only (RT f kv') w8 w9:=(show Only (RT f kv') w8 w8.drew from⟨rfl,rfl,rfl,Nat.le_refl _,fun _ _ _=>rfl⟩).trans (show Only (RT f kv') w8.drew w9 from ho9) fun _ _ e=>e
          have hn89:∀k',kv9.ownBlock=some k'→kv'.ownBlock=some k'∨w8.heap.size≤k':=hn9
          have c9':=(h9.cell 9).1
          simp only[rfCells,List.getElem?_toArray,List.getElem?_cons_succ,List.getElem?_cons_zero]at c9'
          have hnn:∀k',kv9.ownBlock=some k'→kv.ownBlock=some k'∨w.heap.size≤k':=fun k' e=>by
           rcases hn89 k' e with g | g
           ·exact HL.out.new k' g
           ·exact .inr (by omega)
          have ho09:Only (RT f kv) w w9:=HO08.out.trans ho89 fun b hb e=>e.elim .inl fun e=>(HL.out.new b e).elim .inr fun g=>by omega
          have T9:=(ho89.block gg hgl8 HGR.out).trans HT8.out
          have ALT9:=HALT8.out.only (S':=RT f kv9) ho89 fun b hb e=>e.elim .inl fun e=>(hn89 b e).elim .inr fun g=>by omega
          obtain⟨k1,k2,k3⟩:=HLO.out
          have HF5:=hid (fun(av':Int) (hres:(av'= -1∧j+1<al.length∧R=Drv.tryR f.c (Drv.lookF f.c N d) S k pn (al.drop (j+1)) rr.2)∨(0≤av'∧R=(av',{rr.2 with known:=Drv.say rr.2.known 0 k pn av'})))=>(show TryL f kv dp (Drv.lookF f.c N d) S k pn al (some ⟨xb,xo,none⟩) R w gg #[.int .i64 rl,.slice (some ⟨eb,eo,none⟩) nE ec,.slice (some ⟨yb,yo,none⟩) nE xc] (j+1) av' rr.2 kv9 w9 from
           ⟨h9,ho09,hnn,T9,HL.out.ge,k1,by have:=k2.room;have:=HL.out.few;omega,by have:=k2.spec;have:=HL.out.spec;omega,ALT9,hres⟩))
          have HH9:=hid (And.intro h9 (And.intro ho09 hnn))
          clear ho89 hn89 hnn ho09 T9 ALT9 k1 k2 k3 h9 ho9 hn9 g1 g2 x8 y1 y2 KEEP HLK HLO
          obtain⟨tv,q9⟩:=rr
          simp only at c9' HF5 HH9 HR5
          have hr6:=HR5.out
          by_cases herr:q9.err=0
          ·rw[if_neg (by simpa using herr)]at hr6
           have he0:(q9.err !=0)=false:=by rw[herr];rfl
           by_cases hto:0≤tv
           ·rw[if_pos hto]at hr6
            have HG:=hid (HF5.out an (.inr ⟨by omega,hr6⟩))
            have hti:decide (0≤tv)=true:=by rw[decide_eq_true_eq];exact hto
            clear hr6 HF5 HR5 herr hto
            go_wp2_with fail
            go_roundw
            case rel=>exact⟨j+1,an,q9,kv9,by omega,rfl,by go_num,HG⟩
            case measure=>simp[intOf];omega
           ·rw[if_neg hto]at hr6
            have HG:=hid (HF5.out (-1) (.inl ⟨rfl,HJ2.out,hr6⟩))
            have hti:decide (0≤tv)=false:=by rw[decide_eq_false_iff_not];exact hto
            clear hr6 HF5 HR5 herr hto
            go_wp2_with fail
            go_roundw
            case rel=>exact⟨j+1,-1,q9,kv9,by omega,rfl,by go_num,HG⟩
            case measure=>simp[intOf];omega
          ·rw[if_pos (by simpa using herr)]at hr6
           have he0:(q9.err !=0)=true:=by rw[bne_iff_ne];exact herr
           have HG:Hid (RPickP f kv dp R w (.returned (.int .i64 (-1))) w9):=hid ⟨kv9,by rw[hr6],by rw[hr6];exact HH9.out.1,HH9.out.2.1,HH9.out.2.2⟩
           clear hr6 HF5 HR5 herr
           go_wp2_with fail
           go_ret
           exact HG.out
        ·have HFR:=hid hR
         have hb1:decide (av<0)=false:=by rw[decide_eq_false_iff_not];omega
         have hb2:(0:Int)≤av:=hav
         have hsay:=rsay_any wr f kv' dp q 0 k pn av HL.out.at' hkq hBr
         have HSAY:=hid hsay
         clear hR hsay
         by_cases hjn:j<nal
         ·have hjI:(j:Int)<(nal:Int):=by omega
          go_wp2_with fail
          refine HSAY.out.mono ?_
          intro e w6 h6
          obtain⟨rfl,h7⟩:=FIN.out wr q kv' av e w6 HL.out.only HL.out.new HFR.out h6
          have H7:=hid h7
          clear h6 h7
          dsimp only
          go_wp2_with fail
          go_ret
          exact H7.out
         ·have hjI:¬(j:Int)<(nal:Int):=by omega
          go_wp2_with fail
          refine HSAY.out.mono ?_
          intro e w6 h6
          obtain⟨rfl,h7⟩:=FIN.out wr q kv' av e w6 HL.out.only HL.out.new HFR.out h6
          have H7:=hid h7
          clear h6 h7
          dsimp only
          go_wp2_with fail
          go_ret
          exact H7.out
      ·simp only[if_neg hk3]at hr1
       have HR4:=hid hr1
       have hd3:(kd==3)=false:=by simpa using hk3
       clear hr1 hk1 hk3 HR3 HPICK HTRY HNE1
       go_wp2_with fail
       refine(rsay_any w3 f kv dp _ 0 k pn (-1) H3.out hkl hB3).mono ?_
       rintro e w4 ⟨rfl,ho4,kv',h4,hk4⟩
       have HF:Hid (RPickP f kv dp (-1,{p with used:=p.used+(1+sn),known:=Drv.say p.known 0 k pn (-1)}) w (.returned (.int .i64 (-1))) w4):=hid ⟨kv',rfl,h4,HO3.out.trans ho4 fun _ _ e=>e,fun j e=>(hk4 j e).imp id fun g=>by have:=HO3.out.size;omega⟩
       clear ho4 h4 hk4
       dsimp only
       go_wp2_with fail
       go_ret
       rw[HR4.out]
       exact HF.out
end Go.Proofs.Ytgflanlniejflaa
