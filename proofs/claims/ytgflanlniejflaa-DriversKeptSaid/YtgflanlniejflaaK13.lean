/-
  Drivers: Pst6, Pst7, Pst8 (texts joined).
-/
import Derived.Deep.RegionHeld3
import Derived.Laws.OwnMore
import Derived.Test.YtgflanlniejflaaK08
namespace Go.Proofs.Ytgflanlniejflaa
open Go.RowKit Go.Maps
open Go.Sort (grow)
set_option maxRecDepth 100000
def TriesP (f:Fx) (k:Drv.Cf) (d:Int) (alts:List Int) (w:World) (e:Ending) (w':World):Prop:=e= .returned (.tuple #[])∧Below f.B0 w w'∧∃v',PstAt w' f v' (Drv.triesM f.c d alts k)
set_option maxHeartbeats 1600000 in
theorem tries_one (w:World) (f:Fx) (v:Vx) (k:Drv.Cf) (d a:Int) (A:Option Addr) (ca:Nat) (hl:Lim f) (h:PstAt w f v k) (hk:k.known.length<4000000000) (hd:Drv.InR f.c.decs.length d) (ha0:0≤a) (ha1:a<32) (hp0:0≤k.pos) (hp1:k.pos≤f.c.w.length)
 (hr:Reads w w.heap.size 1 A 1 [.int .i64 a]):
 Calls Try.prog 89 #[.pointer (some ⟨f.P,0,none⟩),.int .i64 d,.slice A 1 ca] w (TriesP f k d [a] w):=by
 obtain⟨b0,off0,rfl,hb0,hcell⟩:=hr.2 (by omega)
 have a0:=hcell 0 (.int .i64 a) rfl
 rw[Nat.add_zero]at a0
 obtain⟨r,t,q,b,s,hpar,_⟩:=h.par
 have c2:=(hpar.cell 2).1
 have c9:=(hpar.cell 9).1
 simp only[parCells,List.getElem?_toArray,List.getElem?_cons_succ,List.getElem?_cons_zero]at c2 c9
 have HPAR:=hid hpar
 have H:=hid h
 have HL:=hid hl
 clear hr hcell hpar h hl
 go_enter Try.func89,Try.ntmps89
 go_wp2_with fail
 refine still_tail 12 (by kernel_rfl) (by kernel_rfl) ?_
 intro w2 HW2
 have ho2:Only (fun _=>False) w w2:=by rw[HW2.out];exact⟨rfl,rfl,rfl,Nat.le_refl _,fun _ _ _=>rfl⟩
 clear HW2
 have c2:=(ho2.cell (o:=2) HPAR.out.lt (fun e=>e)).trans c2
 have c9:=(ho2.cell (o:=9) HPAR.out.lt (fun e=>e)).trans c9
 have a0:=(ho2.cell (o:=off0) hb0 (fun e=>e)).trans a0
 have HP2:=hid (H.out.still ho2)
 have HB2:=hid (ho2.below' (B:=f.B0) (fun _ e=>e.elim) (by have:=H.out.ltTS f.P (.inl rfl);have:=H.out.geP;omega))
 clear H HPAR ho2 hb0
 simp only[List.take_succ_cons,List.take_zero,List.drop_succ_cons,List.drop_zero]
 repeat still_step
 refine wpStill_nil ?_
 go_wp2_with fail
 refine(sayPick0P w2 f v k d k.pos a HP2.out hk hd HL.out.picks hp0 hp1 HL.out.toks (by omega) ha1).mono ?_
 rintro e w3 ⟨rfl,hb3,_,hP3⟩
 have HB3:=hid (HB2.out.trans hb3)
 have HP3:=hid hP3
 clear c2 c9 a0 HP2 HB2 hb3 hP3
 go_wp2
 go_end0
 exact⟨rfl,HB3.out,v,HP3.out⟩
theorem Sta.state {w:World}{f:Fx}(h:Sta w f){i:Nat}(hi:i<f.c.states.length):∃A c b off EA ec XA xc,A=some ⟨b,off,none⟩∧b<f.B0∧w.cell? ⟨f.pc.D,0,none⟩=some (.slice A f.c.states.length c)∧
 w.cell? ⟨b,off+i*3,none⟩=some (.int .i64 f.c.states[i].rule)∧w.cell? ⟨b,off+i*3+1,none⟩=some (.slice EA f.c.states[i].edges.length ec)∧w.cell? ⟨b,off+i*3+2,none⟩=some (.slice XA f.c.states[i].ends.length xc)∧
 Reads w f.B0 3 EA f.c.states[i].edges.length (flat encEd f.c.states[i].edges)∧Reads w f.B0 1 XA f.c.states[i].ends.length (f.c.states[i].ends.map (Value.int .i64)):=by
 obtain⟨A,c,h1,vs,h2,h3⟩:=h.states
 obtain⟨EA,ec,XA,xc,e0,e1,e2,r0,r1⟩:=h3 i hi
 obtain⟨b,off,hA,hb,hc⟩:=h2.2 (by omega)
 refine⟨A,c,b,off,EA,ec,XA,xc,hA,hb,h1,hc _ _ e0,?_,?_,r0,r1⟩
 ·have:=hc _ _ e1;rwa [←Nat.add_assoc]at this
 ·have:=hc _ _ e2;rwa [←Nat.add_assoc]at this
theorem NumsAt.get {w:World}{D B j:Nat}{l:List Int}(h:NumsAt w D B j l){i:Nat}(hi:i<l.length):∃b off c,b<B∧w.cell? ⟨D,j,none⟩=some (.slice (some ⟨b,off,none⟩) l.length c)∧w.cell? ⟨b,off+i,none⟩=some (.int .i64 l[i]):=by
 obtain⟨A,c,h1,h2⟩:=h
 obtain⟨b,off,rfl,hb,hc⟩:=h2.2 (by omega)
 exact⟨b,off,c,hb,h1,hc i _ (by simp[List.getElem?_eq_getElem hi])⟩
theorem Reads.getZ {w:World}{B:Nat}{A:Option Addr}{l:List Int}(h:Reads w B 1 A l.length (l.map (Value.int .i64))){i:Nat}(hi:i<l.length):∃b off,A=some ⟨b,off,none⟩∧b<B∧w.cell? ⟨b,off+i,none⟩=some (.int .i64 l[i]):=by
 obtain⟨b,off,hA,hb,hc⟩:=h.2 (by omega)
 exact⟨b,off,hA,hb,hc i _ (by simp[List.getElem?_eq_getElem hi])⟩
theorem flat_get3 (l:List Drv.Ed){i:Nat}(hi:i<l.length):(flat encEd l)[i*3]? =some (.int .u8 l[i].kind)∧(flat encEd l)[i*3+1]? =some (.int .i64 l[i].what)∧(flat encEd l)[i*3+2]? =some (.int .i64 l[i].to):=by
 have h:=flat_get encEd 3 (fun _=>rfl) l i hi
 exact⟨(h 0 (by omega)).trans rfl,(h 1 (by omega)).trans rfl,(h 2 (by omega)).trans rfl⟩
theorem Reads.getE {w:World}{B:Nat}{A:Option Addr}{l:List Drv.Ed}(h:Reads w B 3 A l.length (flat encEd l)){i:Nat}(hi:i<l.length):∃b off,A=some ⟨b,off,none⟩∧b<B∧w.cell? ⟨b,off+i*3,none⟩=some (.int .u8 l[i].kind)∧w.cell? ⟨b,off+i*3+1,none⟩=some (.int .i64 l[i].what)∧w.cell? ⟨b,off+i*3+2,none⟩=some (.int .i64 l[i].to):=by
 obtain⟨b,off,hA,hb,hc⟩:=h.2 (by omega)
 obtain⟨e0,e1,e2⟩:=flat_get3 l hi
 refine⟨b,off,hA,hb,hc _ _ e0,?_,?_⟩
 ·have:=hc _ _ e1;rwa [←Nat.add_assoc]at this
 ·have:=hc _ _ e2;rwa [←Nat.add_assoc]at this
end Go.Proofs.Ytgflanlniejflaa
namespace Go.Proofs.Ytgflanlniejflaa
open Go.RowKit Go.Maps
open Go.Sort (grow)
set_option maxRecDepth 100000
theorem st_at {c:Drv.DC}{i:Nat}(hi:i<c.states.length):c.st (i:Int)=c.states[i]:=by
 unfold Drv.DC.st
 rw[if_neg (by omega),List.getD_eq_getElem?_getD,Int.toNat_natCast,List.getElem?_eq_getElem hi]
 rfl
theorem at0_at {l:List Int}{i:Nat}(hi:i<l.length):Drv.at0 l (i:Int)=l[i]:=by
 unfold Drv.at0
 rw[List.getD_eq_getElem?_getD,Int.toNat_natCast,List.getElem?_eq_getElem hi]
 rfl
theorem ed_at {s:Drv.NSt}{i:Nat}(hi:i<s.edges.length):s.ed (i:Int)=s.edges[i]:=by
 unfold Drv.NSt.ed
 rw[List.getD_eq_getElem?_getD,Int.toNat_natCast,List.getElem?_eq_getElem hi]
 rfl
theorem InR.nat {n:Nat}{x:Int}(h:Drv.InR n x):∃i:Nat,x=i∧i<n:=⟨x.toNat,by have:=h.1;omega,by have:=h.1;have:=h.2;omega⟩
theorem st_inR {c:Drv.DC}{i:Int}(h:(c.st i).ends.length≠0):Drv.InR c.states.length i:=by
 unfold Drv.DC.st at h
 split at h
 ·exact absurd rfl h
 ·by_cases hi:i.toNat<c.states.length
  ·exact⟨by omega,by omega⟩
  ·rw[List.getD_eq_getElem?_getD,List.getElem?_eq_none (by omega)]at h
   exact absurd rfl h
set_option maxHeartbeats 1600000 in
theorem tries_more (w:World) (f:Fx) (v:Vx) (k:Drv.Cf) (d:Int) (alts:List Int) (A:Option Addr) (ca:Nat) (hl:Lim f) (h:PstAt w f v k) (hc:Drv.COk f.c k) (hsta:Sta w f) (hd:Drv.InR f.c.decs.length d)
 (he:(f.c.st (Drv.at0 f.c.decs d)).ends.length≠0) (hg:Drv.Rng f.c) (hn:2≤alts.length) (hn32:alts.length≤32) (ha:∀a∈alts,Drv.alt1 f.c d a) (hsp0:0≤k.spec) (hsp1:k.spec≤4000000000)
 (hr:RO w (TS f v) 1 A alts.length (alts.map (Value.int .i64))) (hca:alts.length≤ca):
 Calls Try.prog 89 #[.pointer (some ⟨f.P,0,none⟩),.int .i64 d,.slice A alts.length ca] w (TriesP f k d alts w):=by
 obtain⟨a,al,rfl⟩:∃a al,alts=a ::al:=by
  cases alts with
  | nil=>simp at hn
  | cons a al=>exact⟨a,al,rfl⟩
 have ha0:=ha a (by simp)
 obtain⟨an,rfl,hae⟩:=InR.nat ha0
 obtain⟨dn,rfl,hdn⟩:=InR.nat hd
 obtain⟨sn,hsn,hslt⟩:=InR.nat (st_inR he)
 have hb:=hg.both _ he
 rw[hsn]at he hae hb
 rw[st_at hslt]at he hae hb
 have hax:an<f.c.states[sn].ends.length:=by omega
 have ha32:an<32:=by omega
 obtain⟨DA,Dc,db,doff,EA,ec,XA,xc,rfl,hdb,d0,s0,s1,s2,rE,rX⟩:=hsta.state hslt
 obtain⟨eb,eoff,rfl,heb,_,_,e2⟩:=Reads.getE rE hae
 obtain⟨xb,xoff,rfl,hxb,x0⟩:=Reads.getZ rX hax
 obtain⟨cb,coff,cc,hcb,d4,c4⟩:=hsta.decs.get hdn
 have hdsn:f.c.decs[dn]=(sn:Int):=by rw[←hsn,at0_at hdn]
 rw[hdsn]at c4
 have hPlt:=h.ltTS f.P (.inl rfl)
 have hPge:=h.geP
 have hDlt:=hsta.dlt
 obtain⟨b0,off0,rfl,hb0,hb0S,hcell⟩:=hr.2 (by omega)
 have a0:=hcell 0 (.int .i64 an) (by simp)
 rw[Nat.add_zero]at a0
 obtain⟨r,t,q,b,s,hpar,_⟩:=h.par
 have c0:=(hpar.cell 0).1
 simp only[parCells,List.getElem?_toArray,List.getElem?_cons_zero]at c0
 have htm:Drv.triesM f.c dn (↑an ::al) k=Drv.beginM f.c ⟨3,dn,0,f.c.states[sn].edges[an].to,f.c.states[sn].ends[an],[],↑an ::al⟩ k:=by
  unfold Drv.triesM
  rw[if_neg (by omega)]
  simp only[List.headD_cons]
  rw[hsn,st_at hslt,ed_at hae,at0_at hax]
 have HTM:=hid htm
 have HPAR:=hid hpar
 have HR:=hid hr
 have H:=hid h
 have HL:=hid hl
 have HC:=hid hc
 have HSTA:=hid hsta
 clear hcell hpar h hl hc hsta hr rE rX hd ha0 hb ha hdsn hsn htm hg
 generalize f.c.states[sn].edges[an].to=eto at*
 generalize f.c.states[sn].ends[an]=xto at*
 generalize f.c.states[sn].rule=srule at*
 obtain⟨en,hen⟩:∃en,f.c.states[sn].edges.length=en:=⟨_,rfl⟩
 obtain⟨xn,hxn⟩:∃xn,f.c.states[sn].ends.length=xn:=⟨_,rfl⟩
 obtain⟨stn,hstn⟩:∃stn,f.c.states.length=stn:=⟨_,rfl⟩
 obtain⟨den,hden⟩:∃den,f.c.decs.length=den:=⟨_,rfl⟩
 obtain⟨aln,haln⟩:∃aln,(↑an ::al:List Int).length=aln:=⟨_,rfl⟩
 rw[hen]at s1 hae
 rw[hxn]at s2 hax
 rw[hstn]at d0
 rw[hden]at d4 hdn
 rw[haln]at hn hn32
 rw[haln]
 have hal1:decide ((aln:Int)=1)=false:=decide_eq_false (by omega)
 have hal2:(0:Int)<(aln:Int):=by omega
 have hal3:0<aln:=by omega
 rw[hstn]at hslt
 have hde1:(dn:Int)<(den:Int):=by omega
 have hst1:(sn:Int)<(stn:Int):=by omega
 have he1:(an:Int)<(en:Int):=by omega
 have hx1:(an:Int)<(xn:Int):=by omega
 have HAL:=hid haln
 clear hen hxn hstn hden he
 clear haln
 have hS7:∀o:Obj,(w.alloc o).drew.cell? ⟨f.P,0,none⟩=some (.pointer (some ⟨f.pc.D,0,none⟩))∧(w.alloc o).drew.cell? ⟨f.pc.D,0,none⟩=some (.slice (some ⟨db,doff,none⟩) stn Dc)∧(w.alloc o).drew.cell? ⟨f.pc.D,4,none⟩=some (.slice (some ⟨cb,coff,none⟩) den cc)∧(w.alloc o).drew.cell? ⟨cb,coff+dn,none⟩=some (.int .i64 sn)∧(w.alloc o).drew.cell? ⟨db,doff+sn*3,none⟩=some (.int .i64 srule)∧(w.alloc o).drew.cell? ⟨db,doff+sn*3+1,none⟩=some (.slice (some ⟨eb,eoff,none⟩) en ec)∧(w.alloc o).drew.cell? ⟨db,doff+sn*3+2,none⟩=some (.slice (some ⟨xb,xoff,none⟩) xn xc):=fun o=>by
  have hn:∀(b i:Nat),b<w.heap.size→(w.alloc o).drew.cell? ⟨b,i,none⟩=w.cell? ⟨b,i,none⟩:=fun b i hb=>(below_new w o).drew.cell (p:=⟨b,i,none⟩) hb
  have:=heap_lt HPAR.out
  exact⟨(hn _ _ this).trans c0,(hn _ _ (by omega)).trans d0,(hn _ _ (by omega)).trans d4,(hn _ _ (by omega)).trans c4,(hn _ _ (by omega)).trans s0,(hn _ _ (by omega)).trans s1,(hn _ _ (by omega)).trans s2⟩
 go_enter Try.func89,Try.ntmps89
 go_wp2_with fail
 go_region_held3 (fun w'=>w'.cell? ⟨f.P,0,none⟩=some (.pointer (some ⟨f.pc.D,0,none⟩))∧w'.cell? ⟨f.pc.D,0,none⟩=some (.slice (some ⟨db,doff,none⟩) stn Dc)∧w'.cell? ⟨f.pc.D,4,none⟩=some (.slice (some ⟨cb,coff,none⟩) den cc)∧w'.cell? ⟨cb,coff+dn,none⟩=some (.int .i64 sn)∧w'.cell? ⟨db,doff+sn*3,none⟩=some (.int .i64 srule)∧w'.cell? ⟨db,doff+sn*3+1,none⟩=some (.slice (some ⟨eb,eoff,none⟩) en ec)∧w'.cell? ⟨db,doff+sn*3+2,none⟩=some (.slice (some ⟨xb,xoff,none⟩) xn xc)) (first | assumption | exact⟨c0,d0,d4,c4,s0,s1,s2⟩ | exact hS7 _) (fail)
 have hb2:Below w.heap.size w (w.alloc (.cells #[.int .i64 srule,.slice (some ⟨eb,eoff,none⟩) en ec,.slice (some ⟨xb,xoff,none⟩) xn xc] 47)).drew:=(below_new w _).drew
 have n1:(w.alloc (.cells #[.int .i64 srule,.slice (some ⟨eb,eoff,none⟩) en ec,.slice (some ⟨xb,xoff,none⟩) xn xc] 47)).drew.cell? ⟨w.heap.size,1,none⟩=some (.slice (some ⟨eb,eoff,none⟩) en ec):=cell_new w _ _ 1
 have n2:(w.alloc (.cells #[.int .i64 srule,.slice (some ⟨eb,eoff,none⟩) en ec,.slice (some ⟨xb,xoff,none⟩) xn xc] 47)).drew.cell? ⟨w.heap.size,2,none⟩=some (.slice (some ⟨xb,xoff,none⟩) xn xc):=cell_new w _ _ 2
 have hsz:(w.alloc (.cells #[.int .i64 srule,.slice (some ⟨eb,eoff,none⟩) en ec,.slice (some ⟨xb,xoff,none⟩) xn xc] 47)).drew.heap.size=w.heap.size+1:=size_alloc w _
 generalize (w.alloc (.cells #[.int .i64 srule,.slice (some ⟨eb,eoff,none⟩) en ec,.slice (some ⟨xb,xoff,none⟩) xn xc] 47)).drew=w1 at hb2 n1 n2 hsz⊢
 go_wp2_with fail
 refine still_tail 19 (by kernel_rfl) (by kernel_rfl) ?_
 intro w2 HW2
 have ho2:Only (fun _=>False) w1 w2:=by rw[HW2.out];exact⟨rfl,rfl,rfl,Nat.le_refl _,fun _ _ _=>rfl⟩
 have ho0:Only (fun _=>False) w w2:=(Only.of_below hb2).trans ho2 fun _ _ e=>e
 clear HW2
 have n1:=(ho2.cell (o:=1) (by omega) (fun e=>e)).trans n1
 have n2:=(ho2.cell (o:=2) (by omega) (fun e=>e)).trans n2
 have a0:=(ho0.cell (o:=off0) hb0 (fun e=>e)).trans a0
 have e2:=(ho0.cell (o:=eoff+an*3+2) (by omega) (fun e=>e)).trans e2
 have x0:=(ho0.cell (o:=xoff+an) (by omega) (fun e=>e)).trans x0
 have HP2:=hid (H.out.still ho0)
 have HR2:=hid (HR.out.only (ho0.more fun _ _ e=>e.elim) fun _ _ e=>e)
 have HB2:=hid (ho0.below' (B:=f.B0) (fun _ e=>e.elim) (by omega))
 clear hb2 ho2 ho0 hS7 c0 d0 d4 c4 s0 s1 s2
 simp only[List.take_succ_cons,List.take_zero,List.drop_succ_cons,List.drop_zero]
 repeat still_step
 refine wpStill_nil ?_
 go_wp2_with fail
 have hsz:=HC.out.size
 have hld:=HL.out.depth
 have hB:=beginP_any w2 f v k ⟨3,dn,0,eto,xto,[],↑an ::al⟩ (some ⟨b0,off0,none⟩) ca 0 HP2.out rfl HR2.out hca HL.out.pdepth (by omega) hsp0 hsp1
 rw[HAL.out]at hB
 refine hB.mono ?_
 rintro e w3 ⟨rfl,hb3,v3,hP3⟩
 have HB3:=hid (HB2.out.trans hb3)
 have HP3:=hid hP3
 clear hB HP2 HR2 HB2 hb3 hP3 n1 n2 a0 e2 x0
 go_wp2
 go_end0
 refine⟨rfl,HB3.out,v3,?_⟩
 rw[HTM.out]
 exact HP3.out
theorem triesP_any (w:World) (f:Fx) (v:Vx) (k:Drv.Cf) (d:Int) (alts:List Int) (A:Option Addr) (ca:Nat) (hl:Lim f) (h:PstAt w f v k) (hc:Drv.COk f.c k) (hsta:Sta w f) (hd:Drv.InR f.c.decs.length d)
 (he:(f.c.st (Drv.at0 f.c.decs d)).ends.length≠0) (hg:Drv.Rng f.c) (hn:alts≠[]) (hn32:alts.length≤32) (ha:∀a∈alts,Drv.alt1 f.c d a) (hsp0:0≤k.spec) (hsp1:k.spec≤4000000000)
 (hr:RO w (TS f v) 1 A alts.length (alts.map (Value.int .i64))) (hca:alts.length≤ca):
 Calls Try.prog 89 #[.pointer (some ⟨f.P,0,none⟩),.int .i64 d,.slice A alts.length ca] w (TriesP f k d alts w):=by
 by_cases h2:2≤alts.length
 ·exact tries_more w f v k d alts A ca hl h hc hsta hd he hg h2 hn32 ha hsp0 hsp1 hr hca
 ·cases alts with
  | nil=>exact absurd rfl hn
  | cons a al=>
   cases al with
   | nil=>
    have h0:=ha a (by simp)
    have h1:=(hg.both _ he).2
    have h3:=h0.1
    have h4:=h0.2
    have hfew:=hc.few
    have hu:=hc.used1
    have hlf:=hl.fuel
    exact tries_one w f v k d a A ca hl h (by omega) hd h3 (by omega) hc.pos0 hc.pos1 hr.reads
   | cons b r=>simp at h2
end Go.Proofs.Ytgflanlniejflaa
namespace Go.Proofs.Ytgflanlniejflaa
open Go.RowKit Go.Maps
set_option maxRecDepth 100000
theorem row_RO {w:World}{base n c size:Nat}{e:TypeId}{A:Option Addr}{xs:List Value}{S:Nat→Prop}(h:w.ownsRow base e size (.slice A n c) n xs) (hS:∀j,(Value.slice A n c).ownBlock=some j→¬S j):RO w S size A n xs:=by
 have hr:=Reads.of_own h
 refine⟨hr.1,fun hn=>?_⟩
 obtain⟨b,off,rfl,hb,hc⟩:=hr.2 hn
 rcases h.2 with⟨_,h0⟩ | ⟨g,cap,cur,hv,_⟩
 ·omega
 ·injection hv with hv
  injection hv with hv
  injection hv with hv1 hv2 _
  subst hv1 hv2
  exact⟨b,0,rfl,hb,hS b rfl,hc⟩
section
variable {w w':World}{f:Fx}{k:Drv.Cf}
theorem PstAt.split {v:Vx}{x:Drv.Wk}{rest:List Drv.Wk}(h:PstAt w f v k) (ho:k.opn=x ::rest):∃vo g gs s ss,v=⟨vo,g ::gs,s ::ss⟩∧WalkAt w (TS f v) f.B0 g s x:=by
 obtain⟨y,g,s,e0,e1,e2,hW⟩:=h.at (i:=0) (by rw[ho];simp)
 rw[ho]at e0
 injection e0 with e0
 subst e0
 obtain⟨vo,gs,ss⟩:=v
 cases gs with
 | nil=>cases e1
 | cons g' gs=>
  cases ss with
  | nil=>cases e2
  | cons s' ss=>
   injection e1 with e1
   injection e2 with e2
   subst e1 e2
   exact⟨vo,g',gs,s',ss,rfl,hW⟩
theorem PstAt.treeSet {v:Vx}{t:Drv.Tr}{r t' q:Int}{b:Bool}{s:Value}(h:PstAt w f v k) (ho:Only (fun j=>j=f.P) w w')
 (hp:ParAt w' f.P f.pc ⟨k.used,k.deep,k.spec,v.vo,k.pos,(Drv.nonreal k.opn:Nat),r,t',q,b,s,k.e,k.ended⟩) (ht:TrB w (TS f v) f.B0 t [.int .i64 r,.int .i64 t',.int .i64 q,.bool b,s]):PstAt w' f v {k with tree:=t}:=by
 obtain⟨n1,n2,n3,n4⟩:=h.neP
 have ho':=ho.more (S':=TS f v) fun j _ e=>.inl e
 refine⟨⟨r,t',q,b,s,hp,TrB.only ho' (fun _ _ e=>e) _ _ ht⟩,h.memo.only ho n1,h.row.only ho n2,h.gl,h.sl,?_,h.gd,h.sd,h.ge,h.rd⟩
 intro i x g s' h1 h2 h3
 exact(h.walks i x g s' h1 h2 h3).only ho (fun j _ e=>.inl e) (fun _ _ e=>e) (n3 g (List.mem_of_getElem? h2)) (n4 s' (List.mem_of_getElem? h3))
theorem PstAt.topSet {vo s s':Value}{g:Nat}{gs:List Nat}{ss:List Value}{x x':Drv.Wk}{rest:List Drv.Wk}(h:PstAt w f ⟨vo,g ::gs,s ::ss⟩ k) (ho:k.opn=x ::rest) (hso:x'.sort=x.sort)
 (hw:Only (fun j=>j=g∨s.ownBlock=some j) w w') (hs':∀j,s'.ownBlock=some j→s.ownBlock=some j∨w.heap.size≤j) (hW:WalkAt w' (TS f ⟨vo,g ::gs,s' ::ss⟩) f.B0 g s' x'):
 PstAt w' f ⟨vo,g ::gs,s' ::ss⟩ {k with opn:=x' ::rest}:=by
 obtain⟨n1,n2,n3,n4⟩:=h.neP
 have hgd:=List.pairwise_cons.1 h.gd
 have hsd:=List.pairwise_cons.1 h.sd
 have hrd:=h.rd
 have hlt:=h.ltTS
 obtain⟨cg,hcg⟩:=h.gblk (g:=g) (by simp)
 obtain⟨sn,sx,hsr⟩:=h.srow (s:=s) (by simp)
 have hoT:=hw.more (S':=TS f ⟨vo,g ::gs,s ::ss⟩) fun j _ e=>by
  rcases e with rfl | e
  ·exact .inr (.inr (.inr (.inl (by simp))))
  ·exact .inr (.inr (.inr (.inr ⟨s,by simp,e⟩)))
 have hT:∀j,j<w.heap.size→TS f ⟨vo,g ::gs,s' ::ss⟩ j→TS f ⟨vo,g ::gs,s ::ss⟩ j:=fun j hj e=>by
  rcases e with e | e | e | e | ⟨s1,hs1,e⟩
  ·exact .inl e
  ·exact .inr (.inl e)
  ·exact .inr (.inr (.inl e))
  ·exact .inr (.inr (.inr (.inl e)))
  ·rcases List.mem_cons.1 hs1 with rfl | hs1
   ·rcases hs' j e with e | e
    ·exact .inr (.inr (.inr (.inr ⟨s,by simp,e⟩)))
    ·omega
   ·exact .inr (.inr (.inr (.inr ⟨s1,List.mem_cons_of_mem _ hs1,e⟩)))
 have hnr:Drv.nonreal (x' ::rest)=Drv.nonreal k.opn:=by rw[ho,Drv.nonreal_cons,Drv.nonreal_cons,hso]
 obtain⟨r,t,q,b,sv,hpar,htr⟩:=h.par
 have hP:¬(f.P=g∨s.ownBlock=some f.P):=fun e=>by
  rcases e with e | e
  ·exact n3 g (by simp) e.symm
  ·exact n4 s (by simp) _ e rfl
 have hM:∀j,MemoS f.pc.M f.br f.bp j→¬(j=g∨s.ownBlock=some j):=fun j hj e=>by
  have h1:=h.neM j hj
  rcases e with e | e
  ·exact h1.2.2.1 (by rw[e];simp)
  ·exact h1.2.2.2 s (by simp) e
 have hlen:k.opn.length=rest.length+1:=by rw[ho];rfl
 refine⟨⟨r,t,q,b,sv,by show ParAt w' f.P f.pc ⟨_,_,_,_,_,(Drv.nonreal (x' ::rest):Nat),_,_,_,_,_,_,_⟩;rw[hnr];exact hpar.next hw hP,TrB.only hoT hT _ _ htr⟩,h.memo.only hw hM,?_,?_,?_,?_,h.gd,?_,?_,?_⟩
 ·show OwnO w' f.B0 _ 1 vo (rest.length+1) _
  rw[←hlen]
  exact h.row.only hw fun j e e2=>by
   rcases e2 with rfl | e2
   ·exact(hrd _ e).2.2.1 (by simp)
   ·exact(hrd _ e).2.2.2 s (by simp) e2
 ·have:=h.gl;rw[hlen]at this;exact this
 ·have:=h.sl;rw[hlen]at this;exact this
 ·intro i y g1 s1 a0 a1 a2
  cases i with
  | zero=>
   injection a0 with a0
   injection a1 with a1
   injection a2 with a2
   subst a0 a1 a2
   exact hW
  | succ i=>
   have a0':k.opn[i+1]? =some y:=by rw[ho];exact a0
   have m1:g1∈gs:=List.mem_of_getElem? a1
   have m2:s1∈ss:=List.mem_of_getElem? a2
   obtain⟨n1',x1',hr1⟩:=h.srow (s:=s1) (List.mem_cons_of_mem _ m2)
   obtain⟨c1',hc1'⟩:=h.gblk (g:=g1) (List.mem_cons_of_mem _ m1)
   refine(h.walks (i+1) y g1 s1 a0' a1 a2).only hw (fun j _ e=>?_) hT (fun e=>?_) (fun j hj e=>?_)
   ·rcases e with rfl | e
    ·exact .inr (.inr (.inr (.inl (by simp))))
    ·exact .inr (.inr (.inr (.inr ⟨s,by simp,e⟩)))
   ·rcases e with e | e
    ·exact hgd.1 g1 m1 e.symm
    ·exact row_not hsr hc1' (by decide) e
   ·rcases e with rfl | e
    ·exact row_not hr1 hcg (by decide) hj
    ·exact hsd.1 s1 m2 j e hj
 ·refine List.pairwise_cons.2 ⟨fun s1 hs1 j hj e=>?_,hsd.2⟩
  rcases hs' j hj with h1 | h1
  ·exact hsd.1 s1 hs1 j h1 e
  ·have:=hlt j (.inr (.inr (.inr (.inr ⟨s1,List.mem_cons_of_mem _ hs1,e⟩))))
   omega
 ·intro j hj
  by_cases h1:j<w.heap.size
  ·exact h.ge j (hT j h1 hj)
  ·have:=hlt f.P (.inl rfl);have:=h.geP;omega
 ·intro j hj
  have h1:=hrd j hj
  refine⟨h1.1,h1.2.1,h1.2.2.1,fun s1 hs1 e=>?_⟩
  rcases List.mem_cons.1 hs1 with rfl | hs1
  ·rcases hs' j e with e | e
   ·exact h1.2.2.2 s (by simp) e
   ·have:=hlt j (.inr (.inr (.inl hj)));omega
  ·exact h1.2.2.2 s1 (List.mem_cons_of_mem _ hs1) e
theorem topP_any (w:World) (f:Fx) (vo s:Value) (g:Nat) (gs:List Nat) (ss:List Value) (k:Drv.Cf) (x:Drv.Wk) (rest:List Drv.Wk) (h:PstAt w f ⟨vo,g ::gs,s ::ss⟩ k) (ho:k.opn=x ::rest) (hn:k.opn.length<1000000):
 Calls Try.prog 57 #[.pointer (some ⟨f.P,0,none⟩)] w fun r w'=>r= .returned (.pointer (some ⟨g,0,none⟩))∧Only (fun _=>False) w w':=by
 obtain⟨r,t,q,b,sv,hpar,_⟩:=h.par
 have hrow:=h.row
 have hlen:k.opn.length=rest.length+1:=by rw[ho];rfl
 simp only[List.reverse_cons,List.map_append,List.map_cons,List.map_nil]at hrow
 rw[hlen]at hrow
 obtain⟨ob,oc,rfl,hoc,hob1,hob2,hxl,hcells⟩:=hrow.last
 have hc:=hcells rest.length (.pointer (some ⟨g,0,none⟩)) (by rw[List.getElem?_append_right (by omega),hxl];simp)
 exact top_any f.P f.pc _ ob rest.length oc g w hpar rfl (by omega) hc
end
theorem set5 {m:Nat}{xs:List Value}(hl:xs.length=m) (z0 z1 z2 z3 z4 a0 a1 a2 a3 a4:Value):
 ((((((xs++ [z0,z1,z2,z3,z4]).set m a0).set (m+1) a1).set (m+2) a2).set (m+3) a3).set (m+4) a4)=xs++ [a0,a1,a2,a3,a4]:=by
 subst hl
 simp
theorem row_last5 {w:World}{base m c g:Nat}{e:TypeId}{xs:List Value}{z0 z1 z2 z3 z4:Value}(h:w.ownsRow base e 5 (.slice (some ⟨g,0,none⟩) (m+1) c) (m+1) (xs++ [z0,z1,z2,z3,z4])) (hl:xs.length=m*5) (a0 a1 a2 a3 a4:Value):
 (((((w.setCell ⟨g,m*5,none⟩ a0).setCell ⟨g,m*5+1,none⟩ a1).setCell ⟨g,m*5+2,none⟩ a2).setCell ⟨g,m*5+3,none⟩ a3).setCell ⟨g,m*5+4,none⟩ a4).ownsRow base e 5 (.slice (some ⟨g,0,none⟩) (m+1) c) (m+1) (xs++ [a0,a1,a2,a3,a4])∧
 Only (fun j=>j=g) w (((((w.setCell ⟨g,m*5,none⟩ a0).setCell ⟨g,m*5+1,none⟩ a1).setCell ⟨g,m*5+2,none⟩ a2).setCell ⟨g,m*5+3,none⟩ a3).setCell ⟨g,m*5+4,none⟩ a4):=by
 have h1:=(h.stored (m*5) a0).1
 have h2:=(h1.stored (m*5+1) a1).1
 have h3:=(h2.stored (m*5+2) a2).1
 have h4:=(h3.stored (m*5+3) a3).1
 have h5:=(h4.stored (m*5+4) a4).1
 rw[set5 hl]at h5
 exact⟨h5,((((Only.of_set w g _ a0).trans (Only.of_set _ g _ a1) fun _ _ e=>e).trans (Only.of_set _ g _ a2) fun _ _ e=>e).trans (Only.of_set _ g _ a3) fun _ _ e=>e).trans (Only.of_set _ g _ a4) fun _ _ e=>e⟩
theorem infoTree:(Try.prog.info? 65).map (fun i=>(i.zero,i.size,i.bytes))=some (some (.agg #[.int .i64 0,.int .i64 0,.int .i64 0,.bool false,.slice none 0 0]),5,56):=by kernel_rfl
section
variable {w w':World}{f:Fx}{k:Drv.Cf}
theorem PstAt.pushTree {vo:Value}{g gn m xc cn:Nat}{XA:Option Addr}{gs:List Nat}{ss:List Value}{x:Drv.Wk}{rest:List Drv.Wk}{t:Drv.Tr}{a uxs:List Value}{A:Option Addr}{ca:Nat}(st:Int)
 (h:PstAt w f ⟨vo,g ::gs,.slice XA m xc ::ss⟩ k) (ho:k.opn=x ::rest)
 (h2:RO w (TS f ⟨vo,g ::gs,.slice XA m xc ::ss⟩) 1 A x.alts.length (x.alts.map (Value.int .i64))) (h4:TrsB w (TS f ⟨vo,g ::gs,.slice XA m xc ::ss⟩) f.B0 x.subs uxs) (hT:TrB w (TS f ⟨vo,g ::gs,.slice XA m xc ::ss⟩) f.B0 t a) (hm:x.subs.length=m) (hca:x.alts.length≤ca)
 (hgn:(Value.slice XA m xc).ownBlock=some gn∨w.heap.size≤gn) (hO:Only (fun j=>j=g∨(Value.slice XA m xc).ownBlock=some j) w w')
 (hg:w'.heap[g]? =some (.cells (walkCells (x.sort:Nat) x.what x.start st x.over (.slice (some ⟨gn,0,none⟩) (m+1) cn) (.slice A x.alts.length ca)) 116 (0,0)))
 (hrow:w'.ownsRow f.B0 65 5 (.slice (some ⟨gn,0,none⟩) (m+1) cn) (m+1) (uxs++a)):
 PstAt w' f ⟨vo,g ::gs,.slice (some ⟨gn,0,none⟩) (m+1) cn ::ss⟩ {k with opn:={x with subs:=x.subs++ [t],state:=st} ::rest}:=by
 have hs':∀j,(Value.slice (some ⟨gn,0,none⟩) (m+1) cn).ownBlock=some j→(Value.slice XA m xc).ownBlock=some j∨w.heap.size≤j:=fun j e=>by
  have e:some gn=some j:=e
  injection e with e
  rw[←e]
  exact hgn
 have hoT:=hO.more (S':=TS f ⟨vo,g ::gs,.slice XA m xc ::ss⟩) fun j _ e=>by
  rcases e with rfl | e
  ·exact .inr (.inr (.inr (.inl (by simp))))
  ·exact .inr (.inr (.inr (.inr ⟨_,by simp,e⟩)))
 have hS:∀j,j<w.heap.size→TS f ⟨vo,g ::gs,.slice (some ⟨gn,0,none⟩) (m+1) cn ::ss⟩ j→TS f ⟨vo,g ::gs,.slice XA m xc ::ss⟩ j:=fun j hj e=>by
  rcases e with e | e | e | e | ⟨s1,hs1,e⟩
  ·exact .inl e
  ·exact .inr (.inl e)
  ·exact .inr (.inr (.inl e))
  ·exact .inr (.inr (.inr (.inl e)))
  ·rcases List.mem_cons.1 hs1 with rfl | hs1
   ·rcases hs' j e with e | e
    ·exact .inr (.inr (.inr (.inr ⟨_,by simp,e⟩)))
    ·omega
   ·exact .inr (.inr (.inr (.inr ⟨s1,List.mem_cons_of_mem _ hs1,e⟩)))
 refine h.topSet (x':={x with subs:=x.subs++ [t],state:=st}) ho rfl hO hs' ⟨A,ca,uxs++a,hg,h2.only hoT hS,?_,TrsB.snoc (TrB.only hoT hS _ _ hT) (TrsB.only hoT hS _ _ h4),hca⟩
 have:(x.subs++ [t]).length=m+1:=by simp[hm]
 show w'.ownsRow f.B0 _ 5 _ (x.subs++ [t]).length _
 rw[this]
 exact hrow
end
end Go.Proofs.Ytgflanlniejflaa
