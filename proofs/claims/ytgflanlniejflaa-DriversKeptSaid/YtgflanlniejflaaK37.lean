/-
  Drivers: Wid1, Wid (texts joined).
-/
import Derived.BigQuiet
import Derived.Laws.EntriesVeiled
import Derived.Test.YtgflanlniejflaaK05
import Derived.Test.YtgflanlniejflaaK35
import Derived.Test.YtgflanlniejflaaK36
namespace Go.Proofs.Ytgflanlniejflaa
open Go.RowKit
set_option maxRecDepth 100000
structure WdI (w0:World) (B ob b4 b5:Nat) (clo:Value) (R:Nat) (W:Int→Int) (own:List Int) (u:World):Prop where
 below:Below B w0 u
 ge:B≤ob
 cells:u.heap[ob]? =some (.cells (own.map (Value.int .i64)).toArray 3 (0,0))
 c4:u.heap[b4]? =some (.cells #[.slice (some ⟨ob,0,none⟩) R R] 23 (0,0))
 c5:u.heap[b5]? =some (.cells #[clo] 119 (0,0))
 len:own.length=R
 ok:∀(q:Nat) (x:Int),own[q]? =some x→x=0∨x=W q
section
variable {w0 u u':World}{B ob b4 b5 R:Nat}{clo:Value}{W:Int→Int}{own:List Int}
theorem WdI.ne4 (h:WdI w0 B ob b4 b5 clo R W own u):b4≠ob:=fun e=>by
 have h1:=h.cells
 rw[←e,h.c4]at h1
 injection h1 with h1
 injection h1 with _ h1
 cases h1
theorem WdI.ne5 (h:WdI w0 B ob b4 b5 clo R W own u):b5≠ob:=fun e=>by
 have h1:=h.cells
 rw[←e,h.c5]at h1
 injection h1 with h1
 injection h1 with _ h1
 cases h1
theorem WdI.still (h:WdI w0 B ob b4 b5 clo R W own u) (ho:Only (fun _=>False) u u'):WdI w0 B ob b4 b5 clo R W own u':=
 ⟨ho.below (fun _ e=>e.elim) h.below (Nat.le_trans h.ge (Nat.le_of_lt (heap_lt h.cells))),h.ge,(ho.block _ (heap_lt h.cells) id).trans h.cells,(ho.block _ (heap_lt h.c4) id).trans h.c4,(ho.block _ (heap_lt h.c5) id).trans h.c5,h.len,h.ok⟩
theorem WdI.set (h:WdI w0 B ob b4 b5 clo R W own u) (r:Nat):WdI w0 B ob b4 b5 clo R W (own.set r (W r)) (u.setCell ⟨ob,r,none⟩ (.int .i64 (W r))):=by
 have ho:=Only.of_set u ob r (.int .i64 (W r))
 refine⟨ho.below (fun j e=>by rw[e];exact h.ge) h.below (Nat.le_trans h.ge (Nat.le_of_lt (heap_lt h.cells))),h.ge,?_,(ho.block _ (heap_lt h.c4) h.ne4).trans h.c4,(ho.block _ (heap_lt h.c5) h.ne5).trans h.c5,by rw[List.length_set];exact h.len,fun q x hq=>?_⟩
 ·rw[heap_setCell_same u ob r _ _ _ h.cells,List.setIfInBounds_toArray,List.map_set]
 ·by_cases e:r=q
  ·subst e
   have hr:r<own.length:=by
    have:=(List.getElem?_eq_some_iff.1 hq).1
    rw[List.length_set]at this
    exact this
   rw[List.getElem?_set_self hr]at hq
   injection hq with hq
   exact .inr hq.symm
  ·rw[List.getElem?_set_ne e]at hq
   exact h.ok q x hq
end
def clo54 (b4 b1 b3 b5:Nat):Value:=.func (.func 54) #[] #[.pointer (some ⟨b4,0,none⟩),.pointer (some ⟨b1,0,none⟩),.pointer (some ⟨b3,0,none⟩),.pointer (some ⟨b5,0,none⟩)]
structure WdS (w0:World) (B b1 b3:Nat) (SA TA UA QA DA KA:Option Addr) (sc tc uc qc dc kc:Nat) (n:Drv.NNet) (kn:List (List Bool×Bool)):Prop where
 net:NetR w0 B SA TA UA QA DA n
 known:KnR w0 B KA n.starts.length kn
 full:∀r:Nat,r<n.starts.length→(kn.getD r ([],false)).1.length=n.starts.length
 l1:b1<B
 l3:b3<B
 c1:w0.heap[b1]? =some (.cells #[.slice SA n.states.length sc,.slice TA n.starts.length tc,.slice UA n.stops.length uc,.slice QA n.preds.length qc,.slice DA n.decs.length dc] 25 (0,0))
 c3:w0.heap[b3]? =some (.cells #[.slice KA n.starts.length kc] 134 (0,0))
theorem WdS.bit {w0:World}{B b1 b3 sc tc uc qc dc kc:Nat}{SA TA UA QA DA KA:Option Addr}{n:Drv.NNet}{kn:List (List Bool×Bool)}(h:WdS w0 B b1 b3 SA TA UA QA DA KA sc tc uc qc dc kc n kn){r q:Nat}(hr:r<n.starts.length) (hq:q<n.starts.length):
 ∃kb ko ab ao ci,KA=some ⟨kb,ko,none⟩∧kb<B∧w0.cell? ⟨kb,ko+r*2,none⟩=some (.slice (some ⟨ab,ao,none⟩) n.starts.length ci)∧ab<B∧w0.cell? ⟨ab,ao+q,none⟩=some (.bool ((Drv.toK kn).rul r q)):=by
 obtain⟨hkl,vsK,hkr,hkv⟩:=h.known
 have hrk:r<kn.length:=by omega
 obtain⟨_,Ai,ci,v0,_,rK⟩:=hkv r hrk
 obtain⟨kb,ko,hKA,hkb,hkc⟩:=hkr.2 (by omega)
 have y4:=hkc _ _ v0
 have hfull:=h.full r hr
 have hgd:kn.getD r ([],false)=kn[r]:=by rw[List.getD_eq_getElem?_getD,List.getElem?_eq_getElem hrk];rfl
 rw[hgd]at hfull
 rw[hfull]at y4 rK
 obtain⟨ab,ao,hAi,hab,hac⟩:=rK.2 (by omega)
 have hqk:q<kn[r].1.length:=by omega
 have hbe:kn[r].1[q]? =some kn[r].1[q]:=List.getElem?_eq_getElem hqk
 have y5:=hac q _ (by rw[List.getElem?_map,hbe];rfl)
 subst hAi
 refine⟨kb,ko,ab,ao,ci,hKA,hkb,y4,hab,?_⟩
 rw[Drv.toK_rul,hgd,List.getD_eq_getElem?_getD,hbe]
 exact y5
def Wd1P (w0:World) (B ob b4 b5:Nat) (clo:Value) (R:Nat) (W:Int→Int) (r:Int) (u:World) (e:Ending) (u':World):Prop:=
 e= .returned (.int .i64 (W r))∧∃own,WdI w0 B ob b4 b5 clo R W own u'∧Only (fun k=>k=ob) u u'
set_option maxHeartbeats 12800000 in
theorem wide1_any (w0:World) (B b1 b3 ob b4 b5:Nat) (SA TA UA QA DA KA:Option Addr) (sc tc uc qc dc kc:Nat) (n:Drv.NNet) (kn:List (List Bool×Bool)) (hS:WdS w0 B b1 b3 SA TA UA QA DA KA sc tc uc qc dc kc n kn) (hs:NetS n) (hm:Drv.mayNet n=true) (hk:Drv.Known n (Drv.toK kn)) (hi:∀r,(Drv.toK kn).rul r r=false):
 ∀(m r:Nat),Drv.hgt n.starts.length (Drv.toK kn).rul r<m→r<n.starts.length→∀(u:World) (own:List Int),WdI w0 B ob b4 b5 (clo54 b4 b1 b3 b5) n.starts.length (Drv.wOf n (Drv.toK kn).rul) own u→
  Calls Try.prog 54 #[.int .i64 r,.pointer (some ⟨b4,0,none⟩),.pointer (some ⟨b1,0,none⟩),.pointer (some ⟨b3,0,none⟩),.pointer (some ⟨b5,0,none⟩)] u (Wd1P w0 B ob b4 b5 (clo54 b4 b1 b3 b5) n.starts.length (Drv.wOf n (Drv.toK kn).rul) r u):=by
 intro m
 induction m with
 | zero=>intro r h;exact absurd h (Nat.not_lt_zero _)
 | succ m ih=>
  intro r hr hrR u own hI
  have IH:=hid ih
  clear ih
  obtain⟨R,hR⟩:∃R,n.starts.length=R:=⟨_,rfl⟩
  obtain⟨nS,hnS⟩:∃R,n.states.length=R:=⟨_,rfl⟩
  have HS:=hid hS
  have HNS:=hid hs
  have HM:=hid hm
  have HK:=hid hk
  have HI:=hid hi
  have HH:=hid hr
  have hrl:=hrR
  rw[hR]at hrl hI⊢
  have hrI:(r:Int)<(R:Int):=by omega
  have HR:=hid hR
  have HN:=hid hnS
  have HWI:=hid hI
  have lS:=hs.states
  rw[hnS]at lS
  have k4:u.cell? ⟨b4,0,none⟩=some (.slice (some ⟨ob,0,none⟩) R R):=by rw[Lib.cell_of_heap hI.c4];rfl
  obtain⟨x,hx⟩:∃x,own[r]? =some x:=⟨_,List.getElem?_eq_getElem (by rw[hI.len];exact hrl)⟩
  have k0:u.cell? ⟨ob,r,none⟩=some (.int .i64 x):=by rw[Lib.cell_of_heap hI.cells,List.getElem?_toArray,List.getElem?_map,hx];rfl
  have hxo:=hI.ok r x hx
  have hwn:=Drv.wOf_nn n (Drv.toK kn).rul r
  have HX:=hid hxo
  have HWN:=hid hwn
  clear hS hs hm hk hi hr hR hnS hI hx hxo hwn hrR
  by_cases hx0:0<x
  ·have hd:decide (0<x)=true:=decide_eq_true hx0
   have hxe:Hid (x=Drv.wOf n (Drv.toK kn).rul r):=hid (by rcases HX.out with h | h;omega;exact h)
   clear hx0
   go_enter Try.func54,Try.ntmps54
   go_wp2_with fail
   go_ret
   exact⟨by rw[hxe.out];rfl,own,HWI.out,Only.refl _ _⟩
  ·have hd:decide (0<x)=false:=decide_eq_false hx0
   clear hx0 HX
   have c1:u.cell? ⟨b1,0,none⟩=some (.slice SA nS sc):=by
    have h1:=(HWI.out.below.block b1 HS.out.l1).trans HS.out.c1
    rw[Lib.cell_of_heap h1,HN.out];rfl
   go_enter Try.func54,Try.ntmps54
   go_wp2_with fail
   go_loopw[7,24] (fun s i wx=>∃(j:Nat) (sm:Int),j≤nS∧s= .int .i64 sm∧i= .int .i64 j∧Hid (sm=Drv.ownS r ((Drv.toK kn).rul r) (Drv.wOf n (Drv.toK kn).rul) (n.states.take j) 0∧(∃own,WdI w0 B ob b4 b5 (clo54 b4 b1 b3 b5) R (Drv.wOf n (Drv.toK kn).rul) own wx)∧Only (fun k=>k=ob) u wx)) (fun _ i _=>nS-(intOf i).toNat)
   case atStart=>exact⟨0,0,Nat.zero_le _,rfl,rfl,hid ⟨rfl,⟨own,HWI.out⟩,Only.refl _ _⟩⟩
   case round=>
    clear HWI k4 k0 c1 hd
    obtain⟨j,sm,hj,rfl,rfl,hJ⟩:=hrel
    obtain⟨hsm,⟨ow,hI⟩,hO⟩:=hJ.out
    have hsb:=Drv.ownS_bd (r:=(r:Int)) (rules:=(Drv.toK kn).rul r) (Drv.wOf_nn n (Drv.toK kn).rul) (n.states.take j) 0 1099511627776 (by omega) (by omega) (by omega)
    rw[←hsm]at hsb
    have hjl:(n.states.take j).length≤1000000:=by rw[List.length_take];omega
    have hsb0:=hsb.1
    have hsb1:sm≤1099512627776:=by omega
    clear hsb hjl hJ
    have HSM:=hid hsm
    have HO:=hid hO
    have HWJ:=hid hI
    clear hsm hO
    by_cases hlt:j<nS
    ·have hjn:j<n.states.length:=by rw[HN.out];exact hlt
     obtain⟨xb,xo,EA,ec,XA,xc,hSA,hxb,e0,e1,e2,r0,r1⟩:=HS.out.net.sts.at hjn
     have hst:=Drv.ownS_take (r:=(r:Int)) (rules:=(Drv.toK kn).rul r) (was:=Drv.wOf n (Drv.toK kn).rul) n.states hjn 0
     have hmem:=List.getElem_mem hjn
     have hsz:=HNS.out.st _ hmem
     have hme:∀e∈n.states[j].edges,_:=fun e he=>Drv.may_edge HM.out hmem he
     generalize n.states[j]=sx at e0 e1 e2 r0 r1 hst hmem hsz hme
     have hbw:=HWJ.out.below
     have c0:=(hbw.cell (p:=⟨xb,xo+j*3,none⟩) hxb).trans e0
     have c1:=(hbw.cell (p:=⟨xb,xo+j*3+1,none⟩) hxb).trans e1
     have c2:=(hbw.cell (p:=⟨xb,xo+j*3+2,none⟩) hxb).trans e2
     have HST:=hid hst
     obtain⟨nE,hnE⟩:∃m,sx.edges.length=m:=⟨_,rfl⟩
     obtain⟨nX,hnX⟩:∃m,sx.ends.length=m:=⟨_,rfl⟩
     rw[hnE]at c1 r0
     rw[hnX]at c2
     have HNE:=hid hnE
     have hsz1:=hsz.1
     rw[hnE]at hsz1
     have HME:=hid hme
     have R0:=hid r0
     subst hSA
     clear hst hmem hsz hme hnE hnX r0 r1 e0 e1 e2 hbw hjn
     obtain⟨xr,hxr⟩:∃xr,sx.rule=xr:=⟨_,rfl⟩
     rw[hxr]at c0
     have HXR:=hid hxr
     clear hxr
     go_upto_region 7 with fail
     have T9:=heap_alloc_new wr (.cells #[.int .i64 xr,.slice EA nE ec,.slice XA nX xc] 47)
     have hb9:=below_new wr (.cells #[.int .i64 xr,.slice EA nE ec,.slice XA nX xc] 47)
     generalize wr.alloc (.cells #[.int .i64 xr,.slice EA nE ec,.slice XA nX xc] 47)=wa at T9 hb9⊢
     generalize wr.heap.size=g9 at T9⊢
     have x0:wa.cell? ⟨g9,0,none⟩=some (.int .i64 xr):=by rw[Lib.cell_of_heap T9];rfl
     have x1:wa.cell? ⟨g9,1,none⟩=some (.slice EA nE ec):=by rw[Lib.cell_of_heap T9];rfl
     have HWA:=hid (HWJ.out.still (Only.of_below hb9))
     have HOA:=hid (HO.out.trans (Only.of_below (S:=fun _=>False) hb9) (fun _ _ e=>e.elim))
     clear T9 hb9 c0 c1 c2 HWJ HO
     by_cases hxr:xr=(r:Int)
     ·subst hxr
      have hw1:IntKind.i64.wrap (sm+1)=sm+1:=w64 (by omega) (by omega)
      go_wp2_with fail
      go_loopw[7,37] (fun s i wx=>∃(k:Nat) (s2:Int),k≤nE∧s= .int .i64 s2∧i= .int .i64 k∧Hid (s2=Drv.ownE ((Drv.toK kn).rul r) (Drv.wOf n (Drv.toK kn).rul) (sx.edges.take k) (sm+1)∧(∃own,WdI w0 B ob b4 b5 (clo54 b4 b1 b3 b5) R (Drv.wOf n (Drv.toK kn).rul) own wx)∧Only (fun k=>k=ob) u wx)) (fun _ i _=>nE-(intOf i).toNat)
      case atStart=>exact⟨0,sm+1,Nat.zero_le _,rfl,rfl,hid ⟨rfl,⟨ow,HWA.out⟩,HOA.out⟩⟩
      case round=>
       rename World=>wb
       clear HWA HOA x0 x1 hw1
       obtain⟨k,s2,hk,rfl,rfl,hJ⟩:=hrel
       obtain⟨hs2,⟨ow2,hI2⟩,hO2⟩:=hJ.out
       have hsb2:=Drv.ownE_bd (rules:=(Drv.toK kn).rul r) (Drv.wOf_nn n (Drv.toK kn).rul) (c:=1099512627777) (by omega) (sx.edges.take k) (sm+1) (by omega) (by omega)
       rw[←hs2]at hsb2
       have hsb3:=hsb2.1
       have hsb4:=hsb2.2
       have HS2:=hid hs2
       have HI2:=hid hI2
       have HO2:=hid hO2
       clear hsb2 hs2 hI2 hO2 hJ
       by_cases hlk:k<nE
       ·have hje:k<sx.edges.length:=by rw[HNE.out];exact hlk
        obtain⟨eb,eo,hEA,heb,f0,f1,f2⟩:=Reads.getE ((R0out_len HNE.out R0.out).below HI2.out.below) hje
        have het:=Drv.ownE_take (rules:=(Drv.toK kn).rul r) (was:=Drv.wOf n (Drv.toK kn).rul) sx.edges hje (sm+1)
        have hwf:=HME.out _ (List.getElem_mem hje)
        generalize sx.edges[k]=ex at f0 f1 f2 het hwf
        obtain⟨ek,ew,et⟩:=ex
        simp only at f0 f1 f2 hwf het
        obtain⟨_,w2a,w2b,w3a,w4a⟩:=hwf
        subst hEA
        have HET:=hid het
        clear het hje
        go_upto_region 12 with fail
        have T9:=heap_alloc_new wb (.cells #[.int .u8 ek,.int .i64 ew,.int .i64 et] 60)
        have hb9:=below_new wb (.cells #[.int .u8 ek,.int .i64 ew,.int .i64 et] 60)
        generalize wb.alloc (.cells #[.int .u8 ek,.int .i64 ew,.int .i64 et] 60)=wc at T9 hb9⊢
        generalize wb.heap.size=g8 at T9⊢
        have x0:wc.cell? ⟨g8,0,none⟩=some (.int .u8 ek):=by rw[Lib.cell_of_heap T9];rfl
        have x1:wc.cell? ⟨g8,1,none⟩=some (.int .i64 ew):=by rw[Lib.cell_of_heap T9];rfl
        have HWC:=hid (HI2.out.still (Only.of_below hb9))
        have HOC:=hid (HO2.out.trans (Only.of_below (S:=fun _=>False) hb9) (fun _ _ e=>e.elim))
        clear T9 hb9 f0 f1 f2 HI2 HO2
        by_cases hk2:ek=2
        ·subst hk2
         have hwl:=w4a rfl
         obtain⟨en,rfl⟩:∃en:Nat,ew=en:=⟨ew.toNat,by omega⟩
         have hen:en<R:=by rw[HR.out]at hwl;omega
         have henI:(en:Int)<(R:Int):=by omega
         have h3:=(HWC.out.below.block b3 HS.out.l3).trans HS.out.c3
         rw[HR.out]at h3
         have y3:wc.cell? ⟨b3,0,none⟩=some (.slice KA R kc):=by rw[Lib.cell_of_heap h3];rfl
         obtain⟨kb,ko,ab,ao,ci,hKA,hkb,y4,hab,y5⟩:=HS.out.bit (r:=r) (q:=en) (by rw[HR.out];exact hrl) (by rw[HR.out];exact hen)
         rw[HR.out]at y4
         have y4:=(HWC.out.below.cell (p:=⟨kb,ko+r*2,none⟩) hkb).trans y4
         have y5:=(HWC.out.below.cell (p:=⟨ab,ao+en,none⟩) hab).trans y5
         subst hKA
         generalize hrul:(Drv.toK kn).rul r en=be at y5
         have HRUL:=hid hrul
         clear hrul h3
         cases be with
         | true=>
          have hh1:=Drv.hgt_lt (R:=n.starts.length) HK.out.trans HI.out (r:=(r:Int)) (q:=en) (by rw[HR.out];exact hen) HRUL.out
          have hh2:=HH.out
          go_quiet (fail)
          have x1d:(wc.drewN nq).cell? ⟨g8,1,none⟩=some (.int .i64 (en:Int)):=x1
          have HWD:=hid (HWC.out.still (Only.of_below (below_drewN (Below.refl _ _) nq)))
          have HOD:=hid (HOC.out.trans (Only.of_below (S:=fun _=>False) (below_drewN (Below.refl _ _) nq)) (fun _ _ e=>e.elim))
          clear x0 x1 y3 y4 y5 HWC HOC
          generalize wc.drewN nq=wd at x1d HWD HOD⊢
          have c5:wd.cell? ⟨b5,0,none⟩=some (.func (.func 54) #[] #[.pointer (some ⟨b4,0,none⟩),.pointer (some ⟨b1,0,none⟩),.pointer (some ⟨b3,0,none⟩),.pointer (some ⟨b5,0,none⟩)]):=by
           rw[Lib.cell_of_heap HWD.out.c5];rfl
          have hih:=IH.out en (by omega) (by rw[HR.out];exact hen) wd ow2 (by rw[HR.out];exact HWD.out)
          rw[HR.out]at hih
          have HIH:=hid hih
          clear hih hh1 hh2
          go_wp2_with fail
          refine HIH.out.mono ?_
          rintro e w6 ⟨rfl,ow6,hI6,hO6⟩
          have HI6:=hid hI6
          have HO6:=hid (HOD.out.trans hO6 (fun _ _ e=>e))
          have hwb0:=Drv.wOf_nn n (Drv.toK kn).rul en
          have hwb1:=Drv.wOf_le n (Drv.toK kn).rul en
          rw[HN.out]at hwb1
          have HF:Hid (Drv.mostP (s2+Drv.wOf n (Drv.toK kn).rul en)=Drv.ownE ((Drv.toK kn).rul r) (Drv.wOf n (Drv.toK kn).rul) (sx.edges.take (k+1)) (sm+1)):=hid (by
           rw[HET.out,if_pos ⟨by trivial,HRUL.out⟩,←HS2.out];rfl)
          clear hI6 hO6 HIH HWD HOD c5 x1d
          generalize Drv.wOf n (Drv.toK kn).rul en=we at hwb0 hwb1 HF⊢
          have hw2:IntKind.i64.wrap (s2+we)=s2+we:=w64 (by omega) (by omega)
          go_wp2_with fail
          refine(most_any _ _).mono ?_
          rintro e w7 ⟨rfl,rfl⟩
          dsimp only
          go_wp2_with fail
          go_roundw
          case rel=>exact⟨k+1,_,by omega,rfl,by go_num,hid ⟨HF.out,⟨ow6,HI6.out⟩,HO6.out⟩⟩
          case measure=>simp[intOf];omega
         | false=>
          have HF:Hid (s2=Drv.ownE ((Drv.toK kn).rul r) (Drv.wOf n (Drv.toK kn).rul) (sx.edges.take (k+1)) (sm+1)):=hid (by
           rw[HET.out,if_neg (by rw[HRUL.out];simp)];exact HS2.out)
          go_quiet (fail)
          go_wp2_with fail
          go_roundw
          case rel=>exact⟨k+1,s2,by omega,rfl,by go_num,hid ⟨HF.out,⟨ow2,HWC.out.still (Only.of_below (below_drewN (Below.refl _ _) _))⟩,HOC.out.trans (Only.of_below (S:=fun _=>False) (below_drewN (Below.refl _ _) _)) (fun _ _ e=>e.elim)⟩⟩
          case measure=>simp[intOf];omega
        ·have g2:(ek==2)=false:=by rw[beq_eq_false_iff_ne];exact hk2
         have HF:Hid (s2=Drv.ownE ((Drv.toK kn).rul r) (Drv.wOf n (Drv.toK kn).rul) (sx.edges.take (k+1)) (sm+1)):=hid (by
          rw[HET.out,if_neg (fun e=>hk2 e.1)];exact HS2.out)
         go_quiet (fail)
         go_wp2_with fail
         go_roundw
         case rel=>exact⟨k+1,s2,by omega,rfl,by go_num,hid ⟨HF.out,⟨ow2,HWC.out.still (Only.of_below (below_drewN (Below.refl _ _) _))⟩,HOC.out.trans (Only.of_below (S:=fun _=>False) (below_drewN (Below.refl _ _) _)) (fun _ _ e=>e.elim)⟩⟩
         case measure=>simp[intOf];omega
       ·have hkn:k=nE:=by omega
        subst hkn
        have HF:Hid (s2=Drv.ownS r ((Drv.toK kn).rul r) (Drv.wOf n (Drv.toK kn).rul) (n.states.take (j+1)) 0):=hid (by
         have h9:=HS2.out
         rw[←HNE.out,List.take_length,HSM.out]at h9
         rw[HST.out,if_pos HXR.out]
         exact h9)
        go_wp2_with fail
        go_roundw
        case rel=>exact⟨j+1,s2,by omega,rfl,by go_num,hid ⟨HF.out,⟨ow2,HI2.out⟩,HO2.out⟩⟩
        case measure=>simp[intOf];omega
     ·have hd:(xr==(r:Int))=false:=by rw[beq_eq_false_iff_ne];exact hxr
      have HF:Hid (sm=Drv.ownS r ((Drv.toK kn).rul r) (Drv.wOf n (Drv.toK kn).rul) (n.states.take (j+1)) 0):=hid (by
       rw[HST.out,if_neg (by rw[HXR.out];exact hxr)];exact HSM.out)
      clear hxr
      go_wp2_with fail
      go_roundw
      case rel=>exact⟨j+1,sm,by omega,rfl,by go_num,hid ⟨HF.out,⟨ow,HWA.out⟩,HOA.out⟩⟩
      case measure=>simp[intOf];omega
    ·have hjn:j=nS:=by omega
     subst hjn
     have hsw:sm=Drv.wOf n (Drv.toK kn).rul r:=by
      have h9:=HSM.out
      rw[←HN.out,List.take_length]at h9
      rw[h9]
      exact(Drv.wOf_eq HK.out HI.out r).symm
     subst hsw
     have k4:wr.cell? ⟨b4,0,none⟩=some (.slice (some ⟨ob,0,none⟩) R R):=by rw[Lib.cell_of_heap HWJ.out.c4];rfl
     obtain⟨x9,hx9⟩:∃x,ow[r]? =some x:=⟨_,List.getElem?_eq_getElem (by rw[HWJ.out.len];exact hrl)⟩
     have k0:wr.cell? ⟨ob,r,none⟩=some (.int .i64 x9):=by rw[Lib.cell_of_heap HWJ.out.cells,List.getElem?_toArray,List.getElem?_map,hx9];rfl
     have kz:wr.frozen? ⟨ob,r,none⟩=false:=Lib.frozen_of_heap HWJ.out.cells r
     have HF:=hid (HWJ.out.set r)
     have HOF:=hid (HO.out.trans (Only.of_set wr ob r (.int .i64 (Drv.wOf n (Drv.toK kn).rul r))) (fun _ _ e=>e))
     clear hx9
     go_wp2_with fail
     go_ret
     exact⟨rfl,_,HF.out,HOF.out⟩
end Go.Proofs.Ytgflanlniejflaa
namespace Go.Proofs.Ytgflanlniejflaa
open Go.RowKit
set_option maxRecDepth 100000
theorem made_ints0 (n:Nat):madeCells #[Value.int .i64 0] n=((List.replicate n (0:Int)).map (Value.int .i64)).toArray:=by
 apply Array.ext
 ·simp[madeCells]
 ·intro i h1 h2
  simp[madeCells,Nat.mod_one]
theorem mkInts (n:Nat) (hn:n≤1000000) (u:World):(Instr.makeSlice 23 (.int .i64 (n:Int)) (.int .i64 (n:Int))).run Try.prog u=
 .ok (.slice (some ⟨u.heap.size,0,none⟩) n n) (u.alloc (.cells ((List.replicate n (0:Int)).map (Value.int .i64)).toArray 3)):=by
 obtain⟨i2,hi2,hz2,hs2,hy2⟩:=info_of infoZ
 have h:=run_make (P:=Try.prog) u 23 3 i2 (.int .i64 0) Try.underlying23 hi2 hz2 .i64 .i64 (n:Int) (n:Int) (by omega) (Int.le_refl _) (by rw[hy2];omega) (by omega)
 have e:(n:Int).toNat=n:=by omega
 rw[e]at h
 rw[←made_ints0]
 simpa[hs2,Value.cells]using h
def WideP (n:Drv.NNet) (w:World) (e:Ending) (w':World):Prop:=∃k,Drv.Known n k∧e= .returned (.int .i64 (Drv.wideR n k.rul))∧Below w.heap.size w w'
set_option maxHeartbeats 12800000 in
theorem wide_any (w:World) (n:Drv.NNet) (SA TA UA QA DA:Option Addr) (sc tc uc qc dc:Nat) (h:NetR w w.heap.size SA TA UA QA DA n) (hs:NetS n) (hm:Drv.mayNet n=true):
 Calls Try.prog 30 #[netAgg SA TA UA QA DA sc tc uc qc dc n] w (WideP n w):=by
 obtain⟨R,hR⟩:∃R,n.starts.length=R:=⟨_,rfl⟩
 have lT:=hs.starts
 rw[hR]at lT
 have hmk:=mkInts R lT
 obtain⟨nS,hnS⟩:∃m,n.states.length=m:=⟨_,rfl⟩
 obtain⟨nU,hnU⟩:∃m,n.stops.length=m:=⟨_,rfl⟩
 obtain⟨nQ,hnQ⟩:∃m,n.preds.length=m:=⟨_,rfl⟩
 obtain⟨nD,hnD⟩:∃m,n.decs.length=m:=⟨_,rfl⟩
 obtain⟨w1,hw1⟩:∃x,x=w.alloc (.cells #[.slice SA nS sc,.slice TA R tc,.slice UA nU uc,.slice QA nQ qc,.slice DA nD dc] 25):=⟨_,rfl⟩
 have z1:w1.heap.size=w.heap.size+1:=by rw[hw1];simp
 have b1:Below w.heap.size w w1:=by rw[hw1];exact below_new _ _
 have T1:w1.heap[w.heap.size]? =some (.cells #[.slice SA nS sc,.slice TA R tc,.slice UA nU uc,.slice QA nQ qc,.slice DA nD dc] 25 (0,0)):=by rw[hw1];exact heap_alloc_new _ _
 have cr:=reaches_any w1 n SA TA UA QA DA sc tc uc qc dc (h.up b1 b1.size) hs hm
 unfold netAgg at cr⊢
 rw[hnS,hR,hnU,hnQ,hnD]at cr⊢
 have CR:=hid cr
 have H:=hid (h.up b1 b1.size)
 have HS:=hid hs
 have HM:=hid hm
 have HT1:=hid T1
 have HB1:=hid b1
 have hW1:=hid hw1.symm
 have HR:=hid hR
 have y0:w1.cell? ⟨w.heap.size,0,none⟩=some (.slice SA nS sc):=by rw[Lib.cell_of_heap T1];rfl
 have y1:w1.cell? ⟨w.heap.size,1,none⟩=some (.slice TA R tc):=by rw[Lib.cell_of_heap T1];rfl
 have y2:w1.cell? ⟨w.heap.size,2,none⟩=some (.slice UA nU uc):=by rw[Lib.cell_of_heap T1];rfl
 have y3:w1.cell? ⟨w.heap.size,3,none⟩=some (.slice QA nQ qc):=by rw[Lib.cell_of_heap T1];rfl
 have y4:w1.cell? ⟨w.heap.size,4,none⟩=some (.slice DA nD dc):=by rw[Lib.cell_of_heap T1];rfl
 have HSZ:=hid (And.intro hnS (And.intro hnU (And.intro hnQ hnD)))
 clear h hs hm hw1 z1 b1 T1 hR cr hnS hnU hnQ hnD
 go_enter Try.func30,Try.ntmps30
 go_upto_region 1 with fail
 rw[hW1.out]
 clear hW1
 go_wp2_with fail
 refine CR.out.mono ?_
 rintro e w2 ⟨kb,kn,rfl,hKM,hkb,hb2,hKN,hFU⟩
 rw[HR.out]at hKM hFU⊢
 obtain⟨w3,hw3⟩:∃x,x=w2.alloc (.cells #[.slice (some ⟨kb,0,none⟩) R R] 134):=⟨_,rfl⟩
 have z3:w3.heap.size=w2.heap.size+1:=by rw[hw3];simp
 have hl1:w.heap.size<w1.heap.size:=heap_lt HT1.out
 have hb13:Below w1.heap.size w1 w3:=by rw[hw3];exact hb2.alloc hb2.size _
 have ho3:Only (fun _=>False) w2 w3:=by rw[hw3];exact Only.of_below (below_new _ _)
 have T3:w3.heap[w2.heap.size]? =some (.cells #[.slice (some ⟨kb,0,none⟩) R R] 134 (0,0)):=by rw[hw3];exact heap_alloc_new _ _
 have hn13:=hb13.block _ hl1
 have HWS:Hid (WdS w3 w3.heap.size w.heap.size w2.heap.size SA TA UA QA DA (some ⟨kb,0,none⟩) sc tc uc qc dc R n kn):=by
  obtain⟨g1,g2,g3,g4⟩:=HSZ.out
  have hsz13:=hb13.size
  refine hid ⟨H.out.up hb13 hb13.size,?_,?_,by omega,by omega,?_,?_⟩
  ·rw[HR.out];exact(hKM.still ho3).toR
  ·rw[HR.out];exact hFU
  ·rw[hn13,HT1.out,g1,g2,g3,g4,HR.out]
  ·rw[HR.out];exact T3
 have HB3:=hid (HB1.out.trans (hb13.mono HB1.out.size))
 have HKN:=hid hKN
 have c1:w3.cell? ⟨w.heap.size,1,none⟩=some (.slice TA R tc):=(hb13.cell (p:=⟨w.heap.size,1,none⟩) hl1).trans y1
 have HW3:=hid hw3.symm
 obtain⟨b3,hb3e⟩:∃b3,b3=w2.heap.size:=⟨_,rfl⟩
 have hb3l:b3<w3.heap.size:=by omega
 rw[←hb3e]at HWS T3
 have c3:w3.cell? ⟨b3,0,none⟩=some (.slice (some ⟨kb,0,none⟩) R R):=by rw[Lib.cell_of_heap T3];rfl
 have HB3E:=hid hb3e
 clear hw3 z3 hb13 ho3 T3 hn13 hKM hFU hKN hb2 hkb y0 y1 y2 y3 y4 hl1 hb3e
 go_upto_region 2 with fail
 rw[HW3.out,←HB3E.out]
 clear HW3 HB3E
 go_upto_region 5 with fail
 obtain⟨w4,hw4⟩:∃x,x=w3.alloc (.cells (Array.replicate R (Value.int .i64 0)) 3):=⟨_,rfl⟩
 obtain⟨w5,hw5⟩:∃x,x=w4.alloc (.cells #[.slice (some ⟨w3.heap.size,0,none⟩) R R] 23):=⟨_,rfl⟩
 obtain⟨w6,hw6⟩:∃x,x=w5.alloc (.cells #[clo54 (w3.heap.size+1) w.heap.size b3 (w3.heap.size+1+1)] 119):=⟨_,rfl⟩
 have z4:w4.heap.size=w3.heap.size+1:=by rw[hw4];simp
 have z5:w5.heap.size=w3.heap.size+1+1:=by rw[hw5];simp[z4]
 have hl1:w.heap.size<w3.heap.size:=HWS.out.l1
 have hI6:WdI w3 w3.heap.size w3.heap.size (w3.heap.size+1) (w3.heap.size+1+1) (clo54 (w3.heap.size+1) w.heap.size b3 (w3.heap.size+1+1)) R (Drv.wOf n (Drv.toK kn).rul) (List.replicate R 0) w6:=by
  refine⟨?_,Nat.le_refl _,?_,?_,?_,by simp,fun q x hq=>.inl ?_⟩
  ·rw[hw6,hw5,hw4];exact(((below_new _ _).alloc (by simp) _).alloc (by simp;omega) _)
  ·rw[hw6,Below.heap_alloc _ _ _ (by omega),hw5,Below.heap_alloc _ _ _ (by omega),hw4,heap_alloc_new];simp
  ·rw[hw6,Below.heap_alloc _ _ _ (by omega),hw5,←z4];exact heap_alloc_new _ _
  ·rw[hw6,←z5];exact heap_alloc_new _ _
  ·rw[List.getElem?_replicate]at hq
   split at hq
   ·injection hq with hq;exact hq.symm
   ·cases hq
 have HI6:=hid hI6
 have hW6:=hid (show((w3.alloc (.cells (Array.replicate R (Value.int .i64 0)) 3)).alloc (.cells #[.slice (some ⟨w3.heap.size,0,none⟩) R R] 23)).alloc (.cells #[.func (.func 54) #[] #[.pointer (some ⟨w3.heap.size+1,0,none⟩),.pointer (some ⟨w.heap.size,0,none⟩),.pointer (some ⟨b3,0,none⟩),.pointer (some ⟨w3.heap.size+1+1,0,none⟩)]] 119)=w6 by rw[hw6,hw5,hw4];rfl)
 have B36:=hid hI6.below
 have k4:w6.cell? ⟨w3.heap.size+1,0,none⟩=some (.slice (some ⟨w3.heap.size,0,none⟩) R R):=by rw[Lib.cell_of_heap hI6.c4];rfl
 have d3:=(hI6.below.cell (p:=⟨b3,0,none⟩) hb3l).trans c3
 clear hw4 hw5 hw6 z4 z5 hI6 c1 c3 hmk
 rw[hW6.out]
 clear hW6
 have HWB:Hid (Below w.heap.size w w6):=hid (HB3.out.trans (B36.out.mono HB3.out.size))
 have BIT:=hid (fun(r:Nat) (hr:r<R)=>HWS.out.bit (r:=r) (q:=r) (by rw[HR.out];exact hr) (by rw[HR.out];exact hr))
 go_wp2_with fail
 go_loopw[2,17] (fun z i wx=>∃j:Nat,j≤R∧z= .int .i64 0∧i= .int .i64 j∧Hid (Drv.selfR (Drv.toK kn).rul j=false)∧wx=w6) (fun _ i _=>R-(intOf i).toNat)
 case atStart=>exact⟨0,Nat.zero_le _,rfl,rfl,hid rfl,rfl⟩
 case round=>
  obtain⟨j,hj,rfl,rfl,hF,rfl⟩:=hrel
  by_cases hlt:j<R
  ·obtain⟨kb',ko,ab,ao,ci,hKA,hkb,y4,hab,y5⟩:=BIT.out j hlt
   injection hKA with hKA
   injection hKA with hKb hKo
   subst hKb hKo
   rw[HR.out]at y4
   have y4:=(B36.out.cell (p:=⟨kb,0+j*2,none⟩) hkb).trans y4
   have y5:=(B36.out.cell (p:=⟨ab,ao+j,none⟩) hab).trans y5
   rw[Nat.zero_add]at y4
   have hltI:(j:Int)<(R:Int):=by omega
   generalize hrr:(Drv.toK kn).rul j j=be at y5
   have HRR:=hid hrr
   clear hrr
   cases be with
   | true=>
    have HE:Hid (WideP n w (.returned (.int .i64 1099511627776)) wr):=hid ⟨_,HKN.out,(by
     unfold Drv.wideR
     rw[HR.out,if_pos ((Drv.selfR_iff _ _).2 ⟨j,hlt,HRR.out⟩)]),HWB.out⟩
    go_wp2_with fail
    go_ret
    exact HE.out
   | false=>
    have HF:Hid (Drv.selfR (Drv.toK kn).rul (j+1)=false):=hid (by unfold Drv.selfR;rw[hF.out,HRR.out];rfl)
    go_wp2_with fail
    go_roundw
    case rel=>exact⟨j+1,by omega,rfl,by go_num,HF,trivial⟩
    case measure=>simp[intOf];omega
  ·have hjR:j=R:=by omega
   subst hjR
   have hirr:=HKN.out.irr (by rw[HR.out];exact hF.out)
   have CL:=hid (wide1_any w3 w3.heap.size w.heap.size b3 w3.heap.size (w3.heap.size+1) (w3.heap.size+1+1) SA TA UA QA DA (some ⟨kb,0,none⟩) sc tc uc qc dc j n kn HWS.out HS.out HM.out HKN.out hirr)
   clear hirr
   go_wp2_with fail
   go_loopw[2,31] (fun z i wx=>∃i':Nat,i'≤j∧z= .int .i64 (Drv.wMax n (Drv.toK kn).rul i')∧i= .int .i64 i'∧Hid (∃own,WdI w3 w3.heap.size w3.heap.size (w3.heap.size+1) (w3.heap.size+1+1) (clo54 (w3.heap.size+1) w.heap.size b3 (w3.heap.size+1+1)) j (Drv.wOf n (Drv.toK kn).rul) own wx)) (fun _ i _=>j-(intOf i).toNat)
   case atStart=>exact⟨0,Nat.zero_le _,rfl,rfl,hid ⟨_,HI6.out⟩⟩
   case round=>
    rename World=>wx
    obtain⟨i,hi,rfl,rfl,hI⟩:=hrel
    obtain⟨own,hI⟩:=hI.out
    have HI:=hid hI
    clear hI
    by_cases hlt:i<j
    ·have hc:=CL.out (j+1) i (by have:=Drv.hgt_le n.starts.length (Drv.toK kn).rul i;have:=HR.out;omega) (by rw[HR.out];exact hlt) wx own (by rw[HR.out];exact HI.out)
     rw[HR.out]at hc
     have HC:=hid hc
     have c5:wx.cell? ⟨w3.heap.size+1+1,0,none⟩=some (.func (.func 54) #[] #[.pointer (some ⟨w3.heap.size+1,0,none⟩),.pointer (some ⟨w.heap.size,0,none⟩),.pointer (some ⟨b3,0,none⟩),.pointer (some ⟨w3.heap.size+1+1,0,none⟩)]):=by
      rw[Lib.cell_of_heap HI.out.c5];rfl
     clear hc k4 d3
     go_wp2_with fail
     refine HC.out.mono ?_
     rintro e w7 ⟨rfl,ow7,hI7,_⟩
     have HI7:=hid hI7
     clear hI7
     dsimp only
     go_wp2_with fail
     go_roundw
     case rel=>exact⟨i+1,by omega,rfl,by go_num,hid ⟨_,HI7.out⟩⟩
     case measure=>simp[intOf];omega
    ·have hij:i=j:=by omega
     subst hij
     have HE:Hid (WideP n w (.returned (.int .i64 (Drv.wMax n (Drv.toK kn).rul i))) wx):=hid ⟨_,HKN.out,(by
      unfold Drv.wideR
      rw[HR.out,if_neg (by rw[hF.out];simp)]),HB3.out.trans (HI.out.below.mono HB3.out.size)⟩
     go_wp2_with fail
     go_ret
     exact HE.out
end Go.Proofs.Ytgflanlniejflaa
