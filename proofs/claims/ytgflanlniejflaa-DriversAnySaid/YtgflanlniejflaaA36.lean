/-
  Drivers: the document's owns: the walk.
-/
import Derived.Deep.LoopGhost
import Derived.Test.YtgflanlniejflaaA05
import Derived.Test.YtgflanlniejflaaA22
import Derived.Test.YtgflanlniejflaaA35
namespace Go.Proofs.Ytgflanlniejflaa
open Go.RowKit
set_option maxRecDepth 100000
structure RulR (w:World) (B rg R:Nat) (M:Nat→Nat→Bool):Prop where
 lt:rg<B
 bit:∀r q:Nat,r<R→q<R→∃b,b<B∧w.cell? ⟨rg,r,none⟩=some (.slice (some ⟨b,0,none⟩) R R)∧w.cell? ⟨b,q,none⟩=some (.bool (M r q))
theorem RulR.below {w w':World}{B rg R:Nat}{M:Nat→Nat→Bool}(h:RulR w B rg R M) (hb:Below B w w'):RulR w' B rg R M:=
 ⟨h.lt,fun r q hr hq=>by
  obtain⟨b,h1,h2,h3⟩:=h.bit r q hr hq
  exact⟨b,h1,(hb.cell (p:=⟨rg,r,none⟩) h.lt).trans h2,(hb.cell (p:=⟨b,q,none⟩) h1).trans h3⟩⟩
theorem RulR.more {w:World}{B B' rg R:Nat}{M:Nat→Nat→Bool}(h:RulR w B rg R M) (hb:B≤B'):RulR w B' rg R M:=
 ⟨Nat.lt_of_lt_of_le h.lt hb,fun r q hr hq=>by
  obtain⟨b,h1,h2,h3⟩:=h.bit r q hr hq
  exact⟨b,Nat.lt_of_lt_of_le h1 hb,h2,h3⟩⟩
theorem FlM.rulR {w wr:World}{R rg eb:Nat}{rb:Nat→Nat}{M:Nat→Nat→Bool}{E:Nat→Bool}(h:FlM w R rg eb rb M E wr):RulR wr wr.heap.size rg R M:=
 ⟨Nat.lt_trans h.ger.2 (heap_lt h.emp),fun r _ hr hq=>⟨rb r,heap_lt (h.row r hr),(h.bit hr hq).1,(h.bit hr hq).2.1⟩⟩
def wasF (l:List Int) (q:Int):Int:=l.getD q.toNat 0
def ownL (n:Drv.NNet) (R:Nat) (M:Nat→Nat→Bool) (l:List Int) (r:Nat):List Int:=(List.range r).map fun r:Nat=>Drv.ownS r (Drv.mI R M r) (wasF l) n.states 0
theorem ownL_succ (n:Drv.NNet) (R:Nat) (M:Nat→Nat→Bool) (l:List Int) (r:Nat):ownL n R M l (r+1)=ownL n R M l r++ [Drv.ownS r (Drv.mI R M r) (wasF l) n.states 0]:=by
 unfold ownL
 rw[List.range_succ,List.map_append]
 rfl
def OwnP (n:Drv.NNet) (M:Nat→Nat→Bool) (l:List Int) (w:World) (e:Ending) (w':World):Prop:=
 ∃v,e= .returned v∧w'.ownsRow w.heap.size 3 1 v n.starts.length ((ownL n n.starts.length M l n.starts.length).map (Value.int .i64))∧Below w.heap.size w w'
set_option maxHeartbeats 25600000 in
theorem owns_any (w:World) (D rg rc wc:Nat) (WA:Option Addr) (n:Drv.NNet) (au:List (List Drv.LSt)) (M:Nat→Nat→Bool) (l:List Int) (h:RDrv w D w.heap.size n au) (hok:Drv.OkNet n au) (hM:RulR w w.heap.size rg n.starts.length M)
 (hl:l.length=n.starts.length) (hW:Reads w w.heap.size 1 WA l.length (l.map (Value.int .i64))) (hlb:∀x∈l,0≤x∧x≤1099511627776+1000000):
 Calls Try.prog 64 #[.pointer (some ⟨D,0,none⟩),.slice (some ⟨rg,0,none⟩) n.starts.length rc,.slice WA n.starts.length wc] w (OwnP n M l w):=by
 obtain⟨i4,hi4,hz4,hs4,hy4⟩:=info_parts infoZ
 have hm:=hok.may
 obtain⟨R,hR⟩:∃R,n.starts.length=R:=⟨_,rfl⟩
 obtain⟨nS,hnS⟩:∃m,n.states.length=m:=⟨_,rfl⟩
 have hR1:1≤R:=by rw[←hR];exact hok.starts1
 have hR64:R≤64:=by rw[←hR];exact hok.starts
 have hS6:nS≤1000000:=by rw[←hnS];exact hok.states
 have hst0:=(Drv.may_start hm (show 0<n.starts.length by omega)).1
 have hS1:0<nS:=by omega
 obtain⟨ZA,zc,d0,hz⟩:=h.states
 obtain⟨zb,zo,_,_,_,_,rfl,hzb,hzx⟩:=hz.at (show 0<n.states.length by omega)
 clear hzx
 have hD:=h.dlt
 rw[hnS]at d0
 rw[hl,hR]at hW
 rw[hR]at hM⊢
 obtain⟨wb,wo,rfl,hwb,cw⟩:=hW.2 (by omega)
 have HC:=hid (fun(w':World) (hb:Below w.heap.size w w')=>(show w'.cell? ⟨D,0,none⟩=some (.slice (some ⟨zb,zo,none⟩) nS zc)from(hb.cell (p:=⟨D,0,none⟩) hD).trans d0))
 have HSS:=hid (fun(s:Nat) (hs:s<n.states.length) (w':World) (hb:Below w.heap.size w w')=>(show∃EA ec,w'.cell? ⟨zb,zo+s*3,none⟩=some (.int .i64 n.states[s].rule)∧w'.cell? ⟨zb,zo+s*3+1,none⟩=some (.slice EA n.states[s].edges.length ec)∧Reads w' w.heap.size 3 EA n.states[s].edges.length (flat encEf n.states[s].edges)from by
  obtain⟨zb',zo',EA,ec,XA,xc,hA,_,z1,z2,_,re,_⟩:=hz.at hs
  injection hA with hA
  injection hA with hA1 hA2
  subst hA1 hA2
  exact⟨EA,ec,(hb.cell (p:=⟨zb,zo+s*3,none⟩) hzb).trans z1,(hb.cell (p:=⟨zb,zo+s*3+1,none⟩) hzb).trans z2,re.below hb⟩))
 have HES:=hid (fun(s:Nat) (hs:s<n.states.length)=>(show n.states[s].edges.length≤1000000∧∀e∈n.states[s].edges,0≤e.what∧(e.kind=2→e.what<n.starts.length)from
  ⟨hok.edges _ (List.getElem_mem hs),fun e he=>⟨(Drv.may_edge hm (List.getElem_mem hs) he).2.2.2.1,(Drv.may_edge hm (List.getElem_mem hs) he).2.2.2.2⟩⟩))
 have HWC:=hid (fun(q:Nat) (hq:q<R) (w':World) (hb:Below w.heap.size w w')=>(show w'.cell? ⟨wb,wo+q,none⟩=some (.int .i64 (wasF l q))∧0≤wasF l q∧wasF l q≤1099511627776+1000000 from by
  have hql:q<l.length:=by omega
  have e1:wasF l q=l[q]:=by unfold wasF;rw[Int.toNat_natCast,List.getD_eq_getElem?_getD,List.getElem?_eq_getElem hql];rfl
  rw[e1]
  exact⟨(hb.cell (p:=⟨wb,wo+q,none⟩) hwb).trans (cw q _ (by rw[List.getElem?_map,List.getElem?_eq_getElem hql];rfl)),hlb _ (List.getElem_mem hql)⟩))
 have hnn:∀q,0≤wasF l q:=fun q=>by
  unfold wasF
  rw[List.getD_eq_getElem?_getD]
  cases g:l[q.toNat]? with
  | none=>exact Int.le_refl _
  | some x=>exact(hlb x (List.mem_of_getElem? g)).1
 have HNN:=hid hnn
 have HRU:=hid hM
 have HR:=hid hR
 have HNS:=hid hnS
 unfold OwnP
 rw[hR]
 clear h hok hst0 cw hz hm hR hnS hzb hD d0 hW hlb hl hM hwb hnn
 go_enter Try.func64,Try.ntmps64
 go_wp2_with fail
 go_loopw[7,8] (fun v i wr=>∃r:Nat,r≤R∧i= .int .i64 r∧Hid (Below w.heap.size w wr∧wr.ownsRow w.heap.size 3 1 v r ((ownL n R M l r).map (Value.int .i64)))) (fun _ i _=>R-(intOf i).toNat)
 case atStart=>exact⟨0,Nat.zero_le _,rfl,hid ⟨Below.refl _ _,World.ownsRow_nil _ _ _ _⟩⟩
 case round=>
  obtain⟨r,hr,rfl,HB⟩:=hrel
  by_cases hrl:r<R
  ·have hrI:(r:Int)<(R:Int):=by omega
   obtain⟨VA,vc,rfl⟩:=row_form HB.out.2
   obtain⟨fS,hfS⟩:∃fS:Nat→Int,fS=fun s=>Drv.ownS (r:Int) (Drv.mI R M r) (wasF l) (n.states.take s) 0:=⟨_,rfl⟩
   have hb0:∀s,s≤nS→0≤fS s∧fS s≤1099511627776+1000000:=fun s hs=>by
    have h1:=Drv.ownS_bd (r:=(r:Int)) (rules:=Drv.mI R M r) HNN.out (n.states.take s) 0 1099511627776 (by omega) (by omega) (by omega)
    rw[List.length_take]at h1
    rw[hfS]
    simp only
    omega
   have HFS:=hid hfS
   have HB0:=hid hb0
   have hf0:fS 0=0:=by rw[hfS];rfl
   clear hfS hb0
   go_wp2_with fail
   go_loopw[9,10] (fun sv i wq=>∃s:Nat,s≤nS∧sv= .int .i64 (fS s)∧i= .int .i64 s∧Hid (Below wr.heap.size wr wq)) (fun _ i _=>nS-(intOf i).toNat)
   case atStart=>exact⟨0,Nat.zero_le _,by rw[hf0],rfl,hid (Below.refl _ _)⟩
   case round=>
    rename World=>wq
    clear hf0
    obtain⟨s,hs,rfl,rfl,HQ⟩:=hrel
    have HBW:=hid (HB.out.1.trans (HQ.out.mono HB.out.1.size))
    have d0:=HC.out wq HBW.out
    by_cases hsl:s<nS
    ·have hsI:(s:Int)<(nS:Int):=by omega
     have hsn:s<n.states.length:=by rw[HNS.out];exact hsl
     obtain⟨EA,ec,z1,z2,re⟩:=HSS.out s hsn wq HBW.out
     have hes:=HES.out s hsn
     have hT:fS (s+1)=if n.states[s].rule=(r:Int)then Drv.ownE (Drv.mI R M r) (wasF l) n.states[s].edges (fS s+1)else fS s:=by rw[HFS.out];exact Drv.ownS_take (r:=(r:Int)) (rules:=Drv.mI R M r) (was:=wasF l) n.states hsn 0
     obtain⟨x,hx⟩:∃x,n.states[s]=x:=⟨_,rfl⟩
     rw[hx]at z1 z2 re hT hes
     obtain⟨xr,xe,xx⟩:=x
     simp only at z1 z2 re hT hes
     have HX:=hid (hx)
     clear hx
     obtain⟨nE,hnE⟩:∃m,xe.length=m:=⟨_,rfl⟩
     obtain⟨hel,hee⟩:=hes
     rw[hnE]at z2 re hel
     have HNE:=hid hnE
     have HEE:=hid hee
     have RE:=hid re
     obtain⟨hb0,hb1⟩:=HB0.out s hs
     clear hnE hee re
     by_cases hxr:xr=(r:Int)
     ·subst hxr
      rw[if_pos rfl]at hT
      have ew:IntKind.i64.wrap (fS s+1)=fS s+1:=w64 (by omega) (by omega)
      obtain⟨S0,hS0⟩:∃S0,fS s+1=S0:=⟨_,rfl⟩
      obtain⟨fE,hfE⟩:∃fE:Nat→Int,fE=fun k=>Drv.ownE (Drv.mI R M r) (wasF l) (xe.take k) S0:=⟨_,rfl⟩
      have hbE:∀k,0≤fE k∧fE k≤1099511627776+1000001:=fun k=>by rw[hfE];exact Drv.ownE_bd HNN.out (by omega) _ S0 (by omega) (by omega)
      have hE0:fE 0=S0:=by rw[hfE];rfl
      have HE0:=hid hE0.symm
      have HTE:Hid (fS (s+1)=fE nE):=hid (by rw[hT,hfE,hS0];simp only;rw[List.take_of_length_le (by rw[HNE.out];exact Nat.le_refl _)])
      have HFE:=hid hfE
      have HBE:=hid hbE
      rw[hS0]at ew
      clear hfE hbE hT hE0 hb0 hb1
      go_wp2_with fail
      rw[HE0.out]
      clear ew HE0 hS0
      go_loopw[9,11] (fun sv i wk=>∃k:Nat,k≤nE∧sv= .int .i64 (fE k)∧i= .int .i64 k∧Hid (Below wr.heap.size wr wk)) (fun _ i _=>nE-(intOf i).toNat)
      case atStart=>exact⟨0,Nat.zero_le _,rfl,rfl,HQ⟩
      case round=>
       rename World=>wk
       clear HBW HQ
       obtain⟨k,hk,rfl,rfl,HK⟩:=hrel
       have HBW:=hid (HB.out.1.trans (HK.out.mono HB.out.1.size))
       clear d0 z1 z2
       have d0:=HC.out wk HBW.out
       obtain⟨EA',ec',_,z2,re⟩:=HSS.out s (by rw[HNS.out];exact hsl) wk HBW.out
       rw[HX.out]at z2 re
       rw[HNE.out]at z2 re
       by_cases hkl:k<nE
       ·have hkI:(k:Int)<(nE:Int):=by omega
        have hkx:k<xe.length:=by rw[HNE.out];exact hkl
        obtain⟨xb,xo,rfl,hxb,ce⟩:=re.2 (by omega)
        have f0:=ce _ _ (flat_get encEf 3 (fun _=>rfl) xe k hkx 0 (by omega))
        have f1:=ce _ _ (flat_get encEf 3 (fun _=>rfl) xe k hkx 1 (by omega))
        have f2:=ce _ _ (flat_get encEf 3 (fun _=>rfl) xe k hkx 2 (by omega))
        have x0:wk.cell? ⟨xb,xo+(k*3+0),none⟩=some (.int .i64 xe[k].kind):=f0
        have x1:wk.cell? ⟨xb,xo+(k*3+1),none⟩=some (.int .i64 xe[k].what):=f1
        have x2:wk.cell? ⟨xb,xo+(k*3+2),none⟩=some (.int .i64 xe[k].to):=f2
        rw[Nat.add_zero]at x0
        rw[←Nat.add_assoc]at x1 x2
        have hT:fE (k+1)=if xe[k].kind=2∧Drv.mI R M r xe[k].what=true then Drv.most40 (fE k+wasF l xe[k].what)else fE k:=by rw[HFE.out];exact Drv.ownE_take (rules:=Drv.mI R M r) (was:=wasF l) xe hkx S0
        have hb4:=HEE.out _ (List.getElem_mem hkx)
        obtain⟨hbe0,hbe1⟩:=HBE.out k
        generalize xe[k]=e at x0 x1 x2 hT hb4
        obtain⟨ek,ew,et⟩:=e
        simp only at x0 x1 x2 hT hb4
        obtain⟨w4,hw4⟩:∃x,x=wk.alloc (.cells #[.int .i64 ek,.int .i64 ew,.int .i64 et] 93):=⟨_,rfl⟩
        have T4:w4.heap[wk.heap.size]? =some (.cells #[.int .i64 ek,.int .i64 ew,.int .i64 et] 93 (0,0)):=by rw[hw4];exact heap_alloc_new _ _
        have hB4:Below wr.heap.size wr w4:=by rw[hw4];exact HK.out.alloc HK.out.size _
        have HB4:=hid hB4
        have HW4:=hid hw4.symm
        have HT4:=hid T4
        clear hw4 T4 hB4 f0 f1 f2 ce hkx HK re
        go_upto_region 15 with fail
        rw[HW4.out]
        generalize wk.heap.size=g4 at HT4⊢
        clear HW4 x0 x1 x2 d0 z2
        have y0:w4.cell? ⟨g4,0,none⟩=some (.int .i64 ek):=by rw[Lib.cell_of_heap HT4.out];rfl
        have y1:w4.cell? ⟨g4,1,none⟩=some (.int .i64 ew):=by rw[Lib.cell_of_heap HT4.out];rfl
        by_cases h2:ek=2
        ·subst h2
         obtain⟨wn,hwn⟩:∃wn:Nat,ew=wn:=⟨ew.toNat,by omega⟩
         subst hwn
         have hwR:wn<R:=by have:=hb4.2 rfl;have:=HR.out;omega
         have hwI:(wn:Int)<(R:Int):=by omega
         obtain⟨mb,hmb,b0,b1⟩:=(HRU.out.below (HB.out.1.trans (HB4.out.mono HB.out.1.size))).bit r wn hrl hwR
         have hmi:Drv.mI R M r wn=M r wn:=by unfold Drv.mI;simp[hrl,hwR]
         rw[hmi]at hT
         cases hMb:M r wn with
         | false=>
          rw[hMb]at b1 hT
          have HN:Hid (fE k=fE (k+1)):=hid (by rw[hT,if_neg (fun h=>by cases h.2)])
          clear hT hMb hmi
          go_quiet (fail)
          have HB5:Hid (Below wr.heap.size wr (w4.drewN nq)):=hid (((Only.refl (fun _=>False) w4).none_drew nq).below (fun _ e=>e.elim) HB4.out HB4.out.size)
          clear y0 y1 b0 b1
          generalize w4.drewN nq=w5 at HB5⊢
          go_wp2_with fail
          go_roundw
          case rel=>exact⟨k+1,by omega,by rw[HN.out],by go_num,HB5⟩
          case measure=>simp[intOf];omega
         | true=>
          rw[hMb]at b1 hT
          obtain⟨hc,hc0,hc1⟩:=HWC.out wn hwR _ (HB.out.1.trans (HB4.out.mono HB.out.1.size))
          have ew:IntKind.i64.wrap (fE k+wasF l wn)=fE k+wasF l wn:=w64 (by omega) (by omega)
          have HN:Hid (Drv.most40 (fE k+wasF l wn)=fE (k+1)):=hid (by rw[hT,if_pos ⟨rfl,rfl⟩])
          generalize wasF l wn=wv at hc hc0 hc1 ew HN
          clear hT hMb hmi
          go_quiet (fail)
          have ho5:=(Only.refl (fun _=>False) w4).none_drew nq
          have HB5:Hid (Below wr.heap.size wr (w4.drewN nq)):=hid (ho5.below (fun _ e=>e.elim) HB4.out HB4.out.size)
          have y1:=(ho5.cell (o:=1) (heap_lt HT4.out) id).trans y1
          have hc:(w4.drewN nq).cell? ⟨wb,wo+wn,none⟩=some (.int .i64 wv):=hc
          clear y0 b0 b1 ho5
          generalize w4.drewN nq=w5 at HB5 y1 hc⊢
          go_wp2_with fail
          go_roundw
          case rel=>exact⟨k+1,by omega,by rw[←HN.out];unfold Drv.most40;rw[Int.min_comm],by go_num,HB5⟩
          case measure=>simp[intOf];omega
        ·have h2b:(ek==2)=false:=by rw[beq_eq_false_iff_ne];exact h2
         have HN:Hid (fE k=fE (k+1)):=hid (by rw[hT,if_neg (fun h=>h2 h.1)])
         clear hT h2
         go_quiet (fail)
         have HB5:Hid (Below wr.heap.size wr (w4.drewN nq)):=hid (((Only.refl (fun _=>False) w4).none_drew nq).below (fun _ e=>e.elim) HB4.out HB4.out.size)
         clear y0 y1
         generalize w4.drewN nq=w5 at HB5⊢
         go_wp2_with fail
         go_roundw
         case rel=>exact⟨k+1,by omega,by rw[HN.out],by go_num,HB5⟩
         case measure=>simp[intOf];omega
       ·have hkn:nE=k:=by omega
        subst hkn
        have hkI:¬(nE:Int)<(nE:Int):=by omega
        clear re
        go_wp2_with fail
        go_roundw
        case rel=>exact⟨s+1,by omega,by rw[HTE.out],by go_num,HK⟩
        case measure=>simp[intOf];omega
     ·have hne:(xr !=(r:Int))=true:=by rw[bne_iff_ne];exact hxr
      rw[if_neg hxr]at hT
      have HT:=hid hT
      clear hT hxr
      go_wp2_with fail
      go_roundw
      case rel=>exact⟨s+1,by omega,by rw[HT.out],by go_num,HQ⟩
      case measure=>simp[intOf];omega
    ·have hsR:nS=s:=by omega
     subst hsR
     have hsI:¬(nS:Int)<(nS:Int):=by omega
     have hown:wq.ownsRow w.heap.size 3 1 (.slice VA r vc) r ((ownL n R M l r).map (Value.int .i64)):=ownsRow_only HB.out.2 (Only.of_below (S:=fun _=>False) HQ.out) fun _ _=>id
     have hqs:w.heap.size≤wq.heap.size:=HBW.out.size
     have hr6:r+1≤maxLen:=by simp only[maxLen];omega
     have HFN:Hid (fS nS=Drv.ownS (r:Int) (Drv.mI R M r) (wasF l) n.states 0):=hid (by rw[HFS.out];simp only;rw[List.take_of_length_le (by rw[HNS.out];exact Nat.le_refl _)])
     clear HQ
     go_upto_region 17 with fail
     go_wp2_with (at_builtin;go_must (refine wpList_push4 wq rfl _ _ 23 rfl w.heap.size 3 i4 _ 1 8 Try.underlying23 hi4 hz4 hs4 hy4 rfl (by omega) (.slice VA r vc) r _ rfl hown [.int .i64 (fS nS)] 1 wq.heap.size rfl rfl rfl (by simp[Value.oneCell']) Nat.zero_lt_one hr6 (by omega) hqs ?_);intro g9 c9 w9 hown9 hg9 ho9)
     have HN:Hid (Below w.heap.size w w9∧w9.ownsRow w.heap.size 3 1 (.slice (some ⟨g9,0,none⟩) (r+1) c9) (r+1) ((ownL n R M l (r+1)).map (Value.int .i64))):=hid ⟨ho9.below (fun k e=>(hown.lt k e).1) HBW.out hqs,by rw[ownL_succ,List.map_append,←HFN.out];exact hown9⟩
     go_roundw
     case rel=>exact⟨r+1,by omega,by go_num,HN⟩
     case measure=>simp[intOf];omega
  ·have hrR:R=r:=by omega
   subst hrR
   have hrI:¬(R:Int)<(R:Int):=by omega
   go_wp2_with fail
   go_ret
   exact⟨_,rfl,HB.out.2,HB.out.1⟩
end Go.Proofs.Ytgflanlniejflaa
