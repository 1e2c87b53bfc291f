/-
  Drivers: what all rules reach without a token: the walk.
-/
import Derived.Lib.QuietBelow
import Derived.Test.YtgflanlniejflaaK05
import Derived.Test.YtgflanlniejflaaK29
import Derived.Test.YtgflanlniejflaaK34
namespace Go.Proofs.Ytgflanlniejflaa
open Go.RowKit Go.Sort
set_option maxRecDepth 100000
theorem infoReach:(Try.prog.info? 138).map (fun i=>(i.zero,i.size,i.bytes))=some (some (.agg #[.slice none 0 0,.bool false]),2,32):=by kernel_rfl
theorem getElem_made2 (a b:Value) (n i:Nat) (hi:i<n):(madeCells #[a,b] (n*2))[i*2]? =some a∧(madeCells #[a,b] (n*2))[i*2+1]? =some b:=by
 constructor
 ·rw[Array.getElem?_eq_getElem (by rw[size_madeCells];omega)]
  simp[madeCells]
 ·rw[Array.getElem?_eq_getElem (by rw[size_madeCells];omega)]
  simp[madeCells,show(i*2+1) % 2=1 by omega]
theorem mkReach (n:Nat) (hn:n≤1000000) (u:World):(Instr.makeSlice 134 (.int .i64 (n:Int)) (.int .i64 (n:Int))).run Try.prog u=
 .ok (.slice (some ⟨u.heap.size,0,none⟩) n n) (u.alloc (.cells (madeCells #[.slice none 0 0,.bool false] (n*2)) 138)):=by
 obtain⟨i2,hi2,hz2,hs2,hy2⟩:=info_of infoReach
 have h:=run_make (P:=Try.prog) u 134 138 i2 _ Try.underlying134 hi2 hz2 .i64 .i64 (n:Int) (n:Int) (by omega) (Int.le_refl _) (by rw[hy2];omega) (by omega)
 have e:(n:Int).toNat=n:=by omega
 rw[e]at h
 simpa[hs2,Value.cells]using h
def KnM (u:World) (kb R:Nat) (kn:List (List Bool×Bool)):Prop:=
 kn.length=R∧∃vs:Array Value,vs.size=R*2∧u.heap[kb]? =some (.cells vs 138 (0,0))∧∀i (h:i<kn.length),(kn[i].1.length=0∨kn[i].1.length=R)∧∃v,vs[i*2]? =some v∧vs[i*2+1]? =some (.bool kn[i].2)∧
  u.ownsRow (kb+1) 4 1 v kn[i].1.length (kn[i].1.map Value.bool)
theorem KnM.still {u u':World}{kb R:Nat}{kn:List (List Bool×Bool)}(h:KnM u kb R kn) (ho:Only (fun _=>False) u u'):KnM u' kb R kn:=by
 obtain⟨h0,vs,h1,h2,h3⟩:=h
 refine⟨h0,vs,h1,(ho.block _ (heap_lt h2) id).trans h2,fun i hi=>?_⟩
 obtain⟨g0,v,g1,g2,g3⟩:=h3 i hi
 exact⟨g0,v,g1,g2,ownsRow_only g3 ho fun _ _=>id⟩
theorem KnM.start {u:World}{kb R:Nat}(h:u.heap[kb]? =some (.cells (madeCells #[.slice none 0 0,.bool false] (R*2)) 138 (0,0))):KnM u kb R (List.replicate R ([],false)):=by
 refine⟨by simp,_,size_madeCells _ _,h,fun i hi=>?_⟩
 have hiR:i<R:=by simpa using hi
 obtain⟨e0,e1⟩:=getElem_made2 (.slice none 0 0) (.bool false) R i hiR
 simp only[List.getElem_replicate]
 exact⟨.inl rfl,_,e0,e1,World.ownsRow_nil _ _ _ _⟩
theorem KnM.set {u:World}{kb R r:Nat}{kn:List (List Bool×Bool)}{v:Value}{os:List Bool}{oe:Bool}(h:KnM u kb R kn) (hr:r<R) (hos:os.length=R) (hv:u.ownsRow (kb+1) 4 1 v R (os.map Value.bool)):
 KnM ((u.setCell ⟨kb,r*2,none⟩ v).setCell ⟨kb,r*2+1,none⟩ (.bool oe)) kb R (kn.set r (os,oe)):=by
 obtain⟨h0,vs,h1,h2,h3⟩:=h
 have hO:=(Only.of_set u kb (r*2) v).trans (Only.of_set _ kb (r*2+1) (.bool oe)) fun _ _ e=>e
 have t1:=heap_setCell_same u kb (r*2) _ _ v h2
 have t2:=heap_setCell_same _ kb (r*2+1) _ _ (.bool oe) t1
 have hge:∀{n:Nat}{v:Value}{xs:List Value},u.ownsRow (kb+1) 4 1 v n xs→∀k,v.ownBlock=some k→¬k=kb:=fun hw k hk e=>by
  have:=(World.ownsRow.lt hw k hk).1
  omega
 refine⟨by rw[List.length_set];exact h0,_,by rw[Array.size_setIfInBounds,Array.size_setIfInBounds];exact h1,t2,fun i hi=>?_⟩
 have hik:i<kn.length:=by rw[List.length_set]at hi;exact hi
 by_cases e:r=i
 ·subst e
  rw[List.getElem_set_self]
  refine⟨.inr hos,v,?_,?_,?_⟩
  ·rw[Array.getElem?_setIfInBounds_ne (by omega),Array.getElem?_setIfInBounds_self_of_lt (by omega)]
  ·rw[Array.getElem?_setIfInBounds_self_of_lt (by rw[Array.size_setIfInBounds];omega)]
  ·rw[hos];exact ownsRow_only hv hO (hge hv)
 ·rw[List.getElem_set_ne e]
  obtain⟨g0,x,g1,g2,g3⟩:=h3 i hik
  refine⟨g0,x,?_,?_,ownsRow_only g3 hO (hge g3)⟩
  ·rw[Array.getElem?_setIfInBounds_ne (by omega),Array.getElem?_setIfInBounds_ne (by omega)];exact g1
  ·rw[Array.getElem?_setIfInBounds_ne (by omega),Array.getElem?_setIfInBounds_ne (by omega)];exact g2
theorem KnM.toR {u:World}{kb R:Nat}{kn:List (List Bool×Bool)}(h:KnM u kb R kn):KnR u u.heap.size (some ⟨kb,0,none⟩) R kn:=by
 obtain⟨h0,vs,h1,h2,h3⟩:=h
 refine⟨h0,vs.toList,⟨by rw[Array.length_toList];exact h1,fun _=>⟨kb,0,rfl,heap_lt h2,fun j x hx=>?_⟩⟩,fun i hi=>?_⟩
 ·rw[Lib.cell_of_heap h2,Nat.zero_add,←Array.getElem?_toList];exact hx
 ·obtain⟨g0,v,g1,g2,g3⟩:=h3 i hi
  obtain⟨A,c,rfl⟩:=row_form g3
  refine⟨g0,A,c,by rw[Array.getElem?_toList];exact g1,by rw[Array.getElem?_toList];exact g2,Reads.of_own g3⟩
def RchsP (n:Drv.NNet) (w:World) (e:Ending) (w':World):Prop:=
 ∃(kb:Nat) (kn:List (List Bool×Bool)),e= .returned (.slice (some ⟨kb,0,none⟩) n.starts.length n.starts.length)∧KnM w' kb n.starts.length kn∧w.heap.size≤kb∧Below w.heap.size w w'∧Drv.Known n (Drv.toK kn)∧∀r:Nat,r<n.starts.length→(kn.getD r ([],false)).1.length=n.starts.length
def RchsI (w:World) (X:Array Value) (n:Drv.NNet) (kb M:Nat) (b:Bool) (i:Nat) (wr:World):Prop:=
 ∃kn,Below w.heap.size w wr∧wr.heap[w.heap.size]? =some (.cells X 25 (0,0))∧KnM wr kb n.starts.length kn∧Drv.GK n kn∧Drv.openL n.starts.length kn≤M∧(b=true→Drv.openL n.starts.length kn+1≤M)∧(b=false→∀r,r<i→Drv.Fix n kn r)
theorem StsR.more {w:World}{B B':Nat}{A:Option Addr}{l:List Drv.NSt}(h:StsR w B A l) (hB:B≤B'):StsR w B' A l:=by
 obtain⟨vs0,h2,h2'⟩:=h
 refine⟨vs0,h2.more hB,fun i hi=>?_⟩
 obtain⟨EA,ec,XA,xc,e0,e1,e2,r0,r1⟩:=h2' i hi
 exact⟨EA,ec,XA,xc,e0,e1,e2,r0.more hB,r1.more hB⟩
theorem NetR.up {w u:World}{B:Nat}{SA TA UA QA DA:Option Addr}{n:Drv.NNet}(h:NetR w B SA TA UA QA DA n) (hb:Below B w u) (hB:B≤u.heap.size):NetR u u.heap.size SA TA UA QA DA n:=
 ⟨(h.sts.below hb).more hB,(h.starts.below hb).more hB,(h.stops.below hb).more hB,(h.preds.below hb).more hB,(h.decs.below hb).more hB⟩
set_option maxHeartbeats 12800000 in
theorem reaches_any (w:World) (n:Drv.NNet) (SA TA UA QA DA:Option Addr) (sc tc uc qc dc:Nat) (h:NetR w w.heap.size SA TA UA QA DA n) (hs:NetS n) (hm:Drv.mayNet n=true):
 Calls Try.prog 53 #[netAgg SA TA UA QA DA sc tc uc qc dc n] w (RchsP n w):=by
 obtain⟨R,hR⟩:∃R,n.starts.length=R:=⟨_,rfl⟩
 have lT:=hs.starts
 rw[hR]at lT
 have hmk:=mkReach R lT
 have CR:=hid (fun(u:World) (kb r:Nat) (kn:List (List Bool×Bool)) (hb:Below w.heap.size w u) (hr:r<n.starts.length) (hK:KnM u kb n.starts.length kn)=>
  reached_any u n SA TA UA QA DA (some ⟨kb,0,none⟩) sc tc uc qc dc n.starts.length r kn (h.up hb hb.size) hs hm hr hK.toR)
 have HM:=hid hm
 have HR:=hid hR
 unfold netAgg at CR⊢
 rw[hR]at CR⊢
 generalize n.states.length=nS at CR⊢
 generalize n.stops.length=nU at CR⊢
 generalize n.preds.length=nQ at CR⊢
 generalize n.decs.length=nD at CR⊢
 obtain⟨w1,hw1⟩:∃x,x=w.alloc (.cells #[.slice SA nS sc,.slice TA R tc,.slice UA nU uc,.slice QA nQ qc,.slice DA nD dc] 25):=⟨_,rfl⟩
 obtain⟨w2,hw2⟩:∃x,x=w1.alloc (.cells (madeCells #[.slice none 0 0,.bool false] (R*2)) 138):=⟨_,rfl⟩
 have HW:=hid (show(w.alloc (.cells #[.slice SA nS sc,.slice TA R tc,.slice UA nU uc,.slice QA nQ qc,.slice DA nD dc] 25)).alloc (.cells (madeCells #[.slice none 0 0,.bool false] (R*2)) 138)=w2 by rw[hw2,hw1])
 have z1:w1.heap.size=w.heap.size+1:=by rw[hw1];simp
 have z2:w2.heap.size=w.heap.size+1+1:=by rw[hw2];simp[z1]
 have b1:Below w.heap.size w w1:=by rw[hw1];exact below_new _ _
 have b2:Below w.heap.size w w2:=by rw[hw2];exact b1.alloc (by omega) _
 have T1:w2.heap[w.heap.size]? =some (.cells #[.slice SA nS sc,.slice TA R tc,.slice UA nU uc,.slice QA nQ qc,.slice DA nD dc] 25 (0,0)):=by
  rw[hw2,Below.heap_alloc _ _ _ (by omega),hw1];exact heap_alloc_new _ _
 have T2:w2.heap[w.heap.size+1]? =some (.cells (madeCells #[.slice none 0 0,.bool false] (R*2)) 138 (0,0)):=by
  rw[hw2,←z1];exact heap_alloc_new _ _
 have HI0:Hid (RchsI w #[.slice SA nS sc,.slice TA R tc,.slice UA nU uc,.slice QA nQ qc,.slice DA nD dc] n (w.heap.size+1) (Drv.openL R (List.replicate R ([],false))+1) true 0 w2):=
  hid ⟨List.replicate R ([],false),b2,T1,(by rw[hR];exact KnM.start T2),(by rw[←hR];exact Drv.GK.start n),(by rw[hR];omega),fun _=>(by rw[hR];exact Nat.le_refl _),fun e=>(by cases e)⟩
 clear hw1 hw2 z1 z2 b1 b2 T1 T2 h hs hm hR
 go_enter Try.func53,Try.ntmps53
 go_upto_region 2 with fail
 rw[HW.out]
 clear HW
 have hX:Hid (w.heap.size+1=w.heap.size+1):=hid rfl
 go_wp2_with fail
 go_loopg [4] (Drv.openL R (List.replicate R ([],false))+1) (fun m ch wr=>∃b:Bool,ch= .bool b∧Hid (RchsI w #[.slice SA nS sc,.slice TA R tc,.slice UA nU uc,.slice QA nQ qc,.slice DA nD dc] n (w.heap.size+1) m b R wr))
 case atStart=>
  obtain⟨kn,g1,g2,g3,g4,g5,g6,_⟩:=HI0.out
  exact⟨true,rfl,hid ⟨kn,g1,g2,g3,g4,g5,g6,fun e=>by cases e⟩⟩
 case round=>
  clear HI0
  obtain⟨b,rfl,hI⟩:=hrel
  cases b with
  | false=>
   obtain⟨kn,hb,_,hK,hG,_,_,hF⟩:=hI.out
   have HE:Hid (RchsP n w (.returned (.slice (some ⟨w.heap.size+1,0,none⟩) R R)) wr):=
    hid ⟨w.heap.size+1,kn,(by rw[HR.out]),hK,Nat.le_succ _,hb,hG.all HM.out (fun r hr=>hF rfl r (by rw[←HR.out];exact hr)),fun r hr=>(hF rfl r (by rw[←HR.out];exact hr)).2.2⟩
   clear hb hK hG hF hI
   go_wp2_with fail
   go_ret
   exact HE.out
  | true=>
   obtain⟨kn,hb,hg,hK,hG,_,hM,_⟩:=hI.out
   have hM:=hM rfl
   generalize hL:Drv.openL n.starts.length kn=L at hM
   have HJ:Hid (RchsI w #[.slice SA nS sc,.slice TA R tc,.slice UA nU uc,.slice QA nQ qc,.slice DA nD dc] n (w.heap.size+1) L false 0 wr):=
    hid ⟨kn,hb,hg,hK,hG,(by rw[hL];exact Nat.le_refl _),fun e=>(by cases e),fun _ r hr=>absurd hr (Nat.not_lt_zero _)⟩
   clear hb hg hK hG hI hL
   go_wp2_with fail
   go_loopw[4,14] (fun ch i wx=>∃(b:Bool) (j:Nat),ch= .bool b∧i= .int .i64 j∧j≤R∧Hid (RchsI w #[.slice SA nS sc,.slice TA R tc,.slice UA nU uc,.slice QA nQ qc,.slice DA nD dc] n (w.heap.size+1) L b j wx)) (fun _ i _=>R-(intOf i).toNat)
   case atStart=>exact⟨false,0,rfl,rfl,Nat.zero_le _,HJ⟩
   case round=>
    rename World=>w3
    clear HJ
    obtain⟨b,j,rfl,rfl,hj,hI⟩:=hrel
    by_cases hlt:j<R
    ·obtain⟨kn,hb,hg,hK,hG,g5,g6,g7⟩:=hI.out
     have c0:w3.cell? ⟨w.heap.size,0,none⟩=some (.slice SA nS sc):=by rw[Lib.cell_of_heap hg];rfl
     have c1:w3.cell? ⟨w.heap.size,1,none⟩=some (.slice TA R tc):=by rw[Lib.cell_of_heap hg];rfl
     have c2:w3.cell? ⟨w.heap.size,2,none⟩=some (.slice UA nU uc):=by rw[Lib.cell_of_heap hg];rfl
     have c3:w3.cell? ⟨w.heap.size,3,none⟩=some (.slice QA nQ qc):=by rw[Lib.cell_of_heap hg];rfl
     have c4:w3.cell? ⟨w.heap.size,4,none⟩=some (.slice DA nD dc):=by rw[Lib.cell_of_heap hg];rfl
     have CC:=hid (CR.out w3 (w.heap.size+1) j kn hb hlt (by rw[←HR.out];exact hK))
     have HB:=hid hb
     have HG:=hid hg
     have HK:=hid hK
     have HGK:=hid hG
     have H567:=hid (And.intro g5 (And.intro g6 g7))
     have hltI:(j:Int)<(R:Int):=by omega
     clear hb hg hK hG g5 g6 g7 hI
     go_wp2_with fail
     refine CC.out.mono ?_
     rintro e w4 ⟨A,c,os,oe,rfl,own,hb4,e1,r1⟩
     rw[HR.out]at own⊢
     have ho4:=Only.of_below (S:=fun _=>False) hb4
     have HB4:=hid (ho4.below (fun _ e=>e.elim) HB.out HB.out.size)
     have hg4:=(ho4.block _ (heap_lt HG.out) id).trans HG.out
     have hK4:=HK.out.still ho4
     have hkbl:=(show w.heap.size+1<w3.heap.size from heap_lt HK.out.2.choose_spec.2.1)
     have hol:os.length=n.starts.length:=by
      have:=own.1
      rw[List.length_map,Nat.mul_one]at this
      rw[HR.out];exact this
     have hK4R:=hK4.toR
     rw[HR.out]at hK4R
     obtain⟨hkl,vsK,hkr,hkv⟩:=hK4R
     obtain⟨hks0,Ai,ci,v0,v1,rK⟩:=hkv j (by omega)
     obtain⟨kb,ko,hKA,hkb,hkc⟩:=hkr.2 (by omega)
     injection hKA with hKA
     injection hKA with hKb hKo
     subst hKb hKo
     have x0:=hkc _ _ v0
     have x1:=hkc _ _ v1
     rw[←Nat.add_assoc]at x1
     simp only[Nat.zero_add]at x0 x1
     have hkn:kn[j]? =some kn[j]:=List.getElem?_eq_getElem (by omega)
     have hkj:j<kn.length:=by omega
     have hEQ:=hid (fun(u:World) (hbu:Below w4.heap.size w4 u)=>equalB_any A Ai c ci w4.heap.size w4.heap.size os kn[j].1 u (by rw[hol,HR.out];omega) (by
      have:=(Reads.of_own own).below hbu
      rw[hol,HR.out];exact this) (rK.below hbu) hbu.size hbu.size)
     have HNX:=hid (HGK.out.next (r:=j) (by rw[HR.out];exact hlt) hol e1 r1)
     have HLS:=hid (HGK.out.less (r:=j) (by rw[HR.out];exact hlt) hkj hol e1 r1)
     have HFX:=hid (Drv.fix_of (n:=n) (r:=j) hkj hol e1 r1)
     have HKM:=hid hK4
     have HOWN:=hid (ownsRow_base own (show w.heap.size+1+1≤w3.heap.size by omega))
     have hT6:=heap_alloc_new w4 (.cells #[.slice A R c,.bool oe] 138)
     have hb5:=below_new w4 (.cells #[.slice A R c,.bool oe] 138)
     have hkb4:w.heap.size+1<w4.heap.size:=by omega
     clear own hb4 ho4 hK4 hkr hkv v0 v1 rK hkn e1 r1 c0 c1 c2 c3 c4 CC
     generalize kn[j].1=ks at x0 hEQ HLS HFX hks0
     generalize kn[j].2=kb2 at x1 HLS HFX
     generalize hksl:ks.length=kl at x0 hEQ hks0
     go_upto_region 9 with fail
     generalize w4.alloc (.cells #[.slice A R c,.bool oe] 138)=w5 at hT6 hb5⊢
     have HB5:=hid hb5
     have HT6:=hid hT6
     have y0:w5.cell? ⟨w4.heap.size,0,none⟩=some (.slice A R c):=by rw[Lib.cell_of_heap hT6];rfl
     have y1:w5.cell? ⟨w4.heap.size,1,none⟩=some (.bool oe):=by rw[Lib.cell_of_heap hT6];rfl
     have x05:=(hb5.cell (p:=⟨w.heap.size+1,j*2,none⟩) hkb4).trans x0
     have x15:=(hb5.cell (p:=⟨w.heap.size+1,j*2+1,none⟩) hkb4).trans x1
     have q0:=fun d o=>cell_regrown y0 d o
     have q1:=fun d o=>cell_regrown y1 d o
     have q2:=fun d o=>cell_regrown x05 d o
     have q3:=fun d o=>cell_regrown x15 d o
     have hg4l:w4.heap.size<w5.heap.size:=heap_lt hT6
     have hol2:os.length=R:=by rw[hol];exact HR.out
     rw[hol2]at hEQ
     have HOL:=hid hol
     have X05:=hid x05
     have X15:=hid x15
     have hkb5:w.heap.size+1<w5.heap.size:=by have:=hb5.size;omega
     clear y0 y1 x0 x1 x05 x15 hT6 hb5 hol hol2
     by_cases he:oe=kb2
     ·subst he
      have hd:(oe==oe)=true:=by cases oe <;> rfl
      by_cases ho:os=ks
      ·have ca:∀(d:Nat) (o:Array Obj),Calls Try.prog 75 #[.slice A R c,.slice Ai kl ci] (grow (redrawn w5 d) o) fun e w''=>e= .returned (.bool true)∧∃p:Regrown,w''=grow (redrawn w5 p.d) p.os:=fun d o=>
        Calls.regrown_of (by
         have h9:=hEQ.out (grow (redrawn w5 d) o) (HB5.out.trans ((below_regrown w5 d o).mono HB5.out.size))
         rw[show(os==ks)=true by rw[beq_iff_eq];exact ho]at h9
         exact h9)
       refine wp_region_quiet_below (by kernel_rfl) (by kernel_rfl) ?_
       repeat (quiet_step (exact ca _ _))
       clear ca
       clear q0 q1 q2 q3
       refine wpQuiet_nil ?_
       rintro _ ⟨⟨dq,osq⟩,rfl⟩
       have hb6:=below_regrown w5 dq osq
       generalize grow (redrawn w5 dq) osq=w6 at hb6⊢
       have hT6:=(hb6.block _ hg4l).trans HT6.out
       have hb46:Below w4.heap.size w4 w6:=HB5.out.trans (hb6.mono HB5.out.size)
       have ho6:=Only.of_below (S:=fun _=>False) hb46
       have HK6:=hid (HKM.out.still ho6)
       have HB6:=hid (HB4.out.trans (hb46.mono HB4.out.size))
       have HG6:=hid ((ho6.block _ (show w.heap.size<w4.heap.size by omega) id).trans hg4)
       have HJ:Hid (RchsI w #[.slice SA nS sc,.slice TA R tc,.slice UA nU uc,.slice QA nQ qc,.slice DA nD dc] n (w.heap.size+1) L b (j+1) w6):=by
        obtain⟨g5,g6,g7⟩:=H567.out
        refine hid ⟨kn,HB6.out,HG6.out,HK6.out,HGK.out,g5,g6,fun hbf r hr=>?_⟩
        rcases Nat.lt_succ_iff_lt_or_eq.1 hr with h9 | rfl
        ·exact g7 hbf r h9
        ·exact HFX.out rfl ho
       clear HK6 HB6 HG6 hb6 hT6 hb46 ho6
       go_wp2_with fail
       go_roundw
       case rel=>exact⟨b,j+1,rfl,by go_num,by omega,HJ⟩
       case measure=>simp[intOf];omega
      ·have ca:∀(d:Nat) (o:Array Obj),Calls Try.prog 75 #[.slice A R c,.slice Ai kl ci] (grow (redrawn w5 d) o) fun e w''=>e= .returned (.bool false)∧∃p:Regrown,w''=grow (redrawn w5 p.d) p.os:=fun d o=>
        Calls.regrown_of (by
         have h9:=hEQ.out (grow (redrawn w5 d) o) (HB5.out.trans ((below_regrown w5 d o).mono HB5.out.size))
         rw[show(os==ks)=false by rw[beq_eq_false_iff_ne];exact ho]at h9
         exact h9)
       refine wp_region_quiet_below (by kernel_rfl) (by kernel_rfl) ?_
       repeat (quiet_step (exact ca _ _))
       clear ca
       clear q0 q1 q2 q3
       refine wpQuiet_nil ?_
       rintro _ ⟨⟨dq,osq⟩,rfl⟩
       have hb6:=below_regrown w5 dq osq
       generalize grow (redrawn w5 dq) osq=w6 at hb6⊢
       have hT6:=(hb6.block _ hg4l).trans HT6.out
       have hb46:Below w4.heap.size w4 w6:=HB5.out.trans (hb6.mono HB5.out.size)
       have ho6:=Only.of_below (S:=fun _=>False) hb46
       have HK6:=hid (HKM.out.still ho6)
       have HB6:=hid (HB4.out.trans (hb46.mono HB4.out.size))
       have HG6:=hid ((ho6.block _ (show w.heap.size<w4.heap.size by omega) id).trans hg4)
       have HOW:=hid (ownsRow_only HOWN.out ho6 (fun _ _ e=>e))
       have y0:w6.cell? ⟨w4.heap.size,0,none⟩=some (.slice A R c):=by rw[Lib.cell_of_heap hT6];rfl
       have y1:w6.cell? ⟨w4.heap.size,1,none⟩=some (.bool oe):=by rw[Lib.cell_of_heap hT6];rfl
       obtain⟨_,vk,_,hvk,_⟩:=HK6.out
       have z6:=fun i=>Lib.frozen_of_heap hvk i
       have x06:=(hb6.cell (p:=⟨w.heap.size+1,j*2,none⟩) hkb5).trans X05.out
       have x16:=(hb6.cell (p:=⟨w.heap.size+1,j*2+1,none⟩) hkb5).trans X15.out
       clear hvk hT6 hb6 hb46 ho6
       have hLT:=hid (HLS.out (fun e=>ho e.2))
       have HST:=hid (HK6.out.set (r:=j) (os:=os) (oe:=oe) (v:=.slice A R c) (by rw[HR.out];exact hlt) HOL.out (by rw[HR.out];exact HOW.out))
       have HO2:=hid ((Only.of_set w6 (w.heap.size+1) (j*2) (.slice A R c)).trans (Only.of_set _ (w.heap.size+1) (j*2+1) (.bool oe)) fun _ _ e=>e)
       have HJ:Hid (RchsI w #[.slice SA nS sc,.slice TA R tc,.slice UA nU uc,.slice QA nQ qc,.slice DA nD dc] n (w.heap.size+1) L true (j+1) ((w6.setCell ⟨w.heap.size+1,j*2,none⟩ (.slice A R c)).setCell ⟨w.heap.size+1,j*2+1,none⟩ (.bool oe))):=by
        obtain⟨g5,_,_⟩:=H567.out
        have g9:=hLT.out
        exact hid ⟨_,HO2.out.below (fun k e=>by omega) HB6.out HB6.out.size,(HO2.out.block _ (heap_lt HG6.out) (by omega)).trans HG6.out,HST.out,HNX.out.2,by omega,fun _=>by omega,fun e=>by cases e⟩
       clear HST HO2 HK6 HOW hLT HB6 HG6
       go_wp2_with fail
       go_roundw
       case rel=>exact⟨true,j+1,rfl,by go_num,by omega,HJ⟩
       case measure=>simp[intOf];omega
     ·have hd:(oe==kb2)=false:=by rw[beq_eq_false_iff_ne];exact he
      clear q0 q1 q2 q3
      have y0:w5.cell? ⟨w4.heap.size,0,none⟩=some (.slice A R c):=by rw[Lib.cell_of_heap HT6.out];rfl
      have y1:w5.cell? ⟨w4.heap.size,1,none⟩=some (.bool oe):=by rw[Lib.cell_of_heap HT6.out];rfl
      have x15:=X15.out
      go_quiet (fail)
      clear y0 y1 x15
      have hb6:=below_drewN (Below.refl w5.heap.size w5) nq
      generalize w5.drewN nq=w6 at hb6⊢
      have hT6:=(hb6.block _ hg4l).trans HT6.out
      have hb46:Below w4.heap.size w4 w6:=HB5.out.trans (hb6.mono HB5.out.size)
      have ho6:=Only.of_below (S:=fun _=>False) hb46
      have HK6:=hid (HKM.out.still ho6)
      have HB6:=hid (HB4.out.trans (hb46.mono HB4.out.size))
      have HG6:=hid ((ho6.block _ (show w.heap.size<w4.heap.size by omega) id).trans hg4)
      have HOW:=hid (ownsRow_only HOWN.out ho6 (fun _ _ e=>e))
      have y0:w6.cell? ⟨w4.heap.size,0,none⟩=some (.slice A R c):=by rw[Lib.cell_of_heap hT6];rfl
      have y1:w6.cell? ⟨w4.heap.size,1,none⟩=some (.bool oe):=by rw[Lib.cell_of_heap hT6];rfl
      obtain⟨_,vk,_,hvk,_⟩:=HK6.out
      have z6:=fun i=>Lib.frozen_of_heap hvk i
      have x06:=(hb6.cell (p:=⟨w.heap.size+1,j*2,none⟩) hkb5).trans X05.out
      have x16:=(hb6.cell (p:=⟨w.heap.size+1,j*2+1,none⟩) hkb5).trans X15.out
      clear hvk hT6 hb6 hb46 ho6
      have hLT:=hid (HLS.out (fun e=>he e.1))
      have HST:=hid (HK6.out.set (r:=j) (os:=os) (oe:=oe) (v:=.slice A R c) (by rw[HR.out];exact hlt) HOL.out (by rw[HR.out];exact HOW.out))
      have HO2:=hid ((Only.of_set w6 (w.heap.size+1) (j*2) (.slice A R c)).trans (Only.of_set _ (w.heap.size+1) (j*2+1) (.bool oe)) fun _ _ e=>e)
      have HJ:Hid (RchsI w #[.slice SA nS sc,.slice TA R tc,.slice UA nU uc,.slice QA nQ qc,.slice DA nD dc] n (w.heap.size+1) L true (j+1) ((w6.setCell ⟨w.heap.size+1,j*2,none⟩ (.slice A R c)).setCell ⟨w.heap.size+1,j*2+1,none⟩ (.bool oe))):=by
       obtain⟨g5,_,_⟩:=H567.out
       have g9:=hLT.out
       exact hid ⟨_,HO2.out.below (fun k e=>by omega) HB6.out HB6.out.size,(HO2.out.block _ (heap_lt HG6.out) (by omega)).trans HG6.out,HST.out,HNX.out.2,by omega,fun _=>by omega,fun e=>by cases e⟩
      clear HST HO2 HK6 HOW hLT HB6 HG6
      go_wp2_with fail
      go_roundw
      case rel=>exact⟨true,j+1,rfl,by go_num,by omega,HJ⟩
      case measure=>simp[intOf];omega
    ·have hjR:j=R:=by omega
     subst hjR
     go_wp2_with fail
     cases b with
     | true=>
      obtain⟨kn,hb,hg,hK,hG,g5,g6,g7⟩:=hI.out
      have HF:Hid (RchsI w #[.slice SA nS sc,.slice TA j tc,.slice UA nU uc,.slice QA nQ qc,.slice DA nD dc] n (w.heap.size+1) L true j w3):=hI
      clear hb hg hK hG g5 g6 g7
      go_roundg L
      case measure=>omega
      case rel=>exact⟨true,rfl,HF⟩
     | false=>
      obtain⟨kn,hb,hg,hK,hG,g5,g6,g7⟩:=hI.out
      have HF:Hid (RchsI w #[.slice SA nS sc,.slice TA j tc,.slice UA nU uc,.slice QA nQ qc,.slice DA nD dc] n (w.heap.size+1) L false j w3):=hI
      clear hb hg hK hG g5 g6 g7
      go_roundg L
      case measure=>omega
      case rel=>exact⟨false,rfl,HF⟩
end Go.Proofs.Ytgflanlniejflaa
