/-
  Drivers: Amay, Amay2 (texts joined).
-/
import Derived.Test.YtgflanlniejflaaK11
import Derived.Test.YtgflanlniejflaaK30
namespace Go.Proofs.Ytgflanlniejflaa
open Go.RowKit
set_option maxRecDepth 100000
theorem risingL_cons (most a x:Int) (r:List Int):Drv.risingL most a (x ::r)=(decide (a≤x) && decide (x<most) && Drv.risingL most (x+1) r):=rfl
set_option maxHeartbeats 1600000 in
theorem rising_any (A:Option Addr) (c B:Nat) (l:List Int) (least most:Int) (w:World) (hn:l.length≤1000000000) (h0:-1000≤least) (h1:most≤1000000000) (hr:Reads w B 1 A l.length (l.map (Value.int .i64))):
 Calls Try.prog 73 #[.slice A l.length c,.int .i64 least,.int .i64 most] w fun e w'=>e= .returned (.bool (Drv.risingL most least l))∧w'=w:=by
 have HR:=hid hr
 obtain⟨n,hln⟩:∃n,l.length=n:=⟨_,rfl⟩
 rw[hln]at hn⊢
 have HL:=hid hln
 clear hr hln
 go_enter Try.func73,Try.ntmps73
 go_wp2_with fail
 go_loop [1,11] (fun v i=>∃(k:Nat) (a:Int),k≤n∧i= .int .i64 k∧v= .int .i64 a∧-1000≤a∧Hid (Drv.risingL most least l=Drv.risingL most a (l.drop k))) (fun _ i=>n-(intOf i).toNat)
 case atStart=>exact⟨0,least,by omega,rfl,rfl,h0,hid rfl⟩
 case round=>
  obtain⟨k,a,hk,rfl,rfl,ha,hH⟩:=hrel
  by_cases hlt:k<n
  ·have hkl:k<l.length:=by rw[HL.out];exact hlt
   obtain⟨b,off,rfl,hb,hc⟩:=reads_atZ HR.out k hkl
   have hd:l.drop k=l[k] ::l.drop (k+1):=List.drop_eq_getElem_cons hkl
   have hH2:=hH.out
   rw[hd,risingL_cons]at hH2
   generalize l[k]=x at hc hH2
   clear hd hH
   by_cases hx0:x<a
   ·have g1:decide (x<a)=true:=by simpa using hx0
    have HF:Hid (Drv.risingL most least l=false):=hid (by rw[hH2,show decide (a≤x)=false by rw[decide_eq_false_iff_not];omega];simp)
    clear hH2
    go_wp2_with fail
    go_ret
    exact⟨ret_bool HF.out.symm,rfl⟩
   ·have g1:decide (x<a)=false:=by simpa using hx0
    by_cases hx1:most≤x
    ·have g2:decide (most≤x)=true:=by simpa using hx1
     have HF:Hid (Drv.risingL most least l=false):=hid (by rw[hH2,show decide (x<most)=false by rw[decide_eq_false_iff_not];omega];simp)
     clear hH2
     go_wp2_with fail
     go_ret
     exact⟨ret_bool HF.out.symm,rfl⟩
    ·have g2:decide (most≤x)=false:=by simpa using hx1
     have HF:Hid (Drv.risingL most least l=Drv.risingL most (x+1) (l.drop (k+1))):=hid (by rw[hH2,show decide (x<most)=true by rw[decide_eq_true_eq];omega,show decide (a≤x)=true by rw[decide_eq_true_eq];omega];simp)
     have e1:IntKind.i64.wrap (x+1)=x+1:=w64 (by omega) (by omega)
     clear hH2
     go_wp2_with fail
     go_round
     case rel=>exact⟨k+1,x+1,by omega,by go_num,rfl,by omega,HF⟩
     case measure=>simp[intOf];omega
  ·have HF:Hid (Drv.risingL most least l=true):=hid (by
    rw[hH.out,List.drop_eq_nil_of_le (by rw[HL.out];omega)]
    rfl)
   clear hH
   go_wp2_with fail
   go_ret
   exact⟨ret_bool HF.out.symm,rfl⟩
theorem made_intZ (n:Nat):madeCells #[Value.int .i64 0] n=(List.replicate n (Value.int .i64 0)).toArray:=by
 apply Array.ext
 ·simp[madeCells]
 ·intro i h1 h2
  simp[madeCells,Nat.mod_one]
theorem by_set (l:List Value) (n k:Nat) (hl:l.length=n) (hk:k<n) (z x:Value) (hx:l[k]? =some x):(l.take k++List.replicate (n-k) z).toArray.setIfInBounds k x=(l.take (k+1)++List.replicate (n-(k+1)) z).toArray:=by
 have hkl:k<l.length:=by omega
 have hx':x=l[k]:=by rw[List.getElem?_eq_getElem hkl]at hx;injection hx with hx;exact hx.symm
 have hlt:(l.take k).length=k:=by rw[List.length_take];omega
 rw[List.setIfInBounds_toArray,List.set_append_right _ _ (by omega),hlt,Nat.sub_self]
 have h1:n-k=(n-(k+1))+1:=by omega
 rw[h1,List.replicate_succ,List.set_cons_zero,List.take_succ_eq_append_getElem hkl,hx',List.append_assoc]
 rfl
set_option maxHeartbeats 6400000 in
theorem fine_any (w:World) (x:Drv.LSt) (AA EA:Option Addr) (ac ec nst:Nat) (na nt:Int) (hA:Reads w w.heap.size 1 AA x.alts.length (x.alts.map (Value.int .i64))) (hE:Reads w w.heap.size 2 EA x.edges.length (flat encLE x.edges))
 (h1:x.alts.length≤1000000) (h2:x.edges.length≤1000000) (h4:na≤1000000) (h5:nt≤1000000):
 Calls Try.prog 51 #[.agg #[.int .u8 x.kind,.slice AA x.alts.length ac,.slice EA x.edges.length ec],.int .i64 nst,.int .i64 na,.int .i64 nt] w fun e w'=>e= .returned (.bool (Drv.fineL x nst na nt))∧Below w.heap.size w w':=by
 obtain⟨nE,hnE⟩:∃m,x.edges.length=m:=⟨_,rfl⟩
 obtain⟨nA,hnA⟩:∃m,x.alts.length=m:=⟨_,rfl⟩
 have HE:=hid hE
 have HA:=hid hA
 rw[hnE,hnA]
 rw[hnA]at h1
 rw[hnE]at h2
 have HNE:=hid hnE
 have HNA:=hid hnA
 have hmk:∀u:World,(Instr.makeSlice 23 (.int .i64 (nE:Int)) (.int .i64 (nE:Int))).run Try.prog u=
  .ok (.slice (some ⟨u.heap.size,0,none⟩) nE nE) (u.alloc (.cells (Array.replicate nE (Value.int .i64 0)) 3)):=fun u=>by
  obtain⟨i2,hi2,hz2,hs2,hy2⟩:=info_of infoZ
  have h:=run_make (P:=Try.prog) u 23 3 i2 (.int .i64 0) Try.underlying23 hi2 hz2 .i64 .i64 (nE:Int) (nE:Int) (by omega) (Int.le_refl _) (by rw[hy2];omega) (by omega)
  have e:(nE:Int).toNat=nE:=by omega
  rw[e]at h
  rw[show Array.replicate nE (Value.int .i64 0)=madeCells #[Value.int .i64 0] nE by rw[made_intZ];simp]
  simpa[hs2,Value.cells]using h
 clear hE hA hnE hnA
 go_enter Try.func51,Try.ntmps51
 go_upto_region 2 with fail
 obtain⟨w2,hw2⟩:∃w2,w2=w.alloc (.cells #[.int .u8 x.kind,.slice AA nA ac,.slice EA nE ec] 54):=⟨_,rfl⟩
 rw[←hw2]
 have z2:w2.heap.size=w.heap.size+1:=by rw[hw2];simp
 have hb2:Below w.heap.size w w2:=by rw[hw2];exact below_new _ _
 have T2:w2.heap[w.heap.size]? =some (.cells #[.int .u8 x.kind,.slice AA nA ac,.slice EA nE ec] 54 (0,0)):=by rw[hw2];exact heap_alloc_new _ _
 clear hw2
 have ho4:Only (fun _=>False) w2 (w2.alloc (.cells (Array.replicate nE (Value.int .i64 0)) 3)):=Only.of_below (below_new _ _)
 have T3:(w2.alloc (.cells (Array.replicate nE (Value.int .i64 0)) 3)).heap[w.heap.size+1]? =some (.cells (Array.replicate nE (Value.int .i64 0)) 3 (0,0)):=by rw[←z2];exact heap_alloc_new _ _
 generalize w2.alloc (.cells (Array.replicate nE (Value.int .i64 0)) 3)=w4 at ho4 T3⊢
 have HB4:=hid (ho4.below (B:=w.heap.size) (fun _ e=>e.elim) hb2 hb2.size)
 have T2:=(ho4.block _ (heap_lt T2) (fun e=>e)).trans T2
 have hbs0:w.heap.size<w4.heap.size:=heap_lt T2
 have hbg0:w.heap.size+1<w4.heap.size:=heap_lt T3
 have hbne:w.heap.size≠w.heap.size+1:=by omega
 have HT2:=hid T2
 have HT3:=hid T3
 clear T2 T3 ho4 z2 hb2
 generalize hbg:w.heap.size+1=bg at hbg0 HT3 hbne⊢
 have CS:=hid (fun(u:World) (ho:Only (fun j=>j=bg) w4 u)=>((ho.block w.heap.size hbs0 (fun e=>hbne e)).trans HT2.out))
 have hbgw:w.heap.size≤bg:=by omega
 have c1:w4.cell? ⟨w.heap.size,1,none⟩=some (.slice AA nA ac):=by rw[Lib.cell_of_heap HT2.out];rfl
 have c2:w4.cell? ⟨w.heap.size,2,none⟩=some (.slice EA nE ec):=by rw[Lib.cell_of_heap HT2.out];rfl
 have HR0:Hid (Only (fun j=>j=bg) w4 w4∧w4.heap[bg]? =some (.cells (((x.edges.map (·.1)).map (Value.int .i64)).take 0++List.replicate (nE-0) (Value.int .i64 0)).toArray 3 (0,0))∧∀j (hj:j<x.edges.length),j<0→(decide (0≤x.edges[j].2) && decide (x.edges[j].2<(nst:Int)))=true):=
  hid ⟨Only.refl _ _,by rw[HT3.out];simp,fun _ _ h=>absurd h (Nat.not_lt_zero _)⟩
 clear HT2 HT3 c1
 go_wp2_with fail
 go_loopw[19] (fun i wr=>∃k:Nat,k≤nE∧i= .int .i64 k∧Hid (Only (fun j=>j=bg) w4 wr∧wr.heap[bg]? =some (.cells (((x.edges.map (·.1)).map (Value.int .i64)).take k++List.replicate (nE-k) (Value.int .i64 0)).toArray 3 (0,0))∧∀j (hj:j<x.edges.length),j<k→(decide (0≤x.edges[j].2) && decide (x.edges[j].2<(nst:Int)))=true)) (fun i _=>nE-(intOf i).toNat)
 case atStart=>exact⟨0,by omega,by simp,HR0⟩
 case round=>
  obtain⟨k,hk,rfl,hH⟩:=hrel
  clear HR0 c2
  have HO:=hid hH.out.1
  have HT:=hid hH.out.2.1
  have HALL:=hid hH.out.2.2
  clear hH
  by_cases hlt:k<nE
  ·have hkl:k<x.edges.length:=by rw[HNE.out];exact hlt
   have hbw:=HO.out.below (B:=w.heap.size) (fun j e=>by rw[e];exact hbgw) HB4.out (by omega)
   have hEr:=HE.out.below hbw
   have hp:0<x.edges.length:=by omega
   obtain⟨b,off,rfl,hb,hc⟩:=hEr.2 hp
   have e0:=hc _ _ (flat_get encLE 2 (fun _=>rfl) x.edges k hkl 0 (by omega))
   have e1:=hc _ _ (flat_get encLE 2 (fun _=>rfl) x.edges k hkl 1 (by omega))
   have hgk:((x.edges.map (·.1)).map (Value.int .i64))[k]? =some (.int .i64 x.edges[k].1):=by rw[List.getElem?_map,List.getElem?_map,List.getElem?_eq_getElem hkl];rfl
   have HBADk:=hid (fun(hbad:(decide (0≤x.edges[k].2) && decide (x.edges[k].2<(nst:Int)))=false)=>(show Drv.fineL x nst na nt=false by
    unfold Drv.fineL
    rw[show(x.edges.all fun e=>decide (0≤e.2) && decide (e.2<(nst:Int)))=false from List.all_eq_false.2 ⟨_,List.getElem_mem hkl,by rw[hbad];simp⟩]
    rfl))
   have HALLn:=hid (fun(hok:(decide (0≤x.edges[k].2) && decide (x.edges[k].2<(nst:Int)))=true)=>(show∀j (hj:j<x.edges.length),j<k+1→(decide (0≤x.edges[j].2) && decide (x.edges[j].2<(nst:Int)))=true from fun j hj hjk=>by
    rcases Nat.lt_succ_iff_lt_or_eq.1 hjk with h | rfl
    ·exact HALL.out j hj h
    ·exact hok))
   generalize hxe:x.edges[k]=ex at e0 e1 hgk HBADk HALLn
   obtain⟨et,eto⟩:=ex
   have e0:wr.cell? ⟨b,off+k*2,none⟩=some (.int .i64 et):=by simpa[encLE]using e0
   have e1:wr.cell? ⟨b,off+k*2+1,none⟩=some (.int .i64 eto):=by
    have:=e1
    rw[←Nat.add_assoc]at this
    simpa[encLE]using this
   have HGK:=hid hgk
   have hbgl:bg<wr.heap.size:=heap_lt HT.out
   have hcg:∀o:Obj,(wr.alloc o).cell? ⟨bg,k,none⟩=some (.int .i64 0):=fun o=>by
    rw[World.cell?_alloc_lt wr o _ hbgl,Lib.cell_of_heap HT.out,List.getElem?_toArray,List.getElem?_append_right (by rw[List.length_take];omega),List.getElem?_replicate,if_pos (by rw[List.length_take,List.length_map,List.length_map];omega)]
   have hfz:∀o:Obj,(wr.alloc o).frozen? ⟨bg,k,none⟩=false:=fun o=>by
    have h9:=Lib.frozen_of_heap ((below_new wr o).block bg hbgl |>.trans HT.out) k
    exact h9
   clear hxe hc hEr hbw hgk hp HALL
   go_upto_region 6 with fail
   have hss:(wr.setCell ⟨bg,k,none⟩ (.int .i64 et)).heap.size=wr.heap.size:=by simp[World.setCell]
   have ho6:Only (fun j=>j=bg) w4 ((wr.setCell ⟨bg,k,none⟩ (.int .i64 et)).alloc (.cells #[.int .i64 et,.int .i64 eto] 62)):=
    (HO.out.trans (Only.of_set wr bg k (.int .i64 et)) fun _ _ e=>e).trans (Only.of_below (S:=fun _=>False) (below_new _ _)) fun _ _ e=>e.elim
   have T11:((wr.setCell ⟨bg,k,none⟩ (.int .i64 et)).alloc (.cells #[.int .i64 et,.int .i64 eto] 62)).heap[wr.heap.size]? =some (.cells #[.int .i64 et,.int .i64 eto] 62 (0,0)):=by rw[←hss];exact heap_alloc_new _ _
   have TB:((wr.setCell ⟨bg,k,none⟩ (.int .i64 et)).alloc (.cells #[.int .i64 et,.int .i64 eto] 62)).heap[bg]? =some (.cells (((x.edges.map (·.1)).map (Value.int .i64)).take (k+1)++List.replicate (nE-(k+1)) (Value.int .i64 0)).toArray 3 (0,0)):=by
    rw[Below.heap_alloc _ _ _ (by rw[hss];exact hbgl),heap_setCell_same wr bg k _ _ _ HT.out,by_set _ nE k (by rw[List.length_map,List.length_map,HNE.out]) hlt _ _ HGK.out]
   generalize (wr.setCell ⟨bg,k,none⟩ (.int .i64 et)).alloc (.cells #[.int .i64 et,.int .i64 eto] 62)=w6 at ho6 T11 TB⊢
   generalize wr.heap.size=g11 at T11⊢
   have t1:w6.cell? ⟨g11,1,none⟩=some (.int .i64 eto):=by rw[Lib.cell_of_heap T11];rfl
   have HO6:=hid ho6
   have HTB:=hid TB
   clear hss ho6 TB T11 HO HT hcg hfz HGK e0 e1 hbgl
   have HBF:=hid (HO6.out.below (B:=w.heap.size) (fun j e=>by rw[e];exact hbgw) HB4.out (by omega))
   by_cases h0:eto<0
   ·have g1:decide (eto<0)=true:=by simpa using h0
    go_wp2_with fail
    go_ret
    exact⟨ret_bool (HBADk.out (by rw[show decide (0≤eto)=false by rw[decide_eq_false_iff_not];omega];rfl)).symm,HBF.out⟩
   ·have g1:decide (eto<0)=false:=by simpa using h0
    by_cases h9:(nst:Int)≤eto
    ·have g2:decide ((nst:Int)≤eto)=true:=by simpa using h9
     go_wp2_with fail
     go_ret
     exact⟨ret_bool (HBADk.out (by rw[show decide (eto<(nst:Int))=false by rw[decide_eq_false_iff_not];omega];simp)).symm,HBF.out⟩
    ·have g2:decide ((nst:Int)≤eto)=false:=by simpa using h9
     have HN:=hid (HALLn.out (by simp only;rw[show decide (0≤eto)=true by rw[decide_eq_true_eq];omega,show decide (eto<(nst:Int))=true by rw[decide_eq_true_eq];omega];rfl))
     go_wp2_with fail
     go_roundw
     case rel=>exact⟨k+1,by omega,by go_num,hid ⟨HO6.out,HTB.out,HN.out⟩⟩
     case measure=>simp[intOf];omega
  ·have hkn:k=nE:=by omega
   subst hkn
   have hT:=HT.out
   rw[Nat.sub_self,List.replicate_zero,List.append_nil,List.take_of_length_le (by rw[List.length_map,List.length_map,HNE.out];omega)]at hT
   have HBF:=hid (HO.out.below (B:=w.heap.size) (fun j e=>by rw[e];exact hbgw) HB4.out (by omega))
   have HFN:Hid (Drv.fineL x nst na nt=(Drv.risingL na 0 x.alts && Drv.risingL nt (-1) (x.edges.map (·.1)) && Drv.kindL x)):=hid (by
    unfold Drv.fineL
    rw[show(x.edges.all fun e=>decide (0≤e.2) && decide (e.2<(nst:Int)))=true from List.all_eq_true.2 fun e he=>by
     obtain⟨j,hj,rfl⟩:=List.mem_iff_getElem.1 he
     exact HALL.out j hj (by rw[←HNE.out];exact hj)]
    rfl)
   have T2:=CS.out wr HO.out
   have k0:wr.cell? ⟨w.heap.size,0,none⟩=some (.int .u8 x.kind):=by rw[Lib.cell_of_heap T2];rfl
   have k1:wr.cell? ⟨w.heap.size,1,none⟩=some (.slice AA nA ac):=by rw[Lib.cell_of_heap T2];rfl
   have R1:=rising_any AA ac w.heap.size x.alts 0 na wr (by rw[HNA.out];omega) (by decide) (by omega) (HA.out.below HBF.out)
   have R2:=rising_any (some ⟨bg,0,none⟩) k (bg+1) (x.edges.map (·.1)) (-1) nt wr (by rw[List.length_map,HNE.out];omega) (by decide) (by omega) ⟨by simp,fun _=>⟨bg,0,rfl,Nat.lt_succ_self _,fun j u hu=>by rw[Nat.zero_add,Lib.cell_of_heap hT];simpa using hu⟩⟩
   rw[HNA.out]at R1
   rw[List.length_map,HNE.out]at R2
   generalize Drv.risingL na 0 x.alts=v1 at R1 HFN
   generalize Drv.risingL nt (-1) (x.edges.map (·.1))=v2 at R2 HFN
   have R1:=hid R1
   have R2:=hid R2
   clear HALL HO HT T2 hT
   go_wp2_with fail
   refine R1.out.mono ?_
   rintro e w' ⟨rfl,rfl⟩
   dsimp only
   cases v1 with
   | false=>
    have HF:Hid (Drv.fineL x nst na nt=false):=hid (by rw[HFN.out];rfl)
    go_wp2_with fail
    go_ret
    exact⟨ret_bool HF.out.symm,HBF.out⟩
   | true=>
    go_wp2_with fail
    refine R2.out.mono ?_
    rintro e w' ⟨rfl,rfl⟩
    dsimp only
    cases v2 with
    | false=>
     have HF:Hid (Drv.fineL x nst na nt=false):=hid (by rw[HFN.out];rfl)
     go_wp2_with fail
     go_ret
     exact⟨ret_bool HF.out.symm,HBF.out⟩
    | true=>
     have HF:Hid (Drv.fineL x nst na nt=Drv.kindL x):=hid (by rw[HFN.out];rfl)
     have hkl:Drv.kindL x=(if x.kind=0 then nA==0 else if x.kind=1 then nA==1 && k==0 else if x.kind=3 then decide (1<nA) && k==0 else x.kind==2 && nA==0 && k==0):=by
      unfold Drv.kindL
      rw[HNA.out,HNE.out]
     have HFK:Hid (Drv.fineL x nst na nt=(if x.kind=0 then nA==0 else if x.kind=1 then nA==1 && k==0 else if x.kind=3 then decide (1<nA) && k==0 else x.kind==2 && nA==0 && k==0)):=hid (by rw[HF.out,hkl])
     clear hkl HF
     generalize x.kind=xk at k0 HFK⊢
     have hks:xk=0∨xk=1∨xk=3∨xk=2∨((xk==0)=false∧(xk==1)=false∧(xk==3)=false∧(xk==2)=false∧¬xk=0∧¬xk=1∧¬xk=3):=by
      simp only[beq_eq_false_iff_ne,ne_eq]
      omega
     have hna:nA=0∨nA=1∨(((nA:Int)==0)=false∧((nA:Int)==1)=false∧decide ((1:Int)<(nA:Int))=true∧(nA==0)=false∧(nA==1)=false∧decide (1<nA)=true):=by
      simp only[beq_eq_false_iff_ne,ne_eq,decide_eq_true_eq]
      omega
     have hke:k=0∨(((k:Int)==0)=false∧(k==0)=false):=by
      simp only[beq_eq_false_iff_ne,ne_eq]
      omega
     rcases hks with rfl | rfl | rfl | rfl | ⟨a1,a2,a3,a4,a5,a6,a7⟩ <;> rcases hna with rfl | rfl | ⟨b1,b2,b3,b4,b5,b6⟩ <;> rcases hke with rfl | ⟨d1,d2⟩
     all_goals
      have HFL:=HFK.out
      simp (config:={decide:=true}) only[*,if_true,if_false,Bool.and_false,Bool.true_and,Bool.false_and]at HFL
      have HFL:=hid HFL
      clear HFK
      go_wp2_with fail
      go_ret
      exact⟨ret_bool HFL.out.symm,HBF.out⟩
def AutS (a:List Drv.LSt):Prop:=a.length≤1000000∧∀s∈a,s.alts.length≤1000000∧s.edges.length≤1000000
set_option maxHeartbeats 1600000 in
theorem mayA1_any (w:World) (x:Drv.LSt) (AA EA:Option Addr) (ac ec nst b1 b2 b3:Nat) (na nt:Int) (hA:Reads w w.heap.size 1 AA x.alts.length (x.alts.map (Value.int .i64))) (hE:Reads w w.heap.size 2 EA x.edges.length (flat encLE x.edges))
 (h1:x.alts.length≤1000000) (h2:x.edges.length≤1000000) (h4:na≤1000000) (h5:nt≤1000000) (l1:b1<w.heap.size) (l2:b2<w.heap.size) (l3:b3<w.heap.size)
 (c1:w.cell? ⟨b1,0,none⟩=some (.int .i64 nst)) (c2:w.cell? ⟨b2,0,none⟩=some (.int .i64 na)) (c3:w.cell? ⟨b3,0,none⟩=some (.int .i64 nt)):
 Calls Try.prog 50 #[.agg #[.int .u8 x.kind,.slice AA x.alts.length ac,.slice EA x.edges.length ec],.pointer (some ⟨b1,0,none⟩),.pointer (some ⟨b2,0,none⟩),.pointer (some ⟨b3,0,none⟩)] w fun e w'=>e= .returned (.bool (!(Drv.fineL x nst na nt)))∧Below w.heap.size w w':=by
 have hb:=below_new w (.cells #[.int .u8 x.kind,.slice AA x.alts.length ac,.slice EA x.edges.length ec] 54)
 have hF:=fine_any (w.alloc (.cells #[.int .u8 x.kind,.slice AA x.alts.length ac,.slice EA x.edges.length ec] 54)) x AA EA ac ec nst na nt ((hA.below hb).more hb.size) ((hE.below hb).more hb.size) h1 h2 h4 h5
 have e1:=(hb.cell (p:=⟨b1,0,none⟩) l1).trans c1
 have e2:=(hb.cell (p:=⟨b2,0,none⟩) l2).trans c2
 have e3:=(hb.cell (p:=⟨b3,0,none⟩) l3).trans c3
 generalize Drv.fineL x nst na nt=v at hF⊢
 have HF:=hid hF
 clear hF c1 c2 c3 hA hE
 go_enter Try.func50,Try.ntmps50
 go_wp2_with fail
 refine HF.out.mono ?_
 rintro e w' ⟨rfl,hb2⟩
 dsimp only
 have HB:=hid (hb.trans (hb2.mono hb.size))
 clear hb hb2
 go_wp2
 go_ret
 exact⟨rfl,HB.out⟩
end Go.Proofs.Ytgflanlniejflaa
namespace Go.Proofs.Ytgflanlniejflaa
open Go.RowKit
set_option maxRecDepth 100000
set_option maxHeartbeats 3200000 in
theorem autoMay_any (w:World) (a:List Drv.LSt) (A:Option Addr) (c:Nat) (na nt:Int) (h:AutR w w.heap.size A a) (hs:AutS a) (h4:na≤1000000) (h5:nt≤1000000):
 Calls Try.prog 28 #[.agg #[.slice A a.length c],.int .i64 na,.int .i64 nt] w fun e w'=>e= .returned (.bool (Drv.mayAuto a na nt))∧Below w.heap.size w w':=by
 obtain⟨n,hn⟩:∃n,a.length=n:=⟨_,rfl⟩
 have H:=hid h
 have HS:=hid hs
 have l1:=hs.1
 rw[hn]at l1⊢
 have HN:=hid hn
 clear h hs hn
 obtain⟨w1,hw1⟩:∃w1,w1=w.alloc (.cells #[.slice A n c] 50):=⟨_,rfl⟩
 obtain⟨w2,hw2⟩:∃w2,w2=w1.alloc (.cells #[.int .i64 na] 3):=⟨_,rfl⟩
 obtain⟨w3,hw3⟩:∃w3,w3=w2.alloc (.cells #[.int .i64 nt] 3):=⟨_,rfl⟩
 obtain⟨w4,hw4⟩:∃w4,w4=w3.alloc (.cells #[.int .i64 (n:Int)] 3):=⟨_,rfl⟩
 have HW:=hid (show(((w.alloc (.cells #[.slice A n c] 50)).alloc (.cells #[.int .i64 na] 3)).alloc (.cells #[.int .i64 nt] 3)).alloc (.cells #[.int .i64 (n:Int)] 3)=w4 by rw[hw4,hw3,hw2,hw1])
 have z1:w1.heap.size=w.heap.size+1:=by rw[hw1];simp
 have z2:w2.heap.size=w.heap.size+1+1:=by rw[hw2];simp[z1]
 have z3:w3.heap.size=w.heap.size+1+1+1:=by rw[hw3];simp[z2]
 have b1:Below w.heap.size w w1:=by rw[hw1];exact below_new _ _
 have b2:Below w.heap.size w w2:=by rw[hw2];exact b1.alloc (by omega) _
 have b3:Below w.heap.size w w3:=by rw[hw3];exact b2.alloc (by omega) _
 have b4:Below w.heap.size w w4:=by rw[hw4];exact b3.alloc (by omega) _
 have T1:w4.heap[w.heap.size]? =some (.cells #[.slice A n c] 50 (0,0)):=by
  rw[hw4,Below.heap_alloc _ _ _ (by omega),hw3,Below.heap_alloc _ _ _ (by omega),hw2,Below.heap_alloc _ _ _ (by omega),hw1];exact heap_alloc_new _ _
 have T2:w4.heap[w.heap.size+1]? =some (.cells #[.int .i64 na] 3 (0,0)):=by
  rw[hw4,Below.heap_alloc _ _ _ (by omega),hw3,Below.heap_alloc _ _ _ (by omega),hw2,←z1];exact heap_alloc_new _ _
 have T3:w4.heap[w.heap.size+1+1]? =some (.cells #[.int .i64 nt] 3 (0,0)):=by
  rw[hw4,Below.heap_alloc _ _ _ (by omega),hw3,←z2];exact heap_alloc_new _ _
 have T4:w4.heap[w.heap.size+1+1+1]? =some (.cells #[.int .i64 (n:Int)] 3 (0,0)):=by
  rw[hw4,←z3];exact heap_alloc_new _ _
 have c1:w4.cell? ⟨w.heap.size,0,none⟩=some (.slice A n c):=by rw[Lib.cell_of_heap T1];rfl
 have c2:w4.cell? ⟨w.heap.size+1,0,none⟩=some (.int .i64 na):=by rw[Lib.cell_of_heap T2];rfl
 have c3:w4.cell? ⟨w.heap.size+1+1,0,none⟩=some (.int .i64 nt):=by rw[Lib.cell_of_heap T3];rfl
 have c4:w4.cell? ⟨w.heap.size+1+1+1,0,none⟩=some (.int .i64 (n:Int)):=by rw[Lib.cell_of_heap T4];rfl
 have l1w:=heap_lt T1
 have l2w:=heap_lt T2
 have l3w:=heap_lt T3
 have l4w:=heap_lt T4
 have HB4:=hid b4
 have HAS:=hid (H.out.below b4)
 clear hw1 hw2 hw3 hw4 b1 b2 b3 b4 T1 T2 T3 T4 z1 z2 z3
 go_enter Try.func28,Try.ntmps28
 go_upto_region 2 with fail
 rw[HW.out]
 clear HW
 generalize hg4:w.heap.size+1+1+1=g4 at c4 l4w⊢
 generalize hg3:w.heap.size+1+1=g3 at c3 l3w⊢
 generalize hg2:w.heap.size+1=g2 at c2 l2w⊢
 by_cases hn1:n<1
 ·have g1:decide ((n:Int)<1)=true:=by rw[decide_eq_true_eq];omega
  have HF:Hid (Drv.mayAuto a na nt=false):=hid (by
   unfold Drv.mayAuto
   rw[HN.out,show decide (1≤n)=false by rw[decide_eq_false_iff_not];omega]
   rfl)
  clear hn1
  go_wp2_with fail
  go_ret
  exact⟨ret_bool HF.out.symm,HB4.out⟩
 ·have g1:decide ((n:Int)<1)=false:=by rw[decide_eq_false_iff_not];omega
  by_cases hn2:4096<n
  ·have q2:decide ((4096:Int)<(n:Int))=true:=by rw[decide_eq_true_eq];omega
   have HF:Hid (Drv.mayAuto a na nt=false):=hid (by
    unfold Drv.mayAuto
    rw[HN.out,show decide (n≤4096)=false by rw[decide_eq_false_iff_not];omega]
    simp)
   clear hn1 hn2
   go_wp2_with fail
   go_ret
   exact⟨ret_bool HF.out.symm,HB4.out⟩
  ·have q2:decide ((4096:Int)<(n:Int))=false:=by rw[decide_eq_false_iff_not];omega
   have HFA:Hid (Drv.mayAuto a na nt=a.all fun s=>Drv.fineL s n na nt):=hid (by
    unfold Drv.mayAuto
    rw[HN.out,show decide (n≤4096)=true by rw[decide_eq_true_eq];omega,show decide (1≤n)=true by rw[decide_eq_true_eq];omega]
    rfl)
   obtain⟨vs,hr,hst⟩:=HAS.out
   have HST:=hid hst
   have hC:=containsLS_any 50 #[.pointer (some ⟨g4,0,none⟩),.pointer (some ⟨g2,0,none⟩),.pointer (some ⟨g3,0,none⟩)] (fun s:Drv.LSt=>!(Drv.fineL s n na nt)) (fun _ _=>by kernel_rfl) A c w.heap.size a vs w4 (by rw[HN.out];omega) HB4.out.size hr
    (fun wr i x0 x1 x2 hi q0 q1 q2 hb=>by
     obtain⟨AA,ac,EA,ec,e0,e1,e2,r0,r1⟩:=HST.out i hi
     rw[e0]at q0;rw[e1]at q1;rw[e2]at q2
     injection q0 with q0;injection q1 with q1;injection q2 with q2
     subst q0 q1 q2
     have hsz:=HS.out.2 _ (List.getElem_mem hi)
     have hbw:=HB4.out.trans (hb.mono HB4.out.size)
     have hbb:Below w.heap.size w4 wr:=hb.mono HB4.out.size
     exact mayA1_any wr a[i] AA EA ac ec n g4 g2 g3 na nt ((r0.below hbb).more hbw.size) ((r1.below hbb).more hbw.size) hsz.1 hsz.2 h4 h5 (Nat.lt_of_lt_of_le l4w hb.size) (Nat.lt_of_lt_of_le l2w hb.size) (Nat.lt_of_lt_of_le l3w hb.size)
      ((hb.cell (p:=⟨g4,0,none⟩) l4w).trans c4) ((hb.cell (p:=⟨g2,0,none⟩) l2w).trans c2) ((hb.cell (p:=⟨g3,0,none⟩) l3w).trans c3))
   rw[HN.out]at hC
   generalize hv:(a.any fun s:Drv.LSt=>!(Drv.fineL s n na nt))=v at hC
   have HV:Hid (Drv.mayAuto a na nt= !v):=hid (by rw[HFA.out,←hv,List.not_any_eq_all_not];simp)
   have HC:=hid hC
   clear hC hv hn1 hn2 hr hst
   go_wp2_with fail
   refine HC.out.mono ?_
   rintro e w5 ⟨rfl,hb5⟩
   have HB5:=hid (HB4.out.trans (hb5.mono HB4.out.size))
   clear hb5
   dsimp only
   go_wp2
   go_ret
   exact⟨ret_bool HV.out.symm,HB5.out⟩
end Go.Proofs.Ytgflanlniejflaa
