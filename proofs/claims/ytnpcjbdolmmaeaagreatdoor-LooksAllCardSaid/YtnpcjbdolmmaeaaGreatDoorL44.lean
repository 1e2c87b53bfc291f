/-
  LooksAll: the statement's walk. Printed by gen_lkaa.py.
-/
import Derived.Deep.CutRange
import Derived.Test.YtnpcjbdolmmaeaaGreatDoorL06
import Derived.Test.YtnpcjbdolmmaeaaGreatDoorL31
import Derived.Test.YtnpcjbdolmmaeaaGreatDoorL43
namespace Go.Proofs.YtnpcjbdolmmaeaaGreatDoor
open Go.RowKit Go.Maps Go.Sort
set_option maxRecDepth 100000
def BothA (q:Option (List (List Drv.LSt))) (x y:Value) (en:Int) (w6 w8:World) (B1 B2:Nat):Prop:=match q with
 | none=>x= .slice none 0 0∧y= .slice none 0 0∧en=1
 | some ls=>en=0∧(∃R vs,x= .slice (some ⟨R,0,none⟩) ls.length ls.length∧w6.heap[R]? =some (.cells vs.toArray 57 (0,0))∧AusV w6 B1 ls vs)∧∃A c vs,y= .slice A ls.length c∧OwnC w8 B2 62 1 (.slice A ls.length c) ls.length vs∧AusVR w8 B2 ls vs
set_option maxHeartbeats 16000000 in
theorem looksa_any (w:World) (n:Drv.NNet) (SA TA UA QA DA:Option Addr) (sc tc uc qc dc:Nat) (z0 z1 z2:Int) (h:NetR w w.heap.size SA TA UA QA DA n)
 (hS:n.states.length≤100000000000000) (hT:n.starts.length≤100000000000000) (hU:n.stops.length≤100000000000000) (hQ:n.preds.length≤100000000000000) (hD:n.decs.length≤100000000000000)
 (hs:∀s∈n.states,s.edges.length≤100000000000000∧s.ends.length≤100000000000000) (hkd:∀s∈n.states,∀e∈s.edges,0≤e.kind∧e.kind≤255) (hPT:PT w):
 Calls Tryz.prog 5 #[netAgg SA TA UA QA DA sc tc uc qc dc n,.agg #[.int .i64 z0,.int .i64 z1,.int .i64 z2]] w fun e w'=>e= .returned (.bool true)∧Below w.heap.size w w':=by
 have z1':(w.alloc (.cells #[.slice SA n.states.length sc,.slice TA n.starts.length tc,.slice UA n.stops.length uc,.slice QA n.preds.length qc,.slice DA n.decs.length dc] 25)).heap.size=w.heap.size+1:=by simp
 obtain⟨w1,hw1⟩:∃w1,Hid ((w.alloc (.cells #[.slice SA n.states.length sc,.slice TA n.starts.length tc,.slice UA n.stops.length uc,.slice QA n.preds.length qc,.slice DA n.decs.length dc] 25)).alloc (.cells #[.int .i64 z0,.int .i64 z1,.int .i64 z2] 73)=w1):=⟨_,hid rfl⟩
 have hb1:Below w.heap.size w w1:=by rw[←hw1.out];exact(below_new _ _).alloc (by omega) _
 have h0:w1.heap[w.heap.size]? =some (.cells #[.slice SA n.states.length sc,.slice TA n.starts.length tc,.slice UA n.stops.length uc,.slice QA n.preds.length qc,.slice DA n.decs.length dc] 25 (0,0)):=by
  rw[←hw1.out,Below.heap_alloc _ _ _ (by omega)];exact heap_alloc_new _ _
 have h1:w1.heap[w.heap.size+1]? =some (.cells #[.int .i64 z0,.int .i64 z1,.int .i64 z2] 73 (0,0)):=by rw[←hw1.out,←z1'];exact heap_alloc_new _ _
 have HNT:=hid (fun(u:World) (hb:Below w.heap.size w u)=>(show NetR u u.heap.size SA TA UA QA DA n from⟨(h.below hb).sts.more hb.size,(h.below hb).starts.more hb.size,(h.below hb).stops.more hb.size,(h.below hb).preds.more hb.size,(h.below hb).decs.more hb.size⟩))
 have HG:=hid (netGreat_any w1 n SA TA UA QA DA sc tc uc qc dc (HNT.out w1 hb1) hS hT hU hQ hD hs)
 have HKD:=hid hkd
 have HPT:=hid hPT
 have HB1:=hid hb1
 have HC0:=hid (fun(u:World) (hb:Below w1.heap.size w1 u)=>(show _ from cells5L ((hb.block _ (heap_lt h0)).trans h0)))
 have HC1:=hid (fun(u:World) (hb:Below w1.heap.size w1 u)=>(show _ from cells3 ((hb.block _ (heap_lt h1)).trans h1)))
 have HLV:=hid (fun(u:World) (hb:Below w.heap.size w u)=>lives15_any u (Lib.tabBelow_of_tabIs hPT u hb))
 obtain⟨q,hq⟩:∃q,Cf.greatC n=q:=⟨_,rfl⟩
 rw[hq]at HG
 have HQ:=hid hq
 obtain⟨n0,n1,n2,n3,n4⟩:=HC0.out w1 (Below.refl _ _)
 obtain⟨m0,m1,m2⟩:=HC1.out w1 (Below.refl _ _)
 have hl1:=heap_lt h1
 clear h hS hT hU hQ hs hkd hPT hb1 h0 h1 hq z1'
 unfold netAgg at HG⊢
 go_enter Tryz.func5,Tryz.ntmps5
 go_upto_region 1 with fail
 rw[hw1.out]
 clear hw1
 go_cut[35]from 10 to 34 (fun o wx=>∃cc:Bool,o= .bool cc∧Hid (cc=false→q=false∧n.decs.length≤12)∧Hid (Below w1.heap.size w1 wx))
 case first=>
  have HSM:=hid (fun(u:World)=>small_any z1 z2 u)
  obtain⟨sm,hsm⟩:∃sm,(decide (z1≤60) && decide (z2≤8))=sm:=⟨_,rfl⟩
  rw[hsm]at HSM
  clear hsm
  cases q with
  | true=>
   go_wp2_with fail
   go_at_call 6
   refine HG.out.mono ?_
   rintro _ w2 ⟨rfl,hb2⟩
   have HB2:=hid hb2
   clear hb2 n0 n1 n2 n3 n4 m0 m1 m2
   go_wp2_with fail
   go_meet
   exact⟨true,rfl,hid (fun e=>by cases e),HB2⟩
  | false=>
   go_wp2_with fail
   go_at_call 6
   refine HG.out.mono ?_
   rintro _ w2 ⟨rfl,hb2⟩
   have HB2:=hid hb2
   clear n0 n1 n2 n3 n4 m0 m1 m2
   obtain⟨m0,m1,m2⟩:=HC1.out w2 hb2
   clear hb2
   go_wp2_with fail
   go_at_call 19
   refine(HSM.out w2).mono ?_
   rintro _ w2 ⟨rfl,rfl⟩
   cases sm with
   | true=>
    obtain⟨b3,hb3⟩:∃b3,decide ((12:Int)<(n.decs.length:Int))=b3:=⟨_,rfl⟩
    have hb3':decide (12<n.decs.length)=b3:=by rw[←hb3];exact decide_eq_decide.2 (by omega)
    have H12:=hid (show b3=false→n.decs.length≤12 from fun e=>by rw[e]at hb3';have:=of_decide_eq_false hb3';omega)
    obtain⟨n0,n1,n2,n3,n4⟩:=HC0.out w2 HB2.out
    cases b3 with
    | false=>
     go_wp2_with fail
     go_meet
     exact⟨false,rfl,hid (by simpa using H12.out),HB2⟩
    | true=>
     go_wp2_with fail
     go_meet
     exact⟨true,rfl,hid (fun e=>by cases e),HB2⟩
   | false=>
    obtain⟨b1,hb1⟩:∃b1,decide (z1≤4096)=b1:=⟨_,rfl⟩
    obtain⟨b2,hb2⟩:∃b2,decide (z2≤64)=b2:=⟨_,rfl⟩
    cases b1 with
    | false=>
     obtain⟨b3,hb3⟩:∃b3,decide ((12:Int)<(n.decs.length:Int))=b3:=⟨_,rfl⟩
     have hb3':decide (12<n.decs.length)=b3:=by rw[←hb3];exact decide_eq_decide.2 (by omega)
     have H12:=hid (show b3=false→n.decs.length≤12 from fun e=>by rw[e]at hb3';have:=of_decide_eq_false hb3';omega)
     obtain⟨n0,n1,n2,n3,n4⟩:=HC0.out w2 HB2.out
     cases b3 with
     | false=>
      go_wp2_with fail
      go_meet
      exact⟨false,rfl,hid (by simpa using H12.out),HB2⟩
     | true=>
      go_wp2_with fail
      go_meet
      exact⟨true,rfl,hid (fun e=>by cases e),HB2⟩
    | true=>
     cases b2 with
     | false=>
      obtain⟨b3,hb3⟩:∃b3,decide ((12:Int)<(n.decs.length:Int))=b3:=⟨_,rfl⟩
      have hb3':decide (12<n.decs.length)=b3:=by rw[←hb3];exact decide_eq_decide.2 (by omega)
      have H12:=hid (show b3=false→n.decs.length≤12 from fun e=>by rw[e]at hb3';have:=of_decide_eq_false hb3';omega)
      obtain⟨n0,n1,n2,n3,n4⟩:=HC0.out w2 HB2.out
      cases b3 with
      | false=>
       go_wp2_with fail
       go_meet
       exact⟨false,rfl,hid (by simpa using H12.out),HB2⟩
      | true=>
       go_wp2_with fail
       go_meet
       exact⟨true,rfl,hid (fun e=>by cases e),HB2⟩
     | true=>
      go_wp2_with fail
      go_meet
      exact⟨true,rfl,hid (fun e=>by cases e),HB2⟩
 case rest=>
  rename World=>wx
  obtain⟨cc,rfl,HCC,HX⟩:=hcut
  have HBX:=hid (HB1.out.trans (HX.out.mono HB1.out.size))
  clear n0 n1 n2 n3 n4 m0 m1 m2
  cases cc with
  | true=>
   go_wp2_with fail
   go_at_call 20
   refine(HLV.out wx HBX.out).mono ?_
   rintro _ w3 ⟨rfl,hb3⟩
   go_wp2
   go_ret
   exact⟨rfl,HBX.out.trans (hb3.mono HBX.out.size)⟩
  | false=>
   have HF:=hid (Cf.greatC_small (HQ.out.trans (HCC.out rfl).1))
   have hd12:=(HCC.out rfl).2
   clear HCC HG HQ hD
   have NS:=hid (nets_of HF.out fun s hs e he=>(HKD.out s hs e he).1)
   obtain⟨n0,n1,n2,n3,n4⟩:=HC0.out wx HX.out
   obtain⟨m0,m1,m2⟩:=HC1.out wx HX.out
   have hal:=all_any n z0 z1 z2 SA TA UA QA DA sc tc uc qc dc wx (HNT.out wx HBX.out) NS.out HF.out (Lib.tabBelow_of_tabIs HPT.out wx HBX.out)
   unfold netAgg at hal
   have HAL:=hid hal
   clear hal
   go_wp2_with fail
   go_at_call 24
   refine HAL.out.mono ?_
   clear n0 n1 n2 n3 n4 m0 m1 m2
   intro e6 w6 hP6
   have hb6:=hP6.1
   obtain⟨x6,en,he6,HP6⟩:∃(x6:Value) (en:Int),e6= .returned (.tuple #[x6,.int .i64 en])∧Hid (match Cf.allTo n z0 z1 z2 n.decs.length with
    | none=>x6= .slice none 0 0∧en=1
    | some ls=>en=0∧∃R vs,x6= .slice (some ⟨R,0,none⟩) ls.length ls.length∧w6.heap[R]? =some (.cells vs.toArray 57 (0,0))∧AusV w6 wx.heap.size ls vs):=by
    have h9:=hP6.2
    cases hq:Cf.allTo n z0 z1 z2 n.decs.length with
    | none=>rw[hq]at h9;exact⟨_,1,h9,hid ⟨rfl,rfl⟩⟩
    | some ls=>
     rw[hq]at h9
     obtain⟨R,vs,h1,h2,h3,h4⟩:=h9
     exact⟨_,0,h1,hid ⟨rfl,R,vs,rfl,h3,h4⟩⟩
   subst he6
   have HB6:=hid hb6
   have HX6:=hid (HX.out.trans (hb6.mono HX.out.size))
   clear hP6 hb6
   go_upto_region 4 with fail
   obtain⟨ws,hws⟩:∃ws,Hid (w6.drew=ws):=⟨_,hid rfl⟩
   have hbs:Below w6.heap.size w6 ws:=by rw[←hws.out];exact(Below.refl _ _).drew
   have HXS:=hid (HX6.out.trans (hbs.mono HX6.out.size))
   have HBS:=hid (HB1.out.trans (HXS.out.mono HB1.out.size))
   have HB6S:=hid hbs
   have HST:=hid (fun(uu:World) (hb:Below ws.heap.size ws uu)=>(show uu.cell? ⟨w.heap.size,0,none⟩=some (.slice SA n.states.length sc)∧uu.cell? ⟨w.heap.size,1,none⟩=some (.slice TA n.starts.length tc)∧uu.cell? ⟨w.heap.size,2,none⟩=some (.slice UA n.stops.length uc)∧uu.cell? ⟨w.heap.size,3,none⟩=some (.slice QA n.preds.length qc)∧uu.cell? ⟨w.heap.size,4,none⟩=some (.slice DA n.decs.length dc)∧uu.cell? ⟨w.heap.size+1,0,none⟩=some (.int .i64 z0)∧uu.cell? ⟨w.heap.size+1,1,none⟩=some (.int .i64 z1)∧uu.cell? ⟨w.heap.size+1,2,none⟩=some (.int .i64 z2)from by
    obtain⟨c0,c1,c2,c3,c4⟩:=HC0.out uu (HXS.out.trans (hb.mono HXS.out.size))
    obtain⟨c5,c6,c7⟩:=HC1.out uu (HXS.out.trans (hb.mono HXS.out.size))
    exact⟨c0,c1,c2,c3,c4,c5,c6,c7⟩))
   have hot:=netOther_any ws n SA TA UA QA DA sc tc uc qc dc (HNT.out ws HBS.out) NS.out (fun s hs e he=>(HKD.out s hs e he).2)
   unfold netAgg at hot
   have HOT:=hid hot
   clear hbs hot
   refine wp_region_late (l:=14) (S:=fun w'=>w'.cell? ⟨w.heap.size,0,none⟩=some (.slice SA n.states.length sc)∧w'.cell? ⟨w.heap.size,1,none⟩=some (.slice TA n.starts.length tc)∧w'.cell? ⟨w.heap.size,2,none⟩=some (.slice UA n.stops.length uc)∧w'.cell? ⟨w.heap.size,3,none⟩=some (.slice QA n.preds.length qc)∧w'.cell? ⟨w.heap.size,4,none⟩=some (.slice DA n.decs.length dc)∧w'.cell? ⟨w.heap.size+1,0,none⟩=some (.int .i64 z0)∧w'.cell? ⟨w.heap.size+1,1,none⟩=some (.int .i64 z1)∧w'.cell? ⟨w.heap.size+1,2,none⟩=some (.int .i64 z2)) (by kernel_rfl) (by rw[hws.out];exact HST.out ws (Below.refl _ _)) (fun hHeld=>?_)
   rw[hws.out]at hHeld⊢
   refine wpAnyF_take (i:=0) (.agg #[.slice SA n.states.length sc,.slice TA n.starts.length tc,.slice UA n.stops.length uc,.slice QA n.preds.length qc,.slice DA n.decs.length dc]) rfl (by kernel_rfl) (by kernel_rfl) (by kernel_rfl) (by kernel_rfl) (fun _ _ _ h=>h) hHeld (by rfl) (fun w' hSw=>?_) ?_
   ·obtain⟨c0,c1,c2,c3,c4,c5,c6,c7⟩:=hSw;go_simp
   try simp only[Act.put,List.getElem_toArray,List.getElem_cons_zero,List.setIfInBounds_toArray,List.set_cons_zero,List.set_cons_succ]
   refine wpAnyF_take (i:=2) (.pointer (some ⟨w.heap.size+1,0,none⟩)) rfl (by kernel_rfl) (by kernel_rfl) (by kernel_rfl) (by kernel_rfl) (fun _ _ _ h=>h) hHeld (by rfl) (fun w' hSw=>?_) ?_
   ·obtain⟨c0,c1,c2,c3,c4,c5,c6,c7⟩:=hSw;go_simp
   try simp only[Act.put,List.getElem_toArray,List.getElem_cons_zero,List.getElem_cons_succ,List.setIfInBounds_toArray,List.set_cons_zero,List.set_cons_succ]
   refine wpAnyF_take (i:=3) (.int .i64 z0) rfl (by kernel_rfl) (by kernel_rfl) (by kernel_rfl) (by kernel_rfl) (fun _ _ _ h=>h) hHeld (by rfl) (fun w' hSw=>?_) ?_
   ·obtain⟨c0,c1,c2,c3,c4,c5,c6,c7⟩:=hSw;go_simp
   try simp only[Act.put,List.getElem_toArray,List.getElem_cons_zero,List.getElem_cons_succ,List.setIfInBounds_toArray,List.set_cons_zero,List.set_cons_succ]
   refine wpAnyF_take (i:=4) (.pointer (some ⟨w.heap.size+1,1,none⟩)) rfl (by kernel_rfl) (by kernel_rfl) (by kernel_rfl) (by kernel_rfl) (fun _ _ _ h=>h) hHeld (by rfl) (fun w' hSw=>?_) ?_
   ·obtain⟨c0,c1,c2,c3,c4,c5,c6,c7⟩:=hSw;go_simp
   try simp only[Act.put,List.getElem_toArray,List.getElem_cons_zero,List.getElem_cons_succ,List.setIfInBounds_toArray,List.set_cons_zero,List.set_cons_succ]
   refine wpAnyF_take (i:=5) (.int .i64 z1) rfl (by kernel_rfl) (by kernel_rfl) (by kernel_rfl) (by kernel_rfl) (fun _ _ _ h=>h) hHeld (by rfl) (fun w' hSw=>?_) ?_
   ·obtain⟨c0,c1,c2,c3,c4,c5,c6,c7⟩:=hSw;go_simp
   try simp only[Act.put,List.getElem_toArray,List.getElem_cons_zero,List.getElem_cons_succ,List.setIfInBounds_toArray,List.set_cons_zero,List.set_cons_succ]
   refine wpAnyF_take (i:=6) (.pointer (some ⟨w.heap.size+1,2,none⟩)) rfl (by kernel_rfl) (by kernel_rfl) (by kernel_rfl) (by kernel_rfl) (fun _ _ _ h=>h) hHeld (by rfl) (fun w' hSw=>?_) ?_
   ·obtain⟨c0,c1,c2,c3,c4,c5,c6,c7⟩:=hSw;go_simp
   try simp only[Act.put,List.getElem_toArray,List.getElem_cons_zero,List.getElem_cons_succ,List.setIfInBounds_toArray,List.set_cons_zero,List.set_cons_succ]
   refine wpAnyF_take (i:=7) (.int .i64 z2) rfl (by kernel_rfl) (by kernel_rfl) (by kernel_rfl) (by kernel_rfl) (fun _ _ _ h=>h) hHeld (by rfl) (fun w' hSw=>?_) ?_
   ·obtain⟨c0,c1,c2,c3,c4,c5,c6,c7⟩:=hSw;go_simp
   try simp only[Act.put,List.getElem_toArray,List.getElem_cons_zero,List.getElem_cons_succ,List.setIfInBounds_toArray,List.set_cons_zero,List.set_cons_succ]
   refine wpAnyF_step 1 (by kernel_rfl) rfl (fun K hK=>?_)
   go_simp
   go_at_call 10
   refine HOT.out.mono ?_
   rintro _ w7 ⟨OA,oc,rfl,hb7,hRf⟩
   have hrl:=rall_any n z0 z1 z2 OA TA UA QA DA oc tc uc qc dc w7 hRf NS.out HF.out (Lib.tabBelow_of_tabIs HPT.out w7 (HBS.out.trans (hb7.mono HBS.out.size)))
   unfold netAgg at hrl⊢
   have HRL:=hid hrl
   have HB7:=hid hb7
   clear hrl hb7 hRf
   dsimp only
   refine hK _ _ (HST.out _ HB7.out) (fun hHeld=>?_)
   clear hK
   clear K
   try simp only[Act.put,List.getElem_toArray,List.getElem_cons_zero,List.getElem_cons_succ,List.setIfInBounds_toArray,List.set_cons_zero,List.set_cons_succ]
   refine wpAnyF_step 8 (by kernel_rfl) rfl (fun K hK=>?_)
   go_simp
   go_at_call 25
   refine HRL.out.mono ?_
   intro e8 w8 hP8
   have hb8:=hP8.1
   have hb78:=HB7.out.trans (hb8.mono HB7.out.size)
   obtain⟨y8,he8,HBT⟩:∃(y8:Value),e8= .returned (.tuple #[y8,.int .i64 en])∧Hid (BothA (Cf.allTo n z0 z1 z2 n.decs.length) x6 y8 en w6 w8 wx.heap.size w7.heap.size):=by
    have h9:=hP8.2
    have h6:=HP6.out
    unfold BothA
    cases hq:Cf.allTo n z0 z1 z2 n.decs.length with
    | none=>
     rw[hq]at h9 h6
     obtain⟨h61,h62⟩:=h6
     exact⟨_,by rw[h62];exact h9,hid ⟨h61,rfl,h62⟩⟩
    | some ls=>
     rw[hq]at h9 h6
     obtain⟨A,c,vs,h1,h2,h3⟩:=h9
     obtain⟨h61,h62⟩:=h6
     exact⟨_,by rw[h61];exact h1,hid ⟨h61,h62,A,c,vs,rfl,h2,h3⟩⟩
   subst he8
   have HB8:=hid hb78
   clear hP8 hb8 hb78
   dsimp only
   refine hK _ _ (HST.out _ HB8.out) (fun hHeld=>?_)
   clear hK
   clear K
   try simp only[Act.put,List.getElem_toArray,List.getElem_cons_zero,List.getElem_cons_succ,List.setIfInBounds_toArray,List.set_cons_zero,List.set_cons_succ]
   refine wpAnyF_take (i:=9) (.tuple #[y8,.int .i64 en]) rfl (by kernel_rfl) (by kernel_rfl) (by kernel_rfl) (by kernel_rfl) (fun _ _ _ h=>h) hHeld (by rfl) (fun w' hSw=>?_) ?_
   ·obtain⟨c0,c1,c2,c3,c4,c5,c6,c7⟩:=hSw;go_simp
   try simp only[Act.put,List.getElem_toArray,List.getElem_cons_zero,List.getElem_cons_succ,List.setIfInBounds_toArray,List.set_cons_zero,List.set_cons_succ]
   refine wpAnyF_take (i:=10) (y8) rfl (by kernel_rfl) (by kernel_rfl) (by kernel_rfl) (by kernel_rfl) (fun _ _ _ h=>h) hHeld (by rfl) (fun w' hSw=>?_) ?_
   ·obtain⟨c0,c1,c2,c3,c4,c5,c6,c7⟩:=hSw;go_simp
   try simp only[Act.put,List.getElem_toArray,List.getElem_cons_zero,List.getElem_cons_succ,List.setIfInBounds_toArray,List.set_cons_zero,List.set_cons_succ]
   refine wpAnyF_take (i:=11) (.int .i64 en) rfl (by kernel_rfl) (by kernel_rfl) (by kernel_rfl) (by kernel_rfl) (fun _ _ _ h=>h) hHeld (by rfl) (fun w' hSw=>?_) ?_
   ·obtain⟨c0,c1,c2,c3,c4,c5,c6,c7⟩:=hSw;go_simp
   try simp only[Act.put,List.getElem_toArray,List.getElem_cons_zero,List.getElem_cons_succ,List.setIfInBounds_toArray,List.set_cons_zero,List.set_cons_succ]
   refine wpAnyF_take (i:=12) (y8) rfl (by kernel_rfl) (by kernel_rfl) (by kernel_rfl) (by kernel_rfl) (fun _ _ _ h=>h) hHeld (by rfl) (fun w' hSw=>?_) ?_
   ·obtain⟨c0,c1,c2,c3,c4,c5,c6,c7⟩:=hSw;go_simp
   try simp only[Act.put,List.getElem_toArray,List.getElem_cons_zero,List.getElem_cons_succ,List.setIfInBounds_toArray,List.set_cons_zero,List.set_cons_succ]
   refine wpAnyF_take (i:=13) (.int .i64 en) rfl (by kernel_rfl) (by kernel_rfl) (by kernel_rfl) (by kernel_rfl) (fun _ _ _ h=>h) hHeld (by rfl) (fun w' hSw=>?_) ?_
   ·obtain⟨c0,c1,c2,c3,c4,c5,c6,c7⟩:=hSw;go_simp
   try simp only[Act.put,List.getElem_toArray,List.getElem_cons_zero,List.getElem_cons_succ,List.setIfInBounds_toArray,List.set_cons_zero,List.set_cons_succ]
   refine⟨by kernel_rfl,?_⟩
   clear hHeld
   have HBW:=hid (HBS.out.trans (HB8.out.mono HBS.out.size))
   have HB68:=hid (HB6S.out.trans (HB8.out.mono HB6S.out.size))
   have fe:(en !=en)=false:=by simp
   clear HP6 HOT HAL HRL HKD NS
   have hbt:=HBT.out
   unfold BothA at hbt
   cases hq:Cf.allTo n z0 z1 z2 n.decs.length with
   | none=>
    rw[hq]at hbt
    obtain⟨rfl,rfl,rfl⟩:=hbt
    clear hq
    go_wp2_with fail
    go_loopw[9] (fun iv wr=>iv= .int .i64 0∧Hid (wr=w8)) (fun _ _=>0)
    case atStart=>exact⟨rfl,hid rfl⟩
    case round=>
     obtain⟨rfl,hz⟩:=hrel
     have hz:=hz.out
     subst hz
     go_wp2_with fail
     go_at_call 20
     refine(HLV.out wr HBW.out).mono ?_
     rintro _ w9 ⟨rfl,hb9⟩
     go_wp2
     go_ret
     exact⟨rfl,HBW.out.trans (hb9.mono HBW.out.size)⟩
   | some ls=>
    rw[hq]at hbt
    obtain⟨rfl,⟨R,vs,rfl,hR,hV⟩,A,c,ws2,rfl,hrow,hW⟩:=hbt
    have hlen:=Cf.allTo_len hq
    obtain⟨m,hm⟩:∃m,ls.length=m:=⟨_,rfl⟩
    have HM:=hid hm
    have HR:=hid hR
    have HV:=hid hV
    have HROW:=hid hrow
    have HW:=hid hW
    rw[hm]
    have hm12:m≤12:=by omega
    clear hq hlen hR hV hrow hW hm
    go_wp2_with fail
    clear fe
    go_loopw[9] (fun iv wr=>∃k:Nat,k≤m∧iv= .int .i64 (k:Int)∧Hid (Below w8.heap.size w8 wr)) (fun iv _=>m-(intOf iv).toNat)
    case atStart=>exact⟨0,Nat.zero_le _,rfl,hid (Below.refl _ _)⟩
    case round=>
     obtain⟨k,hk,rfl,HE⟩:=hrel
     have hwk:IntKind.i64.wrap ((k:Int)+1)=(k:Int)+1:=w64 (by omega) (by omega)
     have hb6r:=HB68.out.trans (HE.out.mono HB68.out.size)
     have HFB:=hid (HBW.out.trans (HE.out.mono HBW.out.size))
     by_cases hlt:k<m
     ·have hkl:k<ls.length:=by have:=HM.out;omega
      have hltI:(k:Int)<(m:Int):=by omega
      obtain⟨A1,h1,ha1,hl1'⟩:=HV.out k hkl
      obtain⟨A2,c2,h2,ha2,hs2⟩:=HW.out k hkl
      have hRr:=(hb6r.block R (heap_lt HR.out)).trans HR.out
      have d0:wr.cell? ⟨R,k,none⟩=some (.slice A1 ls[k].length ls[k].length):=by rw[Lib.cell_of_heap hRr];simpa using h1
      obtain⟨bb,ob,rfl,hbl,hc⟩:=(HROW.out.below HE.out (Nat.le_refl _)).reads.2 (by omega)
      have e0:wr.cell? ⟨bb,ob+k,none⟩=some (.slice A2 ls[k].length c2):=hc k _ h2
      have hsm:=fun(u:World) (hb:Below wr.heap.size wr u)=>sameA_any ls[k] A1 A2 c2 _ _ u ((ha1.below hb6r).below hb) ((ha2.below HE.out).below hb) hs2 hl1'
      generalize ls[k].length=nk at d0 e0 hsm
      have ca1:∀(dd:Nat) (o:Array Obj),Calls Tryz.prog 23 #[.agg #[.slice A1 nk nk],.agg #[.slice A2 nk c2]] (grow (redrawn wr dd) o) fun e w''=>e= .returned (.bool true)∧∃p:Regrown,w''=grow (redrawn wr p.d) p.os:=fun dd o=>Calls.regrown_of (hsm _ (below_regrown wr dd o))
      have q0:=fun dd os=>cell_regrown d0 dd os
      have q1:=fun dd os=>cell_regrown e0 dd os
      clear hRr h1 h2 ha1 ha2 hs2 hl1' hc d0 e0 hsm hb6r
      go_upto_region 10 with fail
      refine wp_region_quiet_below (by kernel_rfl) (by kernel_rfl) ?_
      repeat (quiet_step (exact ca1 _ _))
      clear ca1 q0 q1
      refine wpQuiet_nil ?_
      rintro _ ⟨⟨dq,osq⟩,rfl⟩
      have hbq:=below_regrown wr dq osq
      generalize grow (redrawn wr dq) osq=wq at hbq⊢
      have HEQ:=hid (HE.out.trans (hbq.mono HE.out.size))
      clear hbq
      go_wp2_with fail
      go_roundw
      case rel=>exact⟨k+1,hlt,by go_num,HEQ⟩
      case measure=>simp[intOf];omega
     ·have hke:k=m:=by omega
      subst hke
      clear hlt hb6r
      go_wp2_with fail
      go_at_call 20
      refine(HLV.out wr HFB.out).mono ?_
      rintro _ w9 ⟨rfl,hb9⟩
      go_wp2
      go_ret
      exact⟨rfl,HFB.out.trans (hb9.mono HFB.out.size)⟩
end Go.Proofs.YtnpcjbdolmmaeaaGreatDoor
