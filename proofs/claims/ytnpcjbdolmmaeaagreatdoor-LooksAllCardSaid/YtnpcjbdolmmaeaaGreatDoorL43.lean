/-
  Looks: the automata of all decisions (looks.All, harbingerref15.All): the walks.
-/
import Derived.Test.YtnpcjbdolmmaeaaGreatDoorL39
namespace Go.Proofs.YtnpcjbdolmmaeaaGreatDoor
open Go.RowKit Go.Maps
set_option maxRecDepth 100000
namespace Cf
noncomputable def allTo (n:Drv.NNet) (b bu tk:Int):Nat→Option (List (List Drv.LSt))
 | 0=>some []
 | k+1=>match allTo n b bu tk k with
  | none=>none
  | some l=>match autoQ n (k:Int) b bu tk with
   | none=>none
   | some a=>some (l++ [a])
theorem allTo_none {n:Drv.NNet}{b bu tk:Int}{i:Nat}(h:autoQ n (i:Int) b bu tk=none):∀m,i<m→allTo n b bu tk m=none
 | 0,hm=>absurd hm (Nat.not_lt_zero _)
 | m+1,hm=>by
  unfold allTo
  rcases Nat.lt_or_ge i m with h1 | h1
  ·rw[allTo_none h m h1]
  ·obtain rfl:i=m:=by omega
   cases allTo n b bu tk i with
   | none=>rfl
   | some l=>simp only;rw[h]
theorem allTo_next {n:Drv.NNet}{b bu tk:Int}{i:Nat}{l:List (List Drv.LSt)}{a:List Drv.LSt}(h:allTo n b bu tk i=some l) (ha:autoQ n (i:Int) b bu tk=some a):allTo n b bu tk (i+1)=some (l++ [a]):=by
 unfold allTo
 rw[h]
 simp only
 rw[ha]
theorem allTo_len {n:Drv.NNet}{b bu tk:Int}:∀{i:Nat}{l:List (List Drv.LSt)},allTo n b bu tk i=some l→l.length=i
 | 0,l,h=>by unfold allTo at h;injection h with h;rw[←h];rfl
 | i+1,l,h=>by
  unfold allTo at h
  split at h
  ·cases h
  ·next l' h'=>
   split at h
   ·cases h
   ·injection h with h
    rw[←h,List.length_append,allTo_len h'];rfl
end Cf
def AusV (w:World) (B:Nat) (ls:List (List Drv.LSt)) (vs:List Value):Prop:=∀k (hk:k<ls.length),∃A,vs[k]? =some (.slice A ls[k].length ls[k].length)∧AutIn w B A ls[k]∧ls[k].length≤4096
def AusVR (w:World) (B:Nat) (ls:List (List Drv.LSt)) (vs:List Value):Prop:=∀k (hk:k<ls.length),∃A c,vs[k]? =some (.slice A ls[k].length c)∧AutR w B A c ls[k]∧Cf.AutS ls[k]
theorem AutIn.other {w w':World}{B x:Nat}{A:Option Addr}{l:List Drv.LSt}{cs:Array Value}{T:TypeId}(h:AutIn w B A l) (hx:w.heap[x]? =some (.cells cs T (0,0))) (h0:69≠T) (h1:3≠T) (h2:71≠T) (ho:Only (fun k=>k=x) w w'):AutIn w' B A l:=by
 obtain⟨vs,E,h3,h4⟩:=h
 exact⟨vs,E,ownC_only h3 ho (fun k hk e=>ownC_not h3 hx h0 (by rw[←e];exact hk)),h4.other hx h1 h2 ho⟩
theorem AutR.only {w w':World}{B c:Nat}{A:Option Addr}{l:List Drv.LSt}{S:Nat→Prop}(h:AutR w B A c l) (ho:Only S w w') (hS:∀k,S k→∃cs T,w.heap[k]? =some (.cells cs T (0,0))∧T≠119∧T≠3∧T≠121):AutR w' B A c l:=by
 obtain⟨vs,E,h3,h4⟩:=h
 refine⟨vs,E,ownC_only h3 ho (fun k hk e=>?_),h4.only ho (fun k e=>?_) (Nat.le_refl _)⟩
 ·obtain⟨cs,T,h5,h6,_⟩:=hS k e
  exact ownC_not h3 h5 (fun e=>h6 e.symm) hk
 ·obtain⟨cs,T,h5,_,h6,h7⟩:=hS k e
  exact⟨notC h5 h6,.inr (notC h5 h7)⟩
theorem AutIn.base {w:World}{B B':Nat}{A:Option Addr}{l:List Drv.LSt}(h:AutIn w B A l) (hB:B'≤B):AutIn w B' A l:=by
 obtain⟨vs,E,h3,h4⟩:=h
 exact⟨vs,E,h3.base hB,h4.base hB⟩
theorem AutR.base {w:World}{B B' c:Nat}{A:Option Addr}{l:List Drv.LSt}(h:AutR w B A c l) (hB:B'≤B):AutR w B' A c l:=by
 obtain⟨vs,E,h3,h4⟩:=h
 exact⟨vs,E,h3.base hB,h4.base hB⟩
theorem AusV.map {w w':World}{B B':Nat}{ls:List (List Drv.LSt)}{vs vs':List Value}(h:AusV w B ls vs) (hm:∀A l,AutIn w B A l→AutIn w' B' A l) (hv:∀k,k<ls.length→vs'[k]? =vs[k]?):AusV w' B' ls vs':=fun k hk=>by
 obtain⟨A,h1,h2,h3⟩:=h k hk
 exact⟨A,by rw[hv k hk];exact h1,hm _ _ h2,h3⟩
theorem AusV.snoc {w:World}{B:Nat}{ls:List (List Drv.LSt)}{l:List Drv.LSt}{vs:List Value}{A:Option Addr}(h:AusV w B ls vs) (hv:vs[ls.length]? =some (.slice A l.length l.length)) (ha:AutIn w B A l) (hl:l.length≤4096):AusV w B (ls++ [l]) vs:=fun k hk=>by
 rcases Nat.lt_or_ge k ls.length with h1 | h1
 ·rw[List.getElem_append_left h1]
  exact h k h1
 ·obtain rfl:k=ls.length:=by rw[List.length_append]at hk;simp at hk;omega
  rw[List.getElem_append_right (Nat.le_refl _)]
  simp only[Nat.sub_self,List.getElem_cons_zero]
  exact⟨A,hv,ha,hl⟩
theorem AusVR.map {w w':World}{B B':Nat}{ls:List (List Drv.LSt)}{vs vs':List Value}(h:AusVR w B ls vs) (hm:∀A c l,AutR w B A c l→AutR w' B' A c l) (hv:∀k,k<ls.length→vs'[k]? =vs[k]?):AusVR w' B' ls vs':=fun k hk=>by
 obtain⟨A,c,h1,h2,h3⟩:=h k hk
 exact⟨A,c,by rw[hv k hk];exact h1,hm _ _ _ h2,h3⟩
theorem AusVR.snoc {w:World}{B c:Nat}{ls:List (List Drv.LSt)}{l:List Drv.LSt}{vs:List Value}{A:Option Addr}(h:AusVR w B ls vs) (hv:vs[ls.length]? =some (.slice A l.length c)) (ha:AutR w B A c l) (hl:Cf.AutS l):AusVR w B (ls++ [l]) vs:=fun k hk=>by
 rcases Nat.lt_or_ge k ls.length with h1 | h1
 ·rw[List.getElem_append_left h1]
  exact h k h1
 ·obtain rfl:k=ls.length:=by rw[List.length_append]at hk;simp at hk;omega
  rw[List.getElem_append_right (Nat.le_refl _)]
  simp only[Nat.sub_self,List.getElem_cons_zero]
  exact⟨A,c,hv,ha,hl⟩
def AllP (n:Drv.NNet) (b bu tk:Int) (w:World) (e:Ending) (w':World):Prop:=
 Below w.heap.size w w'∧match Cf.allTo n b bu tk n.decs.length with
 | none=>e= .returned (.tuple #[.slice none 0 0,.int .i64 1])
 | some ls=>∃R vs,e= .returned (.tuple #[.slice (some ⟨R,0,none⟩) ls.length ls.length,.int .i64 0])∧w.heap.size≤R∧w'.heap[R]? =some (.cells vs.toArray 57 (0,0))∧AusV w' w.heap.size ls vs
def RAllP (n:Drv.NNet) (b bu tk:Int) (w:World) (e:Ending) (w':World):Prop:=
 Below w.heap.size w w'∧match Cf.allTo n b bu tk n.decs.length with
 | none=>e= .returned (.tuple #[.slice none 0 0,.int .i64 1])
 | some ls=>∃A c vs,e= .returned (.tuple #[.slice A ls.length c,.int .i64 0])∧OwnC w' w.heap.size 62 1 (.slice A ls.length c) ls.length vs∧AusVR w' w.heap.size ls vs
theorem infoLA:(Tryz.prog.info? 57).map (fun i=>(i.zero,i.size,i.bytes))=some (some (.agg #[.slice none 0 0]),1,24):=by kernel_rfl
theorem infoRA:(Tryz.prog.info? 62).map (fun i=>(i.zero,i.size,i.bytes))=some (some (.agg #[.slice none 0 0]),1,24):=by kernel_rfl
theorem made_auto (n:Nat):madeCells #[Value.slice none 0 0] n=(List.replicate n (Value.slice none 0 0)).toArray:=by
 apply Array.ext
 ·simp[madeCells]
 ·intro i h1 h2
  simp[madeCells,Nat.mod_one]
theorem mkAutos (n:Nat) (hn:n≤1000000) (u:World):(Instr.makeSlice 74 (.int .i64 (n:Int)) (.int .i64 (n:Int))).run Tryz.prog u=
 .ok (.slice (some ⟨u.heap.size,0,none⟩) n n) (u.alloc (.cells (List.replicate n (Value.slice none 0 0)).toArray 57)):=by
 obtain⟨i2,hi2,hz2,hs2,hy2⟩:=info_of infoLA
 have h:=run_make (P:=Tryz.prog) u 74 57 i2 (.agg #[.slice none 0 0]) Tryz.underlying74 hi2 hz2 .i64 .i64 (n:Int) (n:Int) (by omega) (Int.le_refl _) (by rw[hy2];omega) (by omega)
 have e:(n:Int).toNat=n:=by omega
 rw[e]at h
 rw[←made_auto]
 simpa[hs2,Value.cells]using h
set_option maxHeartbeats 8000000 in
theorem all_any (n:Drv.NNet) (b bu tk:Int) (SA TA UA QA DA:Option Addr) (sc tc uc qc dc:Nat) (w:World) (h:NetR w w.heap.size SA TA UA QA DA n) (hs:NetS n) (hf:Cf.fewN n) (hT:PT w):
 Calls Tryz.prog 24 #[netAgg SA TA UA QA DA sc tc uc qc dc n,.int .i64 b,.int .i64 bu,.int .i64 tk] w (AllP n b bu tk w):=by
 obtain⟨w1,hw1⟩:∃w1,Hid (w.alloc (.cells #[.slice SA n.states.length sc,.slice TA n.starts.length tc,.slice UA n.stops.length uc,.slice QA n.preds.length qc,.slice DA n.decs.length dc] 25)=w1):=⟨_,hid rfl⟩
 have hb1:Below w.heap.size w w1:=by rw[←hw1.out];exact below_new _ _
 have h1:w1.heap[w.heap.size]? =some (.cells #[.slice SA n.states.length sc,.slice TA n.starts.length tc,.slice UA n.stops.length uc,.slice QA n.preds.length qc,.slice DA n.decs.length dc] 25 (0,0)):=by rw[←hw1.out];exact heap_alloc_new _ _
 have hd7:n.decs.length≤700:=hf.2.2.2.2.1
 obtain⟨dn,hdn⟩:∃dn,n.decs.length=dn:=⟨_,rfl⟩
 obtain⟨w2,hw2⟩:∃w2,Hid (w1.alloc (.cells (List.replicate dn (Value.slice none 0 0)).toArray 57)=w2):=⟨_,hid rfl⟩
 have hb12:Below w1.heap.size w1 w2:=by rw[←hw2.out];exact below_new _ _
 have h2:w2.heap[w1.heap.size]? =some (.cells (List.replicate dn (Value.slice none 0 0)).toArray 57 (0,0)):=by rw[←hw2.out];exact heap_alloc_new _ _
 have hb2:=hb1.trans (hb12.mono hb1.size)
 have HN:=hid h
 have HS:=hid hs
 have HF:=hid hf
 have HT:=hid hT
 have HB2:=hid hb2
 have HH1:=hid ((hb12.block _ (heap_lt h1)).trans h1)
 have HH2:=hid h2
 have HDN:=hid hdn
 have n4:w1.cell? ⟨w.heap.size,4,none⟩=some (.slice DA dn dc):=by rw[Lib.cell_of_heap h1,←hdn];rfl
 rw[hdn]at hd7
 have hmk:=mkAutos dn (by omega)
 have hl1:=heap_lt h1
 have hl2:=heap_lt h2
 clear h hs hf hT hb1 hb12 hb2 h1 h2 hdn
 unfold netAgg
 go_enter Tryz.func24,Tryz.ntmps24
 go_upto_region 1 with fail
 rw[hw1.out]
 go_upto_region 2 with fail
 rw[←List.toArray_replicate,hw2.out]
 clear hw1 hw2 hmk n4
 go_wp2_with fail
 go_loopw[11,20] (fun _ iv wr=>∃(i:Nat) (ls:List (List Drv.LSt)) (vs:List Value),i≤dn∧iv= .int .i64 (i:Int)∧Hid (Cf.allTo n b bu tk i=some ls∧wr.heap[w1.heap.size]? =some (.cells vs.toArray 57 (0,0))∧vs.length=dn∧AusV wr w.heap.size ls vs∧Only (fun k=>k=w1.heap.size) w2 wr)) (fun _ iv _=>dn-(intOf iv).toNat)
 case atStart=>exact⟨0,[],_,Nat.zero_le _,rfl,hid ⟨rfl,HH2.out,List.length_replicate,fun k hk=>absurd hk (Nat.not_lt_zero _),Only.refl _ _⟩⟩
 case round=>
  obtain⟨i,ls,vs,hi,rfl,HI⟩:=hrel
  have hwi:IntKind.i64.wrap ((i:Int)+1)=(i:Int)+1:=w64 (by omega) (by omega)
  have hbx:=(HI.out.2.2.2.2.block w.heap.size (heap_lt HH1.out) (by omega)).trans HH1.out
  have HBW:=hid (HB2.out.trans (HI.out.2.2.2.2.below' (B:=w.heap.size) (fun k e=>by omega) HB2.out.size))
  have hszw:=HBW.out.size
  have hlr:=heap_lt HI.out.2.1
  by_cases hlt:i<dn
  ·have hltI:(i:Int)<(dn:Int):=by omega
   have hbu:=build_all n (i:Int) b bu tk SA TA UA QA DA sc tc uc qc dc wr (show NetR wr wr.heap.size SA TA UA QA DA n from⟨(HN.out.below HBW.out).sts.more hszw,(HN.out.below HBW.out).starts.more hszw,(HN.out.below HBW.out).stops.more hszw,(HN.out.below HBW.out).preds.more hszw,(HN.out.below HBW.out).decs.more hszw⟩) HS.out HF.out (Lib.tabBelow_of_tabIs HT.out wr HBW.out)
   unfold netAgg at hbu
   have HBU:=hid hbu
   have n0:wr.cell? ⟨w.heap.size,0,none⟩=some (.slice SA n.states.length sc):=by rw[Lib.cell_of_heap hbx];rfl
   have n1:wr.cell? ⟨w.heap.size,1,none⟩=some (.slice TA n.starts.length tc):=by rw[Lib.cell_of_heap hbx];rfl
   have n2:wr.cell? ⟨w.heap.size,2,none⟩=some (.slice UA n.stops.length uc):=by rw[Lib.cell_of_heap hbx];rfl
   have n3:wr.cell? ⟨w.heap.size,3,none⟩=some (.slice QA n.preds.length qc):=by rw[Lib.cell_of_heap hbx];rfl
   have n4:wr.cell? ⟨w.heap.size,4,none⟩=some (.slice DA n.decs.length dc):=by rw[Lib.cell_of_heap hbx];rfl
   clear hbu hbx
   go_wp2_with fail
   go_at_call 21
   refine HBU.out.mono ?_
   clear n0 n1 n2 n3 n4
   rintro _ w3 (⟨hq,rfl,hb3⟩ | ⟨l,A,hq,rfl,hau,hln,hb3⟩)
   ·have HFIN:Hid (AllP n b bu tk w (.returned (.tuple #[.slice none 0 0,.int .i64 1])) (w3.alloc (.cells #[.slice none 0 0] 57))):=hid ⟨HBW.out.trans ((hb3.trans ((below_new w3 _).mono hb3.size)).mono hszw),by rw[Cf.allTo_none hq _ (by rw[HDN.out];exact hlt)]⟩
    clear hb3 hq
    go_wp2_with fail
    go_ret2
    exact HFIN.out
   ·have hby:=below_new w3 (.cells #[.slice A l.length l.length] 57)
    have h4:=heap_alloc_new w3 (.cells #[.slice A l.length l.length] 57)
    obtain⟨w4,hw4⟩:∃w4,Hid (w3.alloc (.cells #[.slice A l.length l.length] 57)=w4):=⟨_,hid rfl⟩
    rw[hw4.out]at hby h4
    have hb4:=hb3.trans (hby.mono hb3.size)
    have hR:=(hb4.block _ hlr).trans HI.out.2.1
    have a0:w4.cell? ⟨w3.heap.size,0,none⟩=some (.slice A l.length l.length):=by rw[Lib.cell_of_heap h4];rfl
    obtain⟨ov,hov⟩:∃ov,vs[i]? =some ov:=⟨_,List.getElem?_eq_getElem (by rw[HI.out.2.2.1];exact hlt)⟩
    have ri:w4.cell? ⟨w1.heap.size,i,none⟩=some ov:=by rw[Lib.cell_of_heap hR];simpa using hov
    have rz:w4.frozen? ⟨w1.heap.size,i,none⟩=false:=Lib.frozen_of_heap hR i
    have HB4:=hid hb4
    have HAU:=hid (hau.below hby)
    have HRR:=hid hR
    have HQ:=hid hq
    have HLN:=hid hln
    clear hby h4 hb4 hR hov hau hb3 hq hln
    go_upto_region 6 with fail
    rw[hw4.out]
    clear hw4
    go_wp2_with fail
    go_roundw
    case rel=>
     have ho:=Only.of_set w4 w1.heap.size i (.slice A l.length l.length)
     have hset:=heap_setCell_same w4 w1.heap.size i _ _ (.slice A l.length l.length) HRR.out
     have hll:=Cf.allTo_len HI.out.1
     have hmp:∀A' l',AutIn w4 w.heap.size A' l'→AutIn (w4.setCell ⟨w1.heap.size,i,none⟩ (.slice A l.length l.length)) w.heap.size A' l':=fun A' l' h'=>h'.other HRR.out (by decide) (by decide) (by decide) ho
     refine⟨i+1,ls++ [l],vs.set i (.slice A l.length l.length),hlt,by go_num,hid ⟨Cf.allTo_next HI.out.1 HQ.out,by rw[hset];simp,by rw[List.length_set];exact HI.out.2.2.1,?_,(HI.out.2.2.2.2.trans (Only.of_below (S:=fun k=>k=w1.heap.size) HB4.out) fun _ _ e=>e).trans ho fun _ _ e=>e⟩⟩
     refine AusV.snoc (AusV.map HI.out.2.2.2.1 (fun A' l' h'=>hmp A' l' (h'.below HB4.out)) fun k hk=>?_) ?_ (hmp _ _ (HAU.out.base hszw)) HLN.out
     ·rw[List.getElem?_set_ne (by omega)]
     ·rw[hll,List.getElem?_set_self (by rw[HI.out.2.2.1];exact hlt)]
    case measure=>simp only[intOf];omega
  ·have hie:i=dn:=by omega
   subst hie
   have hll:=Cf.allTo_len HI.out.1
   have HFIN:Hid (AllP n b bu tk w (.returned (.tuple #[.slice (some ⟨w1.heap.size,0,none⟩) i i,.int .i64 0])) wr):=hid ⟨HBW.out,by
    rw[HDN.out,HI.out.1]
    exact⟨w1.heap.size,vs,by rw[hll],by omega,HI.out.2.1,HI.out.2.2.2.1⟩⟩
   clear hbx hll hlt
   go_wp2_with fail
   go_ret2
   exact HFIN.out
set_option maxHeartbeats 8000000 in
theorem rall_any (n:Drv.NNet) (b bu tk:Int) (SA TA UA QA DA:Option Addr) (sc tc uc qc dc:Nat) (w:World) (h:NetRf w w.heap.size SA TA UA QA DA n) (hs:NetS n) (hf:Cf.fewN n) (hT:PT w):
 Calls Tryz.prog 25 #[netAgg SA TA UA QA DA sc tc uc qc dc n,.int .i64 b,.int .i64 bu,.int .i64 tk] w (RAllP n b bu tk w):=by
 obtain⟨w1,hw1⟩:∃w1,Hid (w.alloc (.cells #[.slice SA n.states.length sc,.slice TA n.starts.length tc,.slice UA n.stops.length uc,.slice QA n.preds.length qc,.slice DA n.decs.length dc] 38)=w1):=⟨_,hid rfl⟩
 have hb1:Below w.heap.size w w1:=by rw[←hw1.out];exact below_new _ _
 have h1:w1.heap[w.heap.size]? =some (.cells #[.slice SA n.states.length sc,.slice TA n.starts.length tc,.slice UA n.stops.length uc,.slice QA n.preds.length qc,.slice DA n.decs.length dc] 38 (0,0)):=by rw[←hw1.out];exact heap_alloc_new _ _
 have hd7:n.decs.length≤700:=hf.2.2.2.2.1
 obtain⟨dn,hdn⟩:∃dn,n.decs.length=dn:=⟨_,rfl⟩
 have HN:=hid h
 have HS:=hid hs
 have HF:=hid hf
 have HT:=hid hT
 have HB1:=hid hb1
 have HH1:=hid h1
 have HDN:=hid hdn
 rw[hdn]at hd7
 have hl1:=heap_lt h1
 clear h hs hf hT hb1 h1 hdn
 unfold netAgg
 go_enter Tryz.func25,Tryz.ntmps25
 go_upto_region 1 with fail
 rw[hw1.out]
 clear hw1
 go_wp2_with fail
 go_loopw[10,11] (fun ov iv wr=>∃(i:Nat) (u:Value) (ls:List (List Drv.LSt)) (vs:List Value),u=ov∧i≤dn∧iv= .int .i64 (i:Int)∧Hid (Cf.allTo n b bu tk i=some ls∧wr.ownsRow w1.heap.size 62 1 u i vs∧AusVR wr w.heap.size ls vs∧Below w1.heap.size w1 wr)) (fun _ iv _=>dn-(intOf iv).toNat)
 case atStart=>exact⟨0,_,[],[],rfl,Nat.zero_le _,rfl,hid ⟨rfl,World.ownsRow_nil _ _ _ _,fun k hk=>absurd hk (Nat.not_lt_zero _),Below.refl _ _⟩⟩
 case round=>
  obtain⟨i,u,ls,vs,rfl,hi,rfl,HI⟩:=hrel
  have hwi:IntKind.i64.wrap ((i:Int)+1)=(i:Int)+1:=w64 (by omega) (by omega)
  have hbx:=(HI.out.2.2.2.block w.heap.size hl1).trans HH1.out
  have HBW:=hid (HB1.out.trans (HI.out.2.2.2.mono HB1.out.size))
  have hszw:=HBW.out.size
  have hszr:=HI.out.2.2.2.size
  have n4:wr.cell? ⟨w.heap.size,4,none⟩=some (.slice DA dn dc):=by rw[Lib.cell_of_heap hbx,←HDN.out];rfl
  obtain⟨AV,avc,rfl⟩:=row_form HI.out.2.1
  by_cases hlt:i<dn
  ·have hltI:(i:Int)<(dn:Int):=by omega
   have hbu:=rbuild_all n (i:Int) b bu tk SA TA UA QA DA sc tc uc qc dc wr (show NetRf wr wr.heap.size SA TA UA QA DA n from⟨stsRf_more (HN.out.below HBW.out).sts hszw,(HN.out.below HBW.out).starts.more hszw,(HN.out.below HBW.out).stops.more hszw,(HN.out.below HBW.out).preds.more hszw,(HN.out.below HBW.out).decs.more hszw⟩) HS.out HF.out (Lib.tabBelow_of_tabIs HT.out wr HBW.out)
   unfold netAgg at hbu
   rw[HDN.out]at hbu
   have HBU:=hid hbu
   have n0:wr.cell? ⟨w.heap.size,0,none⟩=some (.slice SA n.states.length sc):=by rw[Lib.cell_of_heap hbx];rfl
   have n1:wr.cell? ⟨w.heap.size,1,none⟩=some (.slice TA n.starts.length tc):=by rw[Lib.cell_of_heap hbx];rfl
   have n2:wr.cell? ⟨w.heap.size,2,none⟩=some (.slice UA n.stops.length uc):=by rw[Lib.cell_of_heap hbx];rfl
   have n3:wr.cell? ⟨w.heap.size,3,none⟩=some (.slice QA n.preds.length qc):=by rw[Lib.cell_of_heap hbx];rfl
   clear hbu hbx
   go_wp2_with fail
   go_at_call 22
   refine HBU.out.mono ?_
   clear n0 n1 n2 n3 n4
   rintro _ w3 (⟨hq,rfl,hb3⟩ | ⟨l,A,c,hq,rfl,hau,hln,hsm,hb3⟩)
   ·have HFIN:Hid (RAllP n b bu tk w (.returned (.tuple #[.slice none 0 0,.int .i64 1])) (w3.alloc (.cells #[.slice none 0 0] 62))):=hid ⟨HBW.out.trans ((hb3.trans ((below_new w3 _).mono hb3.size)).mono hszw),by rw[Cf.allTo_none hq _ (by rw[HDN.out];exact hlt)]⟩
    clear hb3 hq
    go_wp2_with fail
    go_ret2
    exact HFIN.out
   ·have hby:=below_new w3 (.cells #[.slice A l.length c] 62)
    have h4:=heap_alloc_new w3 (.cells #[.slice A l.length c] 62)
    obtain⟨w4,hw4⟩:∃w4,Hid (w3.alloc (.cells #[.slice A l.length c] 62)=w4):=⟨_,hid rfl⟩
    rw[hw4.out]at hby h4
    have hb4:=hb3.trans (hby.mono hb3.size)
    have a0:w4.cell? ⟨w3.heap.size,0,none⟩=some (.slice A l.length c):=by rw[Lib.cell_of_heap h4];rfl
    have hrow:=ownsRow_below HI.out.2.1 hb4 (Nat.le_refl _)
    have HROW:=hid hrow
    have HB4:=hid hb4
    have HAU:=hid (hau.below hby)
    have HQ:=hid hq
    have HSM:=hid hsm
    have hsz4:=hb4.size
    have hbase:w1.heap.size≤w4.heap.size:=by omega
    obtain⟨iA,hiA,hzA,hsA,hyA⟩:=info_of infoRA
    clear hby h4 hb4 hau hb3 hq hln hsm
    go_upto_region 6 with fail
    rw[hw4.out]
    clear hw4
    go_wp2_with (at_builtin;refine wpList_push4 w4 rfl _ _ 77 rfl w1.heap.size 62 iA _ 1 24 Tryz.underlying77 hiA hzA hsA hyA rfl (by omega) (.slice AV i avc) i vs rfl hrow [.slice A l.length c] 1 w4.heap.size rfl rfl rfl (by simp[Value.oneCell']) Nat.zero_lt_one (by simp only[maxLen];omega) (by omega) hbase ?_;intro g7 c7 w7 hown7 hg7 ho7)
    go_roundw
    case rel=>
     have hll:=Cf.allTo_len HI.out.1
     have hlv:vs.length=i:=by have:=HROW.out.1;omega
     have hmp:∀A' c' l',AutR w4 w.heap.size A' c' l'→AutR w7 w.heap.size A' c' l':=fun A' c' l' h'=>h'.only ho7 fun k e=>by
      obtain⟨cs,e1⟩:=own_type HROW.out e
      exact⟨cs,_,e1,by decide,by decide,by decide⟩
     refine⟨i+1,_,ls++ [l],vs++ [.slice A l.length c],rfl,hlt,by go_num,hid ⟨Cf.allTo_next HI.out.1 HQ.out,hown7,?_,(HI.out.2.2.2.trans (HB4.out.mono hszr)).trans (ho7.below' (fun k e=>(HROW.out.lt k e).1) hbase)⟩⟩
     refine AusVR.snoc (AusVR.map HI.out.2.2.1 (fun A' c' l' h'=>hmp A' c' l' (h'.below HB4.out)) fun k hk=>?_) ?_ (hmp _ _ _ (HAU.out.base hszw)) HSM.out
     ·rw[List.getElem?_append_left (by omega)]
     ·rw[hll,List.getElem?_append_right (by omega),hlv];simp
    case measure=>simp only[intOf];omega
  ·have hie:i=dn:=by omega
   subst hie
   have hll:=Cf.allTo_len HI.out.1
   have HFIN:Hid (RAllP n b bu tk w (.returned (.tuple #[.slice AV i avc,.int .i64 0])) wr):=hid ⟨HBW.out,by
    rw[HDN.out,HI.out.1]
    exact⟨AV,avc,vs,by rw[hll],by rw[hll];exact OwnC.base (OwnC.of HI.out.2.1) (by omega),HI.out.2.2.1⟩⟩
   clear hbx hll hlt
   go_wp2_with fail
   go_ret2
   exact HFIN.out
end Go.Proofs.YtnpcjbdolmmaeaaGreatDoor
