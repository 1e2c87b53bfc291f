/-
  Drivers: Rma1, Rma (texts joined).
-/
import Derived.Test.YtgflanlniejflaaK02
import Derived.Test.YtgflanlniejflaaK22
import Derived.Test.YtgflanlniejflaaK31
import Derived.Test.YtgflanlniejflaaK39
namespace Go.Proofs.Ytgflanlniejflaa
namespace Drv
def RisK (lo most:Int) (l:List Int) (k:Nat):Prop:=∀i (h:i<l.length),i<k→lo≤l[i]∧l[i]<most∧∀(j:Nat) (hj:j<l.length),j+1=i→l[j]<l[i]
theorem RisK.zero (lo most:Int) (l:List Int):RisK lo most l 0:=fun _ _ h=>absurd h (Nat.not_lt_zero _)
theorem RisK.next {lo most:Int}{l:List Int}{k:Nat}(g:RisK lo most l k) (hk:k<l.length) (h:lo≤l[k]∧l[k]<most∧∀(j:Nat) (hj:j<l.length),j+1=k→l[j]<l[k]):RisK lo most l (k+1):=fun i hi hik=>by
 rcases Nat.lt_succ_iff_lt_or_eq.1 hik with h1 | rfl
 ·exact g i hi h1
 ·exact h
theorem risingL_iff (most:Int):∀(l:List Int) (lo:Int),risingL most lo l=true↔RisK lo most l l.length
 | [],lo=>by
  unfold risingL
  exact⟨fun _ i h=>absurd h (Nat.not_lt_zero _),fun _=>rfl⟩
 | n ::r,lo=>by
  unfold risingL
  rw[Bool.and_eq_true,Bool.and_eq_true,decide_eq_true_eq,decide_eq_true_eq,risingL_iff most r (n+1)]
  constructor
  ·rintro⟨⟨h1,h2⟩,h3⟩ i hi _
   cases i with
   | zero=>exact⟨h1,h2,fun j _ e=>by omega⟩
   | succ i=>
    have hr:i<r.length:=by simpa using hi
    obtain⟨a,b,c⟩:=h3 i hr hr
    simp only[List.getElem_cons_succ]
    refine⟨by omega,b,fun j hj e=>?_⟩
    cases j with
    | zero=>simp only[List.getElem_cons_zero];omega
    | succ j=>simp only[List.getElem_cons_succ];exact c j (by simpa using hj) (by omega)
  ·intro h
   have h0:=h 0 (by simp) (by simp)
   simp only[List.getElem_cons_zero]at h0
   refine⟨⟨h0.1,h0.2.1⟩,?_⟩
   have hlow:∀i (hi:i<r.length),n+1≤r[i]:=fun i=>by
    induction i with
    | zero=>
     intro hi
     have:=(h 1 (by simp;omega) (by simp;omega)).2.2 0 (by simp) rfl
     simp only[List.getElem_cons_succ,List.getElem_cons_zero]at this
     omega
    | succ i ih=>
     intro hi
     have h1:=ih (by omega)
     have:=(h (i+1+1) (by simp;omega) (by simp;omega)).2.2 (i+1) (by simp;omega) rfl
     simp only[List.getElem_cons_succ]at this
     omega
   intro i hi _
   obtain⟨a,b,c⟩:=h (i+1) (by simp;omega) (by simp;omega)
   simp only[List.getElem_cons_succ]at a b c
   exact⟨hlow i hi,b,fun j hj e=>by
    have:=c (j+1) (by simp;omega) (by omega)
    simpa using this⟩
structure FinA (s:LSt) (n:Nat) (alts tokens:Int):Prop where
 a:RisK 0 alts s.alts s.alts.length
 t:RisK (-1) tokens (s.edges.map (·.1)) s.edges.length
 e:∀i (h:i<s.edges.length),0≤s.edges[i].2∧s.edges[i].2<n
 k:kindL s=true
theorem fineL_iff (s:LSt) (n:Nat) (alts tokens:Int):fineL s n alts tokens=true↔FinA s n alts tokens:=by
 unfold fineL
 simp only[Bool.and_eq_true,List.all_eq_true,decide_eq_true_eq,risingL_iff]
 constructor
 ·rintro⟨⟨⟨h1,h2⟩,h3⟩,h4⟩
  exact⟨h2,by rw[List.length_map]at h3;exact h3,fun i hi=>h1 _ (List.getElem_mem hi),h4⟩
 ·rintro⟨h1,h2,h3,h4⟩
  refine⟨⟨⟨fun e he=>?_,h1⟩,by rw[List.length_map];exact h2⟩,h4⟩
  obtain⟨i,hi,rfl⟩:=List.mem_iff_getElem.1 he
  exact h3 i hi
theorem mayAuto_iff (a:List LSt) (alts tokens:Int):mayAuto a alts tokens=true↔(1≤a.length∧a.length≤4096∧∀i (h:i<a.length),FinA a[i] a.length alts tokens):=by
 unfold mayAuto
 simp only[Bool.and_eq_true,decide_eq_true_eq,List.all_eq_true,and_assoc]
 refine and_congr_right fun _=>and_congr_right fun _=>?_
 constructor
 ·exact fun h i hi=>(fineL_iff _ _ _ _).1 (h _ (List.getElem_mem hi))
 ·intro h s hs
  obtain⟨i,hi,rfl⟩:=List.mem_iff_getElem.1 hs
  exact(fineL_iff _ _ _ _).2 (h i hi)
theorem mayAuto_no {a:List LSt}{alts tokens:Int}(h:¬(1≤a.length∧a.length≤4096∧∀i (h:i<a.length),FinA a[i] a.length alts tokens)):mayAuto a alts tokens=false:=by
 cases hm:mayAuto a alts tokens with
 | false=>rfl
 | true=>exact absurd ((mayAuto_iff a alts tokens).1 hm) h
end Drv
end Go.Proofs.Ytgflanlniejflaa
namespace Go.Proofs.Ytgflanlniejflaa
open Go.RowKit Go.Maps
set_option maxRecDepth 100000
theorem rma_no {a:List Drv.LSt}{na nt:Int}{w w':World}(h:Drv.mayAuto a na nt=false) (hb:Below w.heap.size w w'):RMayP (Drv.mayAuto a na nt) w (.returned (.bool false)) w':=⟨by rw[h],hb⟩
def EdK (s:Drv.LSt) (n:Nat) (k:Nat):Prop:=∀i (h:i<s.edges.length),i<k→0≤s.edges[i].2∧s.edges[i].2<n
def FinK (a:List Drv.LSt) (na nt:Int) (k:Nat):Prop:=∀i (h:i<a.length),i<k→Drv.FinA a[i] a.length na nt
def EdO (s:Drv.LSt) (n:Nat) (nt:Int) (k:Nat) (tk tt:Int):Prop:=-1≤tk∧tk<nt∧0≤tt∧tt<n∧∀(j:Nat) (hj:j<s.edges.length),j+1=k→s.edges[j].1<tk
def EdP (s:Drv.LSt) (n:Nat) (nt:Int) (k:Nat):Prop:=Drv.RisK (-1) nt (s.edges.map (·.1)) k∧EdK s n k
theorem EdP.next {s:Drv.LSt}{n:Nat}{nt:Int}{k:Nat}(g:EdP s n nt k) (hk:k<s.edges.length) (h:EdO s n nt k s.edges[k].1 s.edges[k].2):EdP s n nt (k+1):=
 ⟨g.1.next (by simpa using hk) ⟨by simpa using h.1,by simpa using h.2.1,fun j hj e=>by simpa using h.2.2.2.2 j (by simpa using hj) e⟩,fun i hi hik=>by
  rcases Nat.lt_succ_iff_lt_or_eq.1 hik with h1 | rfl
  ·exact g.2 i hi h1
  ·exact⟨h.2.2.1,h.2.2.2.1⟩⟩
theorem edO_of {s:Drv.LSt}{n:Nat}{na nt:Int}{k:Nat}(g:Drv.FinA s n na nt) (hk:k<s.edges.length):EdO s n nt k s.edges[k].1 s.edges[k].2:=by
 obtain⟨a,b,c⟩:=g.t k (by simpa using hk) hk
 have:=g.e k hk
 exact⟨by simpa using a,by simpa using b,this.1,this.2,fun j hj e=>by
  have:=c j (by simpa using hj) e
  rw[List.getElem_map,List.getElem_map]at this
  exact this⟩
set_option maxHeartbeats 25600000 in
theorem rautMay_any (w:World) (a:List Drv.LSt) (A:Option Addr) (c:Nat) (na nt:Int) (h:AutRf w w.heap.size A a) (hs:AutS a):
 Calls Try.prog 23 #[.agg #[.slice A a.length c],.int .i64 na,.int .i64 nt] w (RMayP (Drv.mayAuto a na nt) w):=by
 obtain⟨nS,hnS⟩:∃m,a.length=m:=⟨_,rfl⟩
 have hS6:nS≤1000000:=by rw[←hnS];exact hs.1
 obtain⟨w1,hw1⟩:∃x,x=w.alloc (.cells #[.slice A nS c] 89):=⟨_,rfl⟩
 have b1:Below w.heap.size w w1:=by rw[hw1];exact below_new _ _
 have T1:w1.heap[w.heap.size]? =some (.cells #[.slice A nS c] 89 (0,0)):=by rw[hw1];exact heap_alloc_new _ _
 have HW1:=hid hw1.symm
 have HB1:=hid b1
 have H:=hid h
 have HS:=hid hs
 have hl1:=heap_lt T1
 have CN:=hid (fun(w':World) (hb:Below w1.heap.size w1 w')=>(show w'.cell? ⟨w.heap.size,0,none⟩=some (.slice A nS c)from by
  rw[Lib.cell_of_heap ((hb.block _ hl1).trans T1)];rfl))
 rw[hnS]
 have HNS:=hid hnS
 clear h hs hw1 b1 T1 hnS
 have cn0:=CN.out w1 (Below.refl _ _)
 go_enter Try.func23,Try.ntmps23
 go_upto_region 1 with fail
 rw[HW1.out]
 clear HW1
 by_cases hn1:nS<1
 ·have k1:decide ((nS:Int)<1)=true:=by rw[decide_eq_true_eq];omega
  have k2:decide (nS<1)=true:=by rw[decide_eq_true_eq];exact hn1
  have HF:=hid (rma_no (na:=na) (nt:=nt) (Drv.mayAuto_no fun g=>by have:=g.1;rw[HNS.out]at this;omega) HB1.out)
  clear hn1
  go_wp2_with fail
  go_ret
  exact HF.out
 ·have k1:decide ((nS:Int)<1)=false:=by rw[decide_eq_false_iff_not];omega
  have k2:decide (nS<1)=false:=by rw[decide_eq_false_iff_not];exact hn1
  by_cases hn2:4096<nS
  ·have k3:decide ((4096:Int)<(nS:Int))=true:=by rw[decide_eq_true_eq];omega
   have k4:decide (4096<nS)=true:=by rw[decide_eq_true_eq];exact hn2
   have HF:=hid (rma_no (na:=na) (nt:=nt) (Drv.mayAuto_no fun g=>by have:=g.2.1;rw[HNS.out]at this;omega) HB1.out)
   clear hn1 hn2
   go_wp2_with fail
   go_ret
   exact HF.out
  ·have k3:decide ((4096:Int)<(nS:Int))=false:=by rw[decide_eq_false_iff_not];omega
   have k4:decide (4096<nS)=false:=by rw[decide_eq_false_iff_not];exact hn2
   have HN12:=hid (And.intro hn1 hn2)
   clear hn1 hn2
   go_wp2_with fail
   go_loopw[8] (fun i wr=>∃k:Nat,k≤nS∧i= .int .i64 k∧Hid (Below w1.heap.size w1 wr∧FinK a na nt k)) (fun i _=>nS-(intOf i).toNat)
   case atStart=>exact⟨0,Nat.zero_le _,rfl,hid ⟨Below.refl _ _,fun _ _ h=>absurd h (Nat.not_lt_zero _)⟩⟩
   case round=>
    obtain⟨m,hm,rfl,HM⟩:=hrel
    clear k1 k2 k3 k4 cn0
    have cn0:=CN.out wr HM.out.1
    have HBW:=hid (HB1.out.trans (HM.out.1.mono HB1.out.size))
    by_cases hml:m<nS
    ·have hmI:(m:Int)<(nS:Int):=by omega
     have hma:m<a.length:=by rw[HNS.out];exact hml
     obtain⟨zb,zo,AA,ac,EA,ec,rfl,hzb,e0,e1,e2,r0,r1⟩:=(H.out.below HBW.out).at hma
     have hsz:=HS.out.2 _ (List.getElem_mem hma)
     have BAD:=hid (fun w' (hb:Below w.heap.size w w') (g:¬Drv.FinA a[m] nS na nt)=>rma_no (Drv.mayAuto_no fun g2=>g (by rw[←HNS.out];exact g2.2.2 m hma)) hb)
     have NEXT:=hid (fun(g:Drv.FinA a[m] nS na nt)=>(show FinK a na nt (m+1)from fun i hi hik=>by
      rcases Nat.lt_succ_iff_lt_or_eq.1 hik with h1 | rfl
      ·exact HM.out.2 i hi h1
      ·rw[HNS.out];exact g))
     obtain⟨s,hsx⟩:∃s,a[m]=s:=⟨_,rfl⟩
     rw[hsx]at e0 e1 e2 r0 r1 hsz BAD NEXT
     obtain⟨nA,hnA⟩:∃m,s.alts.length=m:=⟨_,rfl⟩
     obtain⟨nE,hnE⟩:∃m,s.edges.length=m:=⟨_,rfl⟩
     obtain⟨kd,hkd⟩:∃m,s.kind=m:=⟨_,rfl⟩
     rw[hkd]at e0
     rw[hnA]at e1 r0 hsz
     rw[hnE]at e2 r1 hsz
     obtain⟨hA6,hE6⟩:=hsz
     have HNA:=hid hnA
     have HNE:=hid hnE
     have HKD:=hid hkd
     have R0:=hid r0
     have R1:=hid r1
     have HM1:=hid HM.out.1
     clear hsx hnA hnE hkd r0 r1 HM
     have hwr:w.heap.size≤wr.heap.size:=HBW.out.size
     obtain⟨w2,hw2⟩:∃x,x=wr.alloc (.cells #[.int .i64 kd,.slice AA nA ac,.slice EA nE ec] 124):=⟨_,rfl⟩
     have b2:Below wr.heap.size wr w2:=by rw[hw2];exact below_new _ _
     have T2:w2.heap[wr.heap.size]? =some (.cells #[.int .i64 kd,.slice AA nA ac,.slice EA nE ec] 124 (0,0)):=by rw[hw2];exact heap_alloc_new _ _
     have HW2:=hid hw2.symm
     have HB2:=hid (HBW.out.trans (b2.mono hwr))
     have HBR2:=hid (HM1.out.trans (b2.mono HM1.out.size))
     have HBX:=hid (b2.mono hwr)
     have hg2:=heap_lt T2
     have SN:=hid (fun(w':World) (hb:Below w2.heap.size w2 w')=>(show w'.cell? ⟨wr.heap.size,0,none⟩=some (.int .i64 kd)∧w'.cell? ⟨wr.heap.size,1,none⟩=some (.slice AA nA ac)∧w'.cell? ⟨wr.heap.size,2,none⟩=some (.slice EA nE ec)from by
      have T:=(hb.block _ hg2).trans T2
      refine⟨?_,?_,?_⟩ <;> (rw[Lib.cell_of_heap T];rfl)))
     clear hw2 b2 T2
     go_upto_region 8 with fail
     rw[HW2.out]
     generalize hgg:wr.heap.size=gg at SN hg2⊢
     clear HW2 e0 e1 e2 hgg cn0
     obtain⟨s0,s1,s2⟩:=SN.out w2 (Below.refl _ _)
     go_wp2_with fail
     go_loopw[10] (fun i wq=>∃k:Nat,k≤nA∧i= .int .i64 k∧Hid (Below w2.heap.size w2 wq∧Drv.RisK 0 na s.alts k)) (fun i _=>nA-(intOf i).toNat)
     case atStart=>exact⟨0,Nat.zero_le _,rfl,hid ⟨Below.refl _ _,Drv.RisK.zero _ _ _⟩⟩
     case round=>
      rename World=>wq
      obtain⟨k,hk,rfl,HK⟩:=hrel
      clear s0 s1 s2
      have HB2Q:=hid HK.out.1
      have HBQ:=hid (HB2.out.trans (HB2Q.out.mono HB2.out.size))
      have HBXQ:=hid (HBX.out.trans (HB2Q.out.mono HB2.out.size))
      have HK:=hid HK.out.2
      obtain⟨s0,s1,s2⟩:=SN.out wq HB2Q.out
      by_cases hkl:k<nA
      ·as_aux_lemma=>
        have hkI:(k:Int)<(nA:Int):=by omega
        have hks:k<s.alts.length:=by rw[HNA.out];exact hkl
        obtain⟨xb,xo,rfl,hxb,cx⟩:=(R0.out.below HBXQ.out).2 (by omega)
        have x0:=cx k _ (by rw[List.getElem?_map,List.getElem?_eq_getElem hks];rfl)
        have BADK:=hid (fun(h:¬(0≤s.alts[k]∧s.alts[k]<na∧∀(j:Nat) (hj:j<s.alts.length),j+1=k→s.alts[j]<s.alts[k]))=>BAD.out _ HBQ.out fun g=>h (g.a k hks hks))
        have NXK:=hid (fun h=>HK.out.next hks h)
        obtain⟨xv,hxv⟩:∃v,s.alts[k]=v:=⟨_,rfl⟩
        rw[hxv]at x0 BADK NXK
        have HCX:=hid cx
        clear HK cx
        by_cases q1:xv<0
        ·have d1:decide (xv<0)=true:=by rw[decide_eq_true_eq];exact q1
         have HF:=hid (BADK.out fun g=>by omega)
         clear q1 hxv
         go_upto_region 11 with fail
         go_quiet (fail)
         have HF2:Hid (RMayP (Drv.mayAuto a na nt) w (.returned (.bool false)) (wq.drewN nq)):=hid ⟨HF.out.1,((Only.refl (fun _=>False) wq).none_drew nq).below (fun _ e=>e.elim) HBQ.out HBQ.out.size⟩
         clear x0 s0 s1 s2 HF
         generalize wq.drewN nq=w9 at HF2⊢
         go_wp2_with fail
         go_ret
         exact HF2.out
        ·have d1:decide (xv<0)=false:=by rw[decide_eq_false_iff_not];exact q1
         by_cases q2:na≤xv
         ·have d2:decide (na≤xv)=true:=by rw[decide_eq_true_eq];exact q2
          have HF:=hid (BADK.out fun g=>by omega)
          clear q1 q2 hxv
          go_upto_region 11 with fail
          go_quiet (fail)
          have HF2:Hid (RMayP (Drv.mayAuto a na nt) w (.returned (.bool false)) (wq.drewN nq)):=hid ⟨HF.out.1,((Only.refl (fun _=>False) wq).none_drew nq).below (fun _ e=>e.elim) HBQ.out HBQ.out.size⟩
          clear x0 s0 s1 s2 HF
          generalize wq.drewN nq=w9 at HF2⊢
          go_wp2_with fail
          go_ret
          exact HF2.out
         ·have d2:decide (na≤xv)=false:=by rw[decide_eq_false_iff_not];exact q2
          rcases k with _ | k
          ·have HN:=hid (NXK.out ⟨by omega,by omega,fun j hj e=>by omega⟩)
           have hk0:(0:Int)<(nA:Int):=by omega
           have hk00:0<nA:=by omega
           rw[Nat.add_zero]at x0
           clear q1 q2 hxv BADK NXK
           go_upto_region 11 with fail
           go_quiet (fail)
           have ho9:=(Only.refl (fun _=>False) wq).none_drew nq
           have HB9:=hid (ho9.below (fun _ e=>e.elim) HB2Q.out HB2Q.out.size)
           clear x0 s0 s1 s2 ho9
           generalize wq.drewN nq=w9 at HB9⊢
           go_wp2_with fail
           go_roundw
           case rel=>exact⟨1,by omega,by go_num,hid ⟨HB9.out,HN.out⟩⟩
           case measure=>simp[intOf];omega
          ·have hjs:k<s.alts.length:=by omega
           have y0:=HCX.out k _ (by rw[List.getElem?_map,List.getElem?_eq_getElem hjs];rfl)
           obtain⟨pv,hpv⟩:∃v,s.alts[k]=v:=⟨_,rfl⟩
           rw[hpv]at y0
           have ew:IntKind.i64.wrap ((k:Int)+1-1)=k:=by rw[w64 (by omega) (by omega)];omega
           have hkJ:(k:Int)+1<(nA:Int):=by omega
           have hkP:decide ((0:Int)<(k:Int)+1)=true:=by rw[decide_eq_true_eq];omega
           have hkQ:(k:Int)<(nA:Int):=by omega
           by_cases q3:xv≤pv
           ·have d3:decide (xv≤pv)=true:=by rw[decide_eq_true_eq];exact q3
            have HF:=hid (BADK.out fun g=>by have:=g.2.2 k hjs rfl;omega)
            clear q1 q2 q3 hxv hpv BADK NXK
            go_upto_region 11 with fail
            go_quiet (fail)
            have HF2:Hid (RMayP (Drv.mayAuto a na nt) w (.returned (.bool false)) (wq.drewN nq)):=hid ⟨HF.out.1,((Only.refl (fun _=>False) wq).none_drew nq).below (fun _ e=>e.elim) HBQ.out HBQ.out.size⟩
            clear x0 y0 s0 s1 s2 HF
            generalize wq.drewN nq=w9 at HF2⊢
            go_wp2_with fail
            go_ret
            exact HF2.out
           ·have d3:decide (xv≤pv)=false:=by rw[decide_eq_false_iff_not];exact q3
            have HN:=hid (NXK.out ⟨by omega,by omega,fun j hj e=>by
             obtain rfl:j=k:=by omega
             omega⟩)
            clear q1 q2 q3 hxv hpv BADK NXK
            go_upto_region 11 with fail
            go_quiet (fail)
            have ho9:=(Only.refl (fun _=>False) wq).none_drew nq
            have HB9:=hid (ho9.below (fun _ e=>e.elim) HB2Q.out HB2Q.out.size)
            clear x0 y0 s0 s1 s2 ho9
            generalize wq.drewN nq=w9 at HB9⊢
            go_wp2_with fail
            go_roundw
            case rel=>exact⟨k+1+1,by omega,by go_num,hid ⟨HB9.out,HN.out⟩⟩
            case measure=>simp[intOf];omega
      ·have hkn:nA=k:=by omega
       subst hkn
       have hkI:¬(nA:Int)<(nA:Int):=by omega
       have START:Hid (Below w2.heap.size w2 wq∧EdP s nS nt 0):=hid ⟨HB2Q.out,Drv.RisK.zero _ _ _,fun _ _ h=>absurd h (Nat.not_lt_zero _)⟩
       go_wp2_with fail
       go_loopw[11] (fun i wk=>∃k:Nat,k≤nE∧i= .int .i64 k∧Hid (Below w2.heap.size w2 wk∧EdP s nS nt k)) (fun i _=>nE-(intOf i).toNat)
       case atStart=>exact⟨0,Nat.zero_le _,rfl,START⟩
       case round=>
        rename World=>wk
        clear START
        obtain⟨k,hk,rfl,HE⟩:=hrel
        clear s0 s1 s2
        have HB2K:=hid HE.out.1
        have HBK:=hid (HB2.out.trans (HB2K.out.mono HB2.out.size))
        have HBXK:=hid (HBX.out.trans (HB2K.out.mono HB2.out.size))
        obtain⟨s0,s1,s2⟩:=SN.out wk HB2K.out
        by_cases hkl:k<nE
        ·as_aux_lemma=>
          have hkI:(k:Int)<(nE:Int):=by omega
          have hks:k<s.edges.length:=by rw[HNE.out];exact hkl
          obtain⟨xb,xo,rfl,hxb,cx⟩:=(R1.out.below HBXK.out).2 (by omega)
          have f0:=cx _ _ (flat_get encLE 2 (fun _=>rfl) s.edges k hks 0 (by omega))
          have f1:=cx _ _ (flat_get encLE 2 (fun _=>rfl) s.edges k hks 1 (by omega))
          have x0:wk.cell? ⟨xb,xo+(k*2+0),none⟩=some (.int .i64 s.edges[k].1):=f0
          have x1:wk.cell? ⟨xb,xo+(k*2+1),none⟩=some (.int .i64 s.edges[k].2):=f1
          rw[Nat.add_zero]at x0
          rw[←Nat.add_assoc]at x1
          have BADK:=hid (fun w' (hb:Below w.heap.size w w') (h:¬EdO s nS nt k s.edges[k].1 s.edges[k].2)=>BAD.out w' hb fun g=>h (edO_of g hks))
          have NXK:=hid (fun(h:EdO s nS nt k s.edges[k].1 s.edges[k].2)=>HE.out.2.next hks h)
          have HCX:=hid (fun(j:Nat) (hj:j<s.edges.length)=>(show wk.cell? ⟨xb,xo+j*2,none⟩=some (.int .i64 s.edges[j].1)from cx _ _ (flat_get encLE 2 (fun _=>rfl) s.edges j hj 0 (by omega))))
          obtain⟨tk,htk⟩:∃v,s.edges[k].1=v:=⟨_,rfl⟩
          obtain⟨tt,htt⟩:∃v,s.edges[k].2=v:=⟨_,rfl⟩
          rw[htk,htt]at BADK NXK
          rw[htk]at x0
          rw[htt]at x1
          obtain⟨w4,hw4⟩:∃x,x=wk.alloc (.cells #[.int .i64 tk,.int .i64 tt] 125):=⟨_,rfl⟩
          have b4:Below wk.heap.size wk w4:=by rw[hw4];exact below_new _ _
          have T4:w4.heap[wk.heap.size]? =some (.cells #[.int .i64 tk,.int .i64 tt] 125 (0,0)):=by rw[hw4];exact heap_alloc_new _ _
          have HW4:=hid hw4.symm
          have HB42:=hid (HB2K.out.trans (b4.mono HB2K.out.size))
          have HB4:=hid (HB2.out.trans (HB42.out.mono HB2.out.size))
          have hxl:xb<wk.heap.size:=by have:=HBK.out.size;omega
          have HCX:=hid (fun(j:Nat) (hj:j<s.edges.length)=>(b4.cell (p:=⟨xb,xo+j*2,none⟩) hxl).trans (HCX.out j hj))
          have t0:w4.cell? ⟨wk.heap.size,0,none⟩=some (.int .i64 tk):=by rw[Lib.cell_of_heap T4];rfl
          have t1:w4.cell? ⟨wk.heap.size,1,none⟩=some (.int .i64 tt):=by rw[Lib.cell_of_heap T4];rfl
          clear hw4 b4 T4 f0 f1 cx HE BAD NEXT
          go_upto_region 17 with fail
          rw[HW4.out]
          generalize wk.heap.size=g4 at t0 t1⊢
          clear HW4 x0 x1 s0 s1 s2
          obtain⟨s0,s1,s2⟩:=SN.out w4 HB42.out
          by_cases q1:tk< -1
          ·have d1:decide (tk< -1)=true:=by rw[decide_eq_true_eq];exact q1
           have HF:Hid (¬EdO s nS nt k tk tt):=hid fun g=>by have:=g.1;omega
           clear q1 htk htt
           go_upto_region 17 with fail
           go_quiet (fail)
           have HF2:=hid (BADK.out _ (((Only.refl (fun _=>False) w4).none_drew nq).below (fun _ e=>e.elim) HB4.out HB4.out.size) HF.out)
           clear t0 t1 s0 s1 s2 HF
           generalize w4.drewN nq=w9 at HF2⊢
           go_wp2_with fail
           go_ret
           exact HF2.out
          ·have d1:decide (tk< -1)=false:=by rw[decide_eq_false_iff_not];exact q1
           by_cases q2:nt≤tk
           ·have d2:decide (nt≤tk)=true:=by rw[decide_eq_true_eq];exact q2
            have HF:Hid (¬EdO s nS nt k tk tt):=hid fun g=>by have:=g.2.1;omega
            clear q1 q2 htk htt
            go_upto_region 17 with fail
            go_quiet (fail)
            have HF2:=hid (BADK.out _ (((Only.refl (fun _=>False) w4).none_drew nq).below (fun _ e=>e.elim) HB4.out HB4.out.size) HF.out)
            clear t0 t1 s0 s1 s2 HF
            generalize w4.drewN nq=w9 at HF2⊢
            go_wp2_with fail
            go_ret
            exact HF2.out
           ·have d2:decide (nt≤tk)=false:=by rw[decide_eq_false_iff_not];exact q2
            by_cases q3:tt<0
            ·have d3:decide (tt<0)=true:=by rw[decide_eq_true_eq];exact q3
             have HF:Hid (¬EdO s nS nt k tk tt):=hid fun g=>by have:=g.2.2.1;omega
             clear q1 q2 q3 htk htt
             go_upto_region 17 with fail
             go_quiet (fail)
             have HF2:=hid (BADK.out _ (((Only.refl (fun _=>False) w4).none_drew nq).below (fun _ e=>e.elim) HB4.out HB4.out.size) HF.out)
             clear t0 t1 s0 s1 s2 HF
             generalize w4.drewN nq=w9 at HF2⊢
             go_wp2_with fail
             go_ret
             exact HF2.out
            ·have d3:decide (tt<0)=false:=by rw[decide_eq_false_iff_not];exact q3
             by_cases q4:(nS:Int)≤tt
             ·have d4:decide ((nS:Int)≤tt)=true:=by rw[decide_eq_true_eq];exact q4
              have HF:Hid (¬EdO s nS nt k tk tt):=hid fun g=>by have:=g.2.2.2.1;omega
              clear q1 q2 q3 q4 htk htt
              go_upto_region 17 with fail
              go_quiet (fail)
              have HF2:=hid (BADK.out _ (((Only.refl (fun _=>False) w4).none_drew nq).below (fun _ e=>e.elim) HB4.out HB4.out.size) HF.out)
              clear t0 t1 s0 s1 s2 HF
              generalize w4.drewN nq=w9 at HF2⊢
              go_wp2_with fail
              go_ret
              exact HF2.out
             ·have d4:decide ((nS:Int)≤tt)=false:=by rw[decide_eq_false_iff_not];exact q4
              rcases k with _ | k
              ·have HN:=hid (NXK.out ⟨by omega,by omega,by omega,by omega,fun j hj e=>by omega⟩)
               have hk0:(0:Int)<(nE:Int):=by omega
               have hk00:0<nE:=by omega
               clear q1 q2 q3 q4 htk htt BADK NXK
               go_upto_region 17 with fail
               go_quiet (fail)
               have HB9:=hid (((Only.refl (fun _=>False) w4).none_drew nq).below (fun _ e=>e.elim) HB42.out HB42.out.size)
               clear t0 t1 s0 s1 s2
               generalize w4.drewN nq=w9 at HB9⊢
               go_wp2_with fail
               go_roundw
               case rel=>exact⟨1,by omega,by go_num,hid ⟨HB9.out,HN.out⟩⟩
               case measure=>simp[intOf];omega
              ·have hjs:k<s.edges.length:=by omega
               have y0:=HCX.out k hjs
               obtain⟨pv,hpv⟩:∃v,s.edges[k].1=v:=⟨_,rfl⟩
               rw[hpv]at y0
               have ew:IntKind.i64.wrap ((k:Int)+1-1)=k:=by rw[w64 (by omega) (by omega)];omega
               have hkJ:(k:Int)+1<(nE:Int):=by omega
               have hkP:decide ((0:Int)<(k:Int)+1)=true:=by rw[decide_eq_true_eq];omega
               have hkQ:(k:Int)<(nE:Int):=by omega
               by_cases q5:tk≤pv
               ·have d5:decide (tk≤pv)=true:=by rw[decide_eq_true_eq];exact q5
                have HF:Hid (¬EdO s nS nt (k+1) tk tt):=hid fun g=>by have:=g.2.2.2.2 k hjs rfl;omega
                clear q1 q2 q3 q4 q5 htk htt hpv NXK
                go_upto_region 17 with fail
                go_quiet (fail)
                have HF2:=hid (BADK.out _ (((Only.refl (fun _=>False) w4).none_drew nq).below (fun _ e=>e.elim) HB4.out HB4.out.size) HF.out)
                clear t0 t1 s0 s1 s2 y0 HF
                generalize w4.drewN nq=w9 at HF2⊢
                go_wp2_with fail
                go_ret
                exact HF2.out
               ·have d5:decide (tk≤pv)=false:=by rw[decide_eq_false_iff_not];exact q5
                have HN:=hid (NXK.out ⟨by omega,by omega,by omega,by omega,fun j hj e=>by
                 obtain rfl:j=k:=by omega
                 omega⟩)
                clear q1 q2 q3 q4 q5 htk htt hpv BADK NXK
                go_upto_region 17 with fail
                go_quiet (fail)
                have HB9:=hid (((Only.refl (fun _=>False) w4).none_drew nq).below (fun _ e=>e.elim) HB42.out HB42.out.size)
                clear t0 t1 s0 s1 s2 y0
                generalize w4.drewN nq=w9 at HB9⊢
                go_wp2_with fail
                go_roundw
                case rel=>exact⟨k+1+1,by omega,by go_num,hid ⟨HB9.out,HN.out⟩⟩
                case measure=>simp[intOf];omega
        ·have hkn2:nE=k:=by omega
         subst hkn2
         have hkI2:¬(nE:Int)<(nE:Int):=by omega
         have HBK1:=hid (HBR2.out.trans (HB2K.out.mono HBR2.out.size))
         have GOOD:=hid (fun(g:Drv.kindL s=true)=>NEXT.out ⟨by rw[HNA.out];exact HK.out,by rw[HNE.out];exact HE.out.2.1,fun i hi=>HE.out.2.2 i hi (by rw[←HNE.out];exact hi),g⟩)
         have POOR:=hid (fun(g:Drv.kindL s=false)=>BAD.out _ HBK.out fun f=>by have h9:=f.k;rw[g]at h9;cases h9)
         unfold Drv.kindL at GOOD POOR
         rw[HNA.out,HNE.out,HKD.out]at GOOD POOR
         clear HK HE BAD NEXT
         by_cases c0:kd=0
         ·by_cases cA:nA=0
          ·by_cases cE:nE=0
           ·have kd0:(kd==0)=true:=by rw[beq_iff_eq];omega
            have kd1:(kd==1)=false:=by rw[beq_eq_false_iff_ne];omega
            have kd2:(kd==2)=false:=by rw[beq_eq_false_iff_ne];omega
            have kd3:(kd==3)=false:=by rw[beq_eq_false_iff_ne];omega
            have an:(nA==0)=true:=by rw[beq_iff_eq];omega
            have ai:((nA:Int)==0)=true:=by rw[beq_iff_eq];omega
            have en:(nE==0)=true:=by rw[beq_iff_eq];omega
            have ei:((nE:Int)==0)=true:=by rw[beq_iff_eq];omega
            have HN:=hid (GOOD.out (by simp[c0,cA]))
            clear GOOD POOR
            go_wp2_with fail
            go_roundw
            case rel=>exact⟨m+1,by omega,by go_num,hid ⟨HBK1.out,HN.out⟩⟩
            case measure=>simp[intOf];omega
           ·have kd0:(kd==0)=true:=by rw[beq_iff_eq];omega
            have kd1:(kd==1)=false:=by rw[beq_eq_false_iff_ne];omega
            have kd2:(kd==2)=false:=by rw[beq_eq_false_iff_ne];omega
            have kd3:(kd==3)=false:=by rw[beq_eq_false_iff_ne];omega
            have an:(nA==0)=true:=by rw[beq_iff_eq];omega
            have ai:((nA:Int)==0)=true:=by rw[beq_iff_eq];omega
            have en:(nE==0)=false:=by rw[beq_eq_false_iff_ne];omega
            have ei:((nE:Int)==0)=false:=by rw[beq_eq_false_iff_ne];omega
            have HN:=hid (GOOD.out (by simp[c0,cA]))
            clear GOOD POOR
            go_wp2_with fail
            go_roundw
            case rel=>exact⟨m+1,by omega,by go_num,hid ⟨HBK1.out,HN.out⟩⟩
            case measure=>simp[intOf];omega
          ·by_cases cE:nE=0
           ·have kd0:(kd==0)=true:=by rw[beq_iff_eq];omega
            have kd1:(kd==1)=false:=by rw[beq_eq_false_iff_ne];omega
            have kd2:(kd==2)=false:=by rw[beq_eq_false_iff_ne];omega
            have kd3:(kd==3)=false:=by rw[beq_eq_false_iff_ne];omega
            have an:(nA==0)=false:=by rw[beq_eq_false_iff_ne];omega
            have ai:((nA:Int)==0)=false:=by rw[beq_eq_false_iff_ne];omega
            have en:(nE==0)=true:=by rw[beq_iff_eq];omega
            have ei:((nE:Int)==0)=true:=by rw[beq_iff_eq];omega
            have HN:=hid (POOR.out (by simp[c0,cA]))
            clear GOOD POOR
            go_wp2_with fail
            go_ret
            exact HN.out
           ·have kd0:(kd==0)=true:=by rw[beq_iff_eq];omega
            have kd1:(kd==1)=false:=by rw[beq_eq_false_iff_ne];omega
            have kd2:(kd==2)=false:=by rw[beq_eq_false_iff_ne];omega
            have kd3:(kd==3)=false:=by rw[beq_eq_false_iff_ne];omega
            have an:(nA==0)=false:=by rw[beq_eq_false_iff_ne];omega
            have ai:((nA:Int)==0)=false:=by rw[beq_eq_false_iff_ne];omega
            have en:(nE==0)=false:=by rw[beq_eq_false_iff_ne];omega
            have ei:((nE:Int)==0)=false:=by rw[beq_eq_false_iff_ne];omega
            have HN:=hid (POOR.out (by simp[c0,cA]))
            clear GOOD POOR
            go_wp2_with fail
            go_ret
            exact HN.out
         ·by_cases cE:nE=0
          ·by_cases c1:kd=1
           ·by_cases cA:nA=1
            ·have kd0:(kd==0)=false:=by rw[beq_eq_false_iff_ne];omega
             have kd1:(kd==1)=true:=by rw[beq_iff_eq];omega
             have kd2:(kd==2)=false:=by rw[beq_eq_false_iff_ne];omega
             have kd3:(kd==3)=false:=by rw[beq_eq_false_iff_ne];omega
             have en:(nE==0)=true:=by rw[beq_iff_eq];omega
             have ei:((nE:Int)==0)=true:=by rw[beq_iff_eq];omega
             have an:(nA==1)=true:=by rw[beq_iff_eq];omega
             have ai:((nA:Int)==1)=true:=by rw[beq_iff_eq];omega
             have HN:=hid (GOOD.out (by simp[c1,cA,cE]))
             clear GOOD POOR
             go_wp2_with fail
             go_roundw
             case rel=>exact⟨m+1,by omega,by go_num,hid ⟨HBK1.out,HN.out⟩⟩
             case measure=>simp[intOf];omega
            ·have kd0:(kd==0)=false:=by rw[beq_eq_false_iff_ne];omega
             have kd1:(kd==1)=true:=by rw[beq_iff_eq];omega
             have kd2:(kd==2)=false:=by rw[beq_eq_false_iff_ne];omega
             have kd3:(kd==3)=false:=by rw[beq_eq_false_iff_ne];omega
             have en:(nE==0)=true:=by rw[beq_iff_eq];omega
             have ei:((nE:Int)==0)=true:=by rw[beq_iff_eq];omega
             have an:(nA==1)=false:=by rw[beq_eq_false_iff_ne];omega
             have ai:((nA:Int)==1)=false:=by rw[beq_eq_false_iff_ne];omega
             have HN:=hid (POOR.out (by simp[c1,cA,cE]))
             clear GOOD POOR
             go_wp2_with fail
             go_ret
             exact HN.out
           ·by_cases c3:kd=3
            ·by_cases cA:1<nA
             ·have kd0:(kd==0)=false:=by rw[beq_eq_false_iff_ne];omega
              have kd1:(kd==1)=false:=by rw[beq_eq_false_iff_ne];omega
              have kd2:(kd==2)=false:=by rw[beq_eq_false_iff_ne];omega
              have kd3:(kd==3)=true:=by rw[beq_iff_eq];omega
              have en:(nE==0)=true:=by rw[beq_iff_eq];omega
              have ei:((nE:Int)==0)=true:=by rw[beq_iff_eq];omega
              have l1n:decide (1<nA)=true:=by rw[decide_eq_true_eq];omega
              have l1i:decide ((1:Int)<(nA:Int))=true:=by rw[decide_eq_true_eq];omega
              have HN:=hid (GOOD.out (by simp[c3,cA,cE]))
              clear GOOD POOR
              go_wp2_with fail
              go_roundw
              case rel=>exact⟨m+1,by omega,by go_num,hid ⟨HBK1.out,HN.out⟩⟩
              case measure=>simp[intOf];omega
             ·have kd0:(kd==0)=false:=by rw[beq_eq_false_iff_ne];omega
              have kd1:(kd==1)=false:=by rw[beq_eq_false_iff_ne];omega
              have kd2:(kd==2)=false:=by rw[beq_eq_false_iff_ne];omega
              have kd3:(kd==3)=true:=by rw[beq_iff_eq];omega
              have en:(nE==0)=true:=by rw[beq_iff_eq];omega
              have ei:((nE:Int)==0)=true:=by rw[beq_iff_eq];omega
              have l1n:decide (1<nA)=false:=by rw[decide_eq_false_iff_not];omega
              have l1i:decide ((1:Int)<(nA:Int))=false:=by rw[decide_eq_false_iff_not];omega
              have HN:=hid (POOR.out (by simp[c3,cA,cE]))
              clear GOOD POOR
              go_wp2_with fail
              go_ret
              exact HN.out
            ·by_cases c2:kd=2
             ·by_cases cA:nA=0
              ·have kd0:(kd==0)=false:=by rw[beq_eq_false_iff_ne];omega
               have kd1:(kd==1)=false:=by rw[beq_eq_false_iff_ne];omega
               have kd2:(kd==2)=true:=by rw[beq_iff_eq];omega
               have kd3:(kd==3)=false:=by rw[beq_eq_false_iff_ne];omega
               have en:(nE==0)=true:=by rw[beq_iff_eq];omega
               have ei:((nE:Int)==0)=true:=by rw[beq_iff_eq];omega
               have an:(nA==0)=true:=by rw[beq_iff_eq];omega
               have ai:((nA:Int)==0)=true:=by rw[beq_iff_eq];omega
               have HN:=hid (GOOD.out (by simp[c2,cA,cE]))
               clear GOOD POOR
               go_wp2_with fail
               go_roundw
               case rel=>exact⟨m+1,by omega,by go_num,hid ⟨HBK1.out,HN.out⟩⟩
               case measure=>simp[intOf];omega
              ·have kd0:(kd==0)=false:=by rw[beq_eq_false_iff_ne];omega
               have kd1:(kd==1)=false:=by rw[beq_eq_false_iff_ne];omega
               have kd2:(kd==2)=true:=by rw[beq_iff_eq];omega
               have kd3:(kd==3)=false:=by rw[beq_eq_false_iff_ne];omega
               have en:(nE==0)=true:=by rw[beq_iff_eq];omega
               have ei:((nE:Int)==0)=true:=by rw[beq_iff_eq];omega
               have an:(nA==0)=false:=by rw[beq_eq_false_iff_ne];omega
               have ai:((nA:Int)==0)=false:=by rw[beq_eq_false_iff_ne];omega
               have HN:=hid (POOR.out (by simp[c2,cA,cE]))
               clear GOOD POOR
               go_wp2_with fail
               go_ret
               exact HN.out
             ·have kd0:(kd==0)=false:=by rw[beq_eq_false_iff_ne];exact c0
              have kd1:(kd==1)=false:=by rw[beq_eq_false_iff_ne];exact c1
              have kd2:(kd==2)=false:=by rw[beq_eq_false_iff_ne];exact c2
              have kd3:(kd==3)=false:=by rw[beq_eq_false_iff_ne];exact c3
              have en:(nE==0)=true:=by rw[beq_iff_eq];omega
              have ei:((nE:Int)==0)=true:=by rw[beq_iff_eq];omega
              have HN:=hid (POOR.out (by simp[c0,c1,c2,c3]))
              clear GOOD POOR
              go_wp2_with fail
              go_ret
              exact HN.out
          ·have kd0:(kd==0)=false:=by rw[beq_eq_false_iff_ne];exact c0
           have en:(nE==0)=false:=by rw[beq_eq_false_iff_ne];omega
           have ei:((nE:Int)==0)=false:=by rw[beq_eq_false_iff_ne];omega
           have HN:=hid (POOR.out (by simp[c0,cE]))
           clear GOOD POOR
           go_wp2_with fail
           go_ret
           exact HN.out
    ·have hmn:nS=m:=by omega
     subst hmn
     have hmI:¬(nS:Int)<(nS:Int):=by omega
     have HF:Hid (RMayP (Drv.mayAuto a na nt) w (.returned (.bool true)) wr):=hid ⟨by rw[(Drv.mayAuto_iff a na nt).2 ⟨by rw[HNS.out];have:=HN12.out.1;omega,by rw[HNS.out];have:=HN12.out.2;omega,fun i hi=>HM.out.2 i hi (by rw[←HNS.out];exact hi)⟩],HBW.out⟩
     go_wp2_with fail
     go_ret
     exact HF.out
end Go.Proofs.Ytgflanlniejflaa
