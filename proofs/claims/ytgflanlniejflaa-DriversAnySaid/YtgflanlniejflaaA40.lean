/-
  Drivers: Zee, Enr (texts joined).
-/
import Derived.Test.YtgflanlniejflaaA05
import Derived.Test.YtgflanlniejflaaA25
import Derived.Test.YtgflanlniejflaaA35
import Derived.Test.YtgflanlniejflaaA36
import Derived.Test.YtgflanlniejflaaA38
import Derived.Test.YtgflanlniejflaaA39
namespace Go.Proofs.Ytgflanlniejflaa
open Go.RowKit
set_option maxRecDepth 100000
def RZP (n:Drv.NNet) (w:World) (e:Ending) (w':World):Prop:=∃k,Drv.Known n k∧e= .returned (.int .i64 (Drv.wideR n k.rul))∧Below w.heap.size w w'
def ownNL (n:Drv.NNet) (R:Nat) (rul:Int→Int→Bool) (j:Nat):List Int:=(List.range R).map fun r:Nat=>Drv.ownN n rul j r
theorem ownNL_len (n:Drv.NNet) (R:Nat) (rul:Int→Int→Bool) (j:Nat):(ownNL n R rul j).length=R:=by simp[ownNL]
theorem ownNL_get (n:Drv.NNet) (R:Nat) (rul:Int→Int→Bool) (j r:Nat) (h:r<R):(ownNL n R rul j)[r]? =some (Drv.ownN n rul j r):=by simp[ownNL,h]
theorem ownNL_zero (n:Drv.NNet) (R:Nat) (rul:Int→Int→Bool):ownNL n R rul 0=List.replicate R 0:=by
 apply List.ext_getElem
 ·simp[ownNL]
 ·intro i h1 h2;simp[ownNL,Drv.ownN]
theorem ownNL_bd (n:Drv.NNet) (R:Nat) (rul:Int→Int→Bool) (j:Nat) (hS:n.states.length≤1000000):∀x∈ownNL n R rul j,0≤x∧x≤1099511627776+1000000:=fun x hx=>by
 obtain⟨r,_,rfl⟩:=List.mem_map.1 hx
 refine⟨Drv.ownN_nn n rul j r,?_⟩
 cases j with
 | zero=>show(0:Int)≤_;omega
 | succ j=>
  have:=(Drv.ownS_bd (r:=(r:Int)) (rules:=rul r) (fun q=>Drv.ownN_nn n rul j q) n.states 0 1099511627776 (by omega) (by omega) (by omega)).2
  show Drv.ownS r (rul r) (Drv.ownN n rul j) n.states 0≤_
  omega
theorem ownNL_succ (n:Drv.NNet) (R:Nat) (M:Nat→Nat→Bool) (j:Nat):ownL n R M (ownNL n R (Drv.mI R M) j) R=ownNL n R (Drv.mI R M) (j+1):=by
 unfold ownL
 conv=>rhs;unfold ownNL
 apply List.map_congr_left
 intro r hr
 show _=Drv.ownS r (Drv.mI R M r) (Drv.ownN n (Drv.mI R M) j) n.states 0
 refine Drv.ownS_congr (fun q hq=>?_) _ _
 obtain⟨⟨_,_,h2,h3⟩,_⟩:=Drv.mI_true.1 hq
 obtain⟨m,rfl⟩:∃m:Nat,q=m:=⟨q.toNat,by omega⟩
 unfold wasF
 rw[Int.toNat_natCast,List.getD_eq_getElem?_getD,ownNL_get n R _ j m (by omega)]
 rfl
def ZI (w:World) (n:Drv.NNet) (R rg:Nat) (M:Nat→Nat→Bool) (j:Nat) (A:Option Addr) (wr:World):Prop:=
 RulR wr wr.heap.size rg R M∧Below w.heap.size w wr∧Reads wr wr.heap.size 1 A R ((ownNL n R (Drv.mI R M) j).map (Value.int .i64))
set_option maxHeartbeats 12800000 in
theorem refZ_any (w:World) (D:Nat) (n:Drv.NNet) (au:List (List Drv.LSt)) (h:RDrv w D w.heap.size n au) (hok:Drv.OkNet n au):Calls Try.prog 39 #[.pointer (some ⟨D,0,none⟩)] w (RZP n w):=by
 have cf:=flows_any w D n au h hok
 unfold FlwP at cf
 obtain⟨R,hR⟩:∃R,n.starts.length=R:=⟨_,rfl⟩
 have hR1:1≤R:=by rw[←hR];exact hok.starts1
 have hR64:R≤64:=by rw[←hR];exact hok.starts
 have CO:=hid (fun(u:World) (hb:Below w.heap.size w u) (rg rc wc:Nat) (WA:Option Addr) (M:Nat→Nat→Bool) (j:Nat) (hM:RulR u u.heap.size rg R M) (hW:Reads u u.heap.size 1 WA R ((ownNL n R (Drv.mI R M) j).map (Value.int .i64)))=>
  (show Calls Try.prog 64 #[.pointer (some ⟨D,0,none⟩),.slice (some ⟨rg,0,none⟩) R rc,.slice WA R wc] u (fun e w'=>∃A c,e= .returned (.slice A R c)∧Below u.heap.size u w'∧Reads w' w'.heap.size 1 A R ((ownNL n R (Drv.mI R M) (j+1)).map (Value.int .i64)))from by
   have h1:=owns_any u D rg rc wc WA n au M (ownNL n R (Drv.mI R M) j) ((h.below hb).more hb.size) hok (by rw[hR];exact hM) (by rw[ownNL_len,hR]) (by rw[ownNL_len];exact hW) (ownNL_bd n R _ j hok.states)
   rw[hR]at h1
   refine h1.mono ?_
   rintro e w' ⟨v,rfl,h2,h3⟩
   rw[hR,ownNL_succ]at h2
   obtain⟨A,c,rfl⟩:=row_form h2
   exact⟨A,c,rfl,h3,Reads.of_own h2⟩))
 have hmk:=mkInts R (by omega)
 rw[hR]at cf
 have CF:=hid cf
 have HMK:=hid hmk
 have HR:=hid hR
 have hSt:=hok.states
 clear h hok hmk cf hR
 go_enter Try.func39,Try.ntmps39
 go_wp2_with fail
 refine CF.out.mono ?_
 rintro e w1 ⟨rg,rc,eb,rb,M,E,rfl,hF,hK⟩
 have HF:=hid hF
 have HK:=hid hK
 clear hF hK CF
 dsimp only
 go_wp2_with fail
 go_loop [6] (fun i=>∃j:Nat,j≤R∧i= .int .i64 j∧Hid (Drv.selfR (Drv.mI R M) j=false)) (fun i=>R-(intOf i).toNat)
 case atStart=>exact⟨0,Nat.zero_le _,rfl,hid rfl⟩
 case round=>
  obtain⟨j,hj,rfl,HS⟩:=hrel
  by_cases hlt:j<R
  ·have hltI:(j:Int)<(R:Int):=by omega
   obtain⟨b0,b1,_⟩:=HF.out.bit hlt hlt
   have hmi:Drv.mI R M j j=M j j:=by unfold Drv.mI;simp[hlt]
   cases hb:M j j with
   | true=>
    rw[hb]at b1
    have HE:Hid (RZP n w (.returned (.int .i64 1099511627776)) w1):=hid ⟨_,HK.out,(by
     unfold Drv.wideR
     rw[HR.out,if_pos ((Drv.selfR_iff _ _).2 ⟨j,hlt,hmi.trans hb⟩)]),HF.out.below⟩
    clear hmi hb
    go_wp2_with fail
    go_ret
    exact HE.out
   | false=>
    rw[hb]at b1
    have HN:Hid (Drv.selfR (Drv.mI R M) (j+1)=false):=hid (by unfold Drv.selfR;rw[HS.out,hmi,hb];rfl)
    clear hmi hb
    go_wp2_with fail
    go_round
    case rel=>exact⟨j+1,by omega,by go_num,HN⟩
    case measure=>simp[intOf];omega
  ·have hjR:R=j:=by omega
   subst hjR
   have hltI:¬(R:Int)<(R:Int):=by omega
   have hmk:=HMK.out w1
   obtain⟨w2,hw2⟩:∃x,x=w1.alloc (.cells ((List.replicate R (0:Int)).map (Value.int .i64)).toArray 3):=⟨_,rfl⟩
   rw[←hw2]at hmk
   have T2:w2.heap[w1.heap.size]? =some (.cells ((List.replicate R (0:Int)).map (Value.int .i64)).toArray 3 (0,0)):=by rw[hw2];exact heap_alloc_new _ _
   have b2:Below w1.heap.size w1 w2:=by rw[hw2];exact below_new _ _
   have HI:Hid (ZI w n R rg M 0 (some ⟨w1.heap.size,0,none⟩) w2):=by
    refine hid ⟨(HF.out.rulR.below b2).more b2.size,HF.out.below.trans (b2.mono HF.out.below.size),⟨by rw[List.length_map,ownNL_len,Nat.mul_one],fun _=>⟨_,0,rfl,heap_lt T2,fun i x hx=>?_⟩⟩⟩
    rw[Lib.cell_of_heap T2,Nat.zero_add,List.getElem?_toArray,←ownNL_zero n R (Drv.mI R M)]
    exact hx
   have HN0:=hid HS.out
   clear hw2 T2 b2
   go_wp2_with fail
   go_loopw[7,8] (fun v i wx=>∃(j c:Nat) (A:Option Addr),j≤R+1∧v= .slice A R c∧i= .int .i64 j∧Hid (ZI w n R rg M j A wx)) (fun _ i _=>R+1-(intOf i).toNat)
   case atStart=>exact⟨0,R,_,by omega,rfl,rfl,HI⟩
   case round=>
    rename World=>wx
    clear HI
    obtain⟨j,c,A,hj,rfl,rfl,HX⟩:=hrel
    by_cases hlt:j≤R
    ·have hltI:(j:Int)≤(R:Int):=by omega
     have HC:=hid (CO.out wx HX.out.2.1 rg rc c A M j HX.out.1 HX.out.2.2)
     go_wp2_with fail
     refine HC.out.mono ?_
     rintro e w3 ⟨A',c',rfl,hb3,hr3⟩
     have HN:Hid (ZI w n R rg M (j+1) A' w3):=hid ⟨(HX.out.1.below hb3).more hb3.size,HX.out.2.1.trans (hb3.mono HX.out.2.1.size),hr3⟩
     clear hb3 hr3 HC HX
     dsimp only
     go_wp2_with fail
     go_roundw
     case rel=>exact⟨j+1,c',A',by omega,rfl,by go_num,HN⟩
     case measure=>simp[intOf];omega
    ·have hjR:j=R+1:=by omega
     subst hjR
     have hltI:¬((R+1:Nat):Int)≤(R:Int):=by omega
     have hltJ:¬((R:Int)+1≤(R:Int)):=by omega
     go_wp2_with fail
     go_loop [5,9] (fun z i=>∃r:Nat,r≤R∧z= .int .i64 (Drv.wMax n (Drv.mI R M) r)∧i= .int .i64 r) (fun _ i=>R-(intOf i).toNat)
     case atStart=>exact⟨0,Nat.zero_le _,rfl,rfl⟩
     case round=>
      obtain⟨r,hr,rfl,rfl⟩:=hrel
      by_cases hrl:r<R
      ·have hrI:(r:Int)<(R:Int):=by omega
       obtain⟨b,o,rfl,hb,hc⟩:=HX.out.2.2.2 (by omega)
       have x0:=hc r _ (by rw[List.getElem?_map,ownNL_get n R _ (R+1) r hrl];rfl)
       have hmx:Drv.wMax n (Drv.mI R M) (r+1)=max (Drv.wMax n (Drv.mI R M) r) (Drv.ownN n (Drv.mI R M) (R+1) r):=by
        show max _ (Drv.wOf n (Drv.mI R M) r)=_
        unfold Drv.wOf
        rw[HR.out]
       have HMX:=hid hmx
       generalize Drv.ownN n (Drv.mI R M) (R+1) r=ov at x0 HMX
       clear hc hmx
       go_wp2_with fail
       go_round
       case rel=>exact⟨r+1,by omega,by rw[HMX.out],by go_num⟩
       case measure=>simp[intOf];omega
      ·have hrR:R=r:=by omega
       subst hrR
       have hrI:¬(R:Int)<(R:Int):=by omega
       have HE:Hid (RZP n w (.returned (.int .i64 (Drv.wMax n (Drv.mI R M) R))) wx):=hid ⟨_,HK.out,(by
        unfold Drv.wideR
        rw[HR.out,if_neg (by rw[HN0.out];simp)]),HX.out.2.1⟩
       go_wp2_with fail
       go_ret
       exact HE.out
end Go.Proofs.Ytgflanlniejflaa
namespace Go.Proofs.Ytgflanlniejflaa
open Go.RowKit Go.Maps
set_option maxRecDepth 100000
namespace Drv
def fac (a b c:Int):Nat→Int
 | 0=>a
 | 1=>b
 | _=>c
def pro (a b c:Int):Nat→Int
 | 0=>1
 | 1=>a
 | 2=>a*b
 | _=>a*b*c
theorem pro_succ (a b c:Int){k:Nat}(h:k<3):pro a b c (k+1)=pro a b c k*fac a b c k:=by
 rcases k with _ | _ | _ | k
 ·show a=1*a;rw[Int.one_mul]
 ·rfl
 ·rfl
 ·omega
theorem pro_le {a b c:Int}(h:∀k,k<3→1≤fac a b c k):∀j k,j≤k→k≤3→1≤pro a b c j∧pro a b c j≤pro a b c k:=by
 have hp:∀j,j≤3→1≤pro a b c j:=fun j=>by
  induction j with
  | zero=>intro _;exact Int.le_refl _
  | succ j ih=>
   intro hj
   rw[pro_succ a b c (by omega)]
   have h1:=ih (by omega)
   have h2:=h j (by omega)
   have:=Int.mul_le_mul h1 h2 (by omega) (by omega)
   simpa using this
 intro j k hjk hk
 refine⟨hp j (by omega),?_⟩
 induction k with
 | zero=>rw[show j=0 by omega];exact Int.le_refl _
 | succ k ih=>
  rcases Nat.lt_or_ge j (k+1)with h1 | h1
  ·have h2:=ih (by omega) (by omega)
   rw[pro_succ a b c (by omega)]
   have h3:=h k (by omega)
   have h4:=hp k (by omega)
   have:pro a b c k*1≤pro a b c k*fac a b c k:=Int.mul_le_mul_of_nonneg_left h3 (by omega)
   omega
  ·rw[show j=k+1 by omega];exact Int.le_refl _
theorem times3_zero {a b c:Int}(h:∃k,k<3∧fac a b c k=0):times3 a b c=0:=by
 unfold times3
 obtain⟨k,hk,h⟩:=h
 have h0:a*b*c=0:=by
  rcases k with _ | _ | _ | k
  ·have h:a=0:=h
   rw[h];simp
  ·have h:b=0:=h
   rw[h];simp
  ·have h:c=0:=h
   rw[h];simp
  ·omega
 rw[h0];rfl
theorem times3_big {a b c:Int}(h:∀k,k<3→1≤fac a b c k){k:Nat}(hk:k<3) (hb:1099511627776<pro a b c k*fac a b c k):times3 a b c=1099511627776:=by
 have:=(pro_le h (k+1) 3 (by omega) (Nat.le_refl _)).2
 rw[pro_succ a b c hk]at this
 have e:pro a b c 3=a*b*c:=rfl
 unfold times3
 omega
theorem enough_eq (n:NNet) (wd tk:Int) (hw:0≤wd) (ht:0≤tk):
 enoughP n wd tk=(min (times3 ((n.starts.length:Int)*(tk+1)+1) ((n.states.length:Int)*(tk+1)) (wd+1)+times3 ((n.starts.length:Int)+n.preds.length+32*n.decs.length) (tk+1) ((n.states.length:Int)*(tk+2))+times3 ((n.decs.length:Int)*(tk+1)) (tk+3) 1) 1099511627776,
  min (((n.starts.length:Int)+n.preds.length+n.decs.length)*(tk+1)+1) 1099511627776):=by
 unfold enoughP
 simp only
 have e1:timesP (timesP ((n.starts.length:Int)*(tk+1)+1) ((n.states.length:Int)*(tk+1))) (wd+1)=times3 ((n.starts.length:Int)*(tk+1)+1) ((n.states.length:Int)*(tk+1)) (wd+1):=by
  unfold timesP mostP
  exact times3_eq (by omega)
 have e2:timesP (((n.starts.length:Int)+n.preds.length+32*n.decs.length)*(tk+1)) ((n.states.length:Int)*(tk+1+1))=times3 ((n.starts.length:Int)+n.preds.length+32*n.decs.length) (tk+1) ((n.states.length:Int)*(tk+2)):=by
  unfold timesP mostP times3
  rw[show tk+1+1=tk+2 by omega]
 have e3:timesP ((n.decs.length:Int)*(tk+1)) (tk+1+2)=times3 ((n.decs.length:Int)*(tk+1)) (tk+3) 1:=by
  unfold timesP mostP times3
  rw[show tk+1+2=tk+3 by omega,Int.mul_one]
 have h3:0≤times3 ((n.decs.length:Int)*(tk+1)) (tk+3) 1:=by
  unfold times3
  have h1:0≤(n.decs.length:Int)*(tk+1):=Int.mul_nonneg (by omega) (by omega)
  have h2:0≤(n.decs.length:Int)*(tk+1)*(tk+3)*1:=Int.mul_nonneg (Int.mul_nonneg h1 (by omega)) (by omega)
  omega
 rw[e1,e2,e3]
 unfold mostP
 rw[sum_min _ _ _ h3]
end Drv
set_option maxHeartbeats 6400000 in
theorem rtimes_any (w:World) (a b c:Int) (h:∀k,k<3→0≤Drv.fac a b c k):Calls Try.prog 38 #[.int .i64 a,.int .i64 b,.int .i64 c] w fun e w'=>e= .returned (.int .i64 (Drv.times3 a b c))∧Below w.heap.size w w':=by
 obtain⟨w1,hw1⟩:∃x,x=w.alloc (.cells #[.int .i64 a,.int .i64 b,.int .i64 c] 3):=⟨_,rfl⟩
 have hb:Below w.heap.size w w1:=by rw[hw1];exact below_new _ _
 have T:w1.heap[w.heap.size]? =some (.cells #[.int .i64 a,.int .i64 b,.int .i64 c] 3 (0,0)):=by rw[hw1];exact heap_alloc_new _ _
 have HCC:=hid (fun(k:Nat) (hk:k<3)=>(show w1.cell? ⟨w.heap.size,k,none⟩=some (.int .i64 (Drv.fac a b c k))from by
  rw[Lib.cell_of_heap T]
  rcases k with _ | _ | _ | k
  ·rfl
  ·rfl
  ·rfl
  ·omega))
 have HB:=hid hb
 have H:=hid h
 have HW:=hid hw1.symm
 clear hb T hw1 h
 go_enter Try.func38,Try.ntmps38
 go_upto_region 2 with fail
 rw[HW.out]
 generalize w.heap.size=g at HCC⊢
 clear HW
 go_wp2_with fail
 go_loop [9] (fun i=>∃k:Nat,k≤3∧i= .int .i64 k∧Hid (∀j,j<k→Drv.fac a b c j≠0)) (fun i=>3-(intOf i).toNat)
 case atStart=>exact⟨0,Nat.zero_le _,rfl,hid fun j hj=>absurd hj (Nat.not_lt_zero _)⟩
 case round=>
  obtain⟨k,hk,rfl,HK⟩:=hrel
  by_cases hlt:k<3
  ·have hltI:(k:Int)<3:=by omega
   have x0:=HCC.out k hlt
   obtain⟨fv,hfv⟩:∃fv,Drv.fac a b c k=fv:=⟨_,rfl⟩
   rw[hfv]at x0
   by_cases hz:fv=0
   ·have hz1:(fv==0)=true:=by rw[beq_iff_eq];exact hz
    have HF:=hid (Drv.times3_zero ⟨k,hlt,hfv.trans hz⟩)
    clear hfv hz
    go_wp2_with fail
    go_ret
    exact⟨by rw[HF.out];rfl,HB.out⟩
   ·have hz1:(fv==0)=false:=by rw[beq_eq_false_iff_ne];exact hz
    have HN:Hid (∀j,j<k+1→Drv.fac a b c j≠0):=hid fun j hj=>by
     rcases Nat.lt_succ_iff_lt_or_eq.1 hj with h1 | rfl
     ·exact HK.out j h1
     ·rw[hfv];exact hz
    clear hfv hz
    go_wp2_with fail
    go_round
    case rel=>exact⟨k+1,by omega,by go_num,HN⟩
    case measure=>simp[intOf];omega
  ·have hk3:k=3:=by omega
   subst hk3
   have H1:Hid (∀j,j<3→1≤Drv.fac a b c j):=hid fun j hj=>by have:=H.out j hj;have:=HK.out j hj;omega
   have START:Hid (Drv.pro a b c 0=1∧1≤Drv.pro a b c 0∧Drv.pro a b c 0≤1099511627776):=hid ⟨rfl,by show(1:Int)≤1;omega,by show(1:Int)≤_;omega⟩
   go_wp2_with fail
   go_loop [8,10] (fun z i=>∃k:Nat,k≤3∧z= .int .i64 (Drv.pro a b c k)∧i= .int .i64 k∧Hid (1≤Drv.pro a b c k∧Drv.pro a b c k≤1099511627776)) (fun _ i=>3-(intOf i).toNat)
   case atStart=>exact⟨0,Nat.zero_le _,by rw[START.out.1],rfl,hid START.out.2⟩
   case round=>
    clear START
    obtain⟨k,hk,rfl,rfl,HP⟩:=hrel
    obtain⟨hp0,hp1⟩:=HP.out
    by_cases hlt:k<3
    ·have hltI:(k:Int)<3:=by omega
     have x0:=HCC.out k hlt
     have hf1:=H1.out k hlt
     have hsu:=Drv.pro_succ a b c hlt
     obtain⟨fv,hfv⟩:∃fv,Drv.fac a b c k=fv:=⟨_,rfl⟩
     obtain⟨pv,hpv⟩:∃pv,Drv.pro a b c k=pv:=⟨_,rfl⟩
     rw[hfv]at x0 hf1 hsu
     rw[hpv]at hp0 hp1 hsu⊢
     have hz:(fv==0)=false:=by rw[beq_eq_false_iff_ne];omega
     by_cases hbig:1099511627776 / fv<pv
     ·have hd:decide (1099511627776 / fv<pv)=true:=by rw[decide_eq_true_eq];exact hbig
      have HF:=hid (Drv.times3_big (a:=a) (b:=b) (c:=c) H1.out hlt (by rw[hfv,hpv,Int.mul_comm];exact Drv.times_big (by omega) hbig))
      clear hfv hpv hsu hbig
      go_wp2_with fail
      go_ret
      exact⟨by rw[HF.out];rfl,HB.out⟩
     ·have hd:decide (1099511627776 / fv<pv)=false:=by rw[decide_eq_false_iff_not];exact hbig
      have hsm:=Drv.times_small (a:=fv) (b:=pv) (by omega) (by omega)
      have hpos:1≤pv*fv:=by have:=Int.mul_le_mul hp0 hf1 (by omega) (by omega);simpa using this
      have ew:IntKind.i64.wrap (pv*fv)=pv*fv:=w64 (by omega) (by rw[Int.mul_comm]at hsm;omega)
      have HS:=hid hsu
      have HN:Hid (1≤pv*fv∧pv*fv≤1099511627776):=hid ⟨hpos,by rw[Int.mul_comm];exact hsm⟩
      clear hfv hpv hsu hbig hsm hpos
      go_wp2_with fail
      go_round
      case rel=>exact⟨k+1,by omega,by rw[HS.out],by go_num,hid (by rw[HS.out];exact HN.out)⟩
      case measure=>simp[intOf];omega
    ·have hk3:k=3:=by omega
     subst hk3
     have HE:Hid (min (Drv.pro a b c 3) 1099511627776=Drv.times3 a b c):=hid rfl
     go_wp2_with fail
     go_ret
     exact⟨by rw[←HE.out];rfl,HB.out⟩
set_option maxHeartbeats 1600000 in
theorem renoughNone_any (w:World) (D:Nat) (tk:Int) (h:tk<0∨16384<tk):Calls Try.prog 19 #[.pointer (some ⟨D,0,none⟩),.int .i64 tk] w (EnoP 0 0 w):=by
 by_cases k1:tk<0
 ·have g1:decide (tk<0)=true:=by simpa using k1
  clear k1 h
  go_enter Try.func19,Try.ntmps19
  go_wp2_with fail
  go_ret2
  exact⟨rfl,Below.refl _ _⟩
 ·have g1:decide (tk<0)=false:=by simpa using k1
  have g2:decide (16384<tk)=true:=by simp;omega
  clear k1 h
  go_enter Try.func19,Try.ntmps19
  go_wp2_with fail
  go_ret2
  exact⟨rfl,Below.refl _ _⟩
set_option maxHeartbeats 12800000 in
theorem renough_any (w:World) (D:Nat) (n:Drv.NNet) (au:List (List Drv.LSt)) (tk:Int) (hD:RDrv w D w.heap.size n au) (hok:Drv.OkNet n au) (k:Drv.Kn) (hk:Drv.Known n k) (ht0:0≤tk) (ht1:tk≤16384):
 Calls Try.prog 19 #[.pointer (some ⟨D,0,none⟩),.int .i64 tk] w (EnoP (Drv.enoughP n (Drv.wideR n k.rul) tk).1 (Drv.enoughP n (Drv.wideR n k.rul) tk).2 w):=by
 obtain⟨hw0,hw1⟩:=Drv.wideR_bd n k.rul
 have hst:=hok.states
 rw[Drv.enough_eq n _ tk hw0 ht0]
 have CZ:Hid (Calls Try.prog 39 #[.pointer (some ⟨D,0,none⟩)] w fun e w'=>e= .returned (.int .i64 (Drv.wideR n k.rul))∧Below w.heap.size w w'):=hid ((refZ_any w D n au hD hok).mono (by
  rintro e w' ⟨k',hk',rfl,hb⟩
  exact⟨by rw[hk'.unique hk],hb⟩))
 obtain⟨wd,hwd⟩:∃wd,Drv.wideR n k.rul=wd:=⟨_,rfl⟩
 rw[hwd]at CZ hw0 hw1⊢
 obtain⟨SA,Sc,cs1,_⟩:=hD.starts
 obtain⟨QA,Qc,cs3,_⟩:=hD.preds
 obtain⟨EA,Ec,cs4,_⟩:=hD.decs
 obtain⟨ZA,Zc,cs0,_⟩:=hD.states
 have hpk:=hok.picks
 have hs64:=hok.starts
 obtain⟨n1,hn1⟩:∃n1,n.starts.length=n1:=⟨_,rfl⟩
 obtain⟨n3,hn3⟩:∃n3,n.preds.length=n3:=⟨_,rfl⟩
 obtain⟨n4,hn4⟩:∃n4,n.decs.length=n4:=⟨_,rfl⟩
 obtain⟨n0,hn0⟩:∃n0,n.states.length=n0:=⟨_,rfl⟩
 rw[hn0]at cs0 hst hw1
 rw[hn1]at cs1 hs64
 rw[hn3]at cs3 hpk
 rw[hn4]at cs4 hpk
 rw[hn0,hn1,hn3,hn4]
 clear hD hok hn0 hn1 hn3 hn4 hk hwd
 have b1:=mulb (x:=(n1:Int)) (t:=tk+1) (X:=64) (T:=16385) (by omega) (by omega) (by omega) (by omega)
 have b2:=mulb (x:=(n0:Int)) (t:=tk+1) (X:=1000000) (T:=16385) (by omega) (by omega) (by omega) (by omega)
 have b4:=mulb (x:=(n0:Int)) (t:=tk+2) (X:=1000000) (T:=16386) (by omega) (by omega) (by omega) (by omega)
 have b5:=mulb (x:=(n4:Int)) (t:=tk+1) (X:=65536) (T:=16385) (by omega) (by omega) (by omega) (by omega)
 have b6:=mulb (x:=(n1:Int)+n3+n4) (t:=tk+1) (X:=70000) (T:=16385) (by omega) (by omega) (by omega) (by omega)
 have e0:IntKind.i64.wrap (tk+1)=tk+1:=w64 (by omega) (by omega)
 have e0b:IntKind.i64.wrap (tk+2)=tk+2:=w64 (by omega) (by omega)
 have e0c:IntKind.i64.wrap (tk+3)=tk+3:=w64 (by omega) (by omega)
 have e1:IntKind.i64.wrap ((n1:Int)*(tk+1))=n1*(tk+1):=w64 (by omega) (by omega)
 have e2:IntKind.i64.wrap ((n1:Int)*(tk+1)+1)=n1*(tk+1)+1:=w64 (by omega) (by omega)
 have e3:IntKind.i64.wrap ((n0:Int)*(tk+1))=n0*(tk+1):=w64 (by omega) (by omega)
 have e4:IntKind.i64.wrap (wd+1)=wd+1:=w64 (by omega) (by omega)
 have e5:IntKind.i64.wrap ((n1:Int)+n3)=n1+n3:=w64 (by omega) (by omega)
 have e6:IntKind.i64.wrap (32*(n4:Int))=32*n4:=w64 (by omega) (by omega)
 have e7:IntKind.i64.wrap ((n1:Int)+n3+32*n4)=n1+n3+32*n4:=w64 (by omega) (by omega)
 have e10:IntKind.i64.wrap ((n0:Int)*(tk+2))=n0*(tk+2):=w64 (by omega) (by omega)
 have e11:IntKind.i64.wrap ((n4:Int)*(tk+1))=n4*(tk+1):=w64 (by omega) (by omega)
 have e13:IntKind.i64.wrap ((n1:Int)+n3+n4)=n1+n3+n4:=w64 (by omega) (by omega)
 have e14:IntKind.i64.wrap (((n1:Int)+n3+n4)*(tk+1))=(n1+n3+n4)*(tk+1):=w64 (by omega) (by omega)
 have e15:IntKind.i64.wrap (((n1:Int)+n3+n4)*(tk+1)+1)=(n1+n3+n4)*(tk+1)+1:=w64 (by omega) (by omega)
 have g1:decide (tk<0)=false:=by simpa using ht0
 have g2:decide (16384<tk)=false:=by simpa using ht1
 have f3:∀{a b c:Int},0≤a→0≤b→0≤c→∀k,k<3→0≤Drv.fac a b c k:=fun ha hb hc k hk=>by
  rcases k with _ | _ | _ | k
  ·exact ha
  ·exact hb
  ·exact hc
  ·omega
 have t3:∀{a b c:Int},0≤a→0≤b→0≤c→0≤Drv.times3 a b c∧Drv.times3 a b c≤1099511627776:=fun ha hb hc=>by
  have:=Int.mul_nonneg (Int.mul_nonneg ha hb) hc
  unfold Drv.times3
  omega
 have T1:=hid (fun(u:World)=>rtimes_any u (n1*(tk+1)+1) (n0*(tk+1)) (wd+1) (f3 (by omega) b2.1 (by omega)))
 have T2:=hid (fun(u:World)=>rtimes_any u ((n1:Int)+n3+32*n4) (tk+1) (n0*(tk+2)) (f3 (by omega) (by omega) b4.1))
 have T3:=hid (fun(u:World)=>rtimes_any u ((n4:Int)*(tk+1)) (tk+3) 1 (f3 b5.1 (by omega) (by omega)))
 have p1:=t3 (a:=n1*(tk+1)+1) (b:=n0*(tk+1)) (c:=wd+1) (by omega) b2.1 (by omega)
 have p2:=t3 (a:=(n1:Int)+n3+32*n4) (b:=tk+1) (c:=n0*(tk+2)) (by omega) (by omega) b4.1
 have p3:=t3 (a:=(n4:Int)*(tk+1)) (b:=tk+3) (c:=1) b5.1 (by omega) (by omega)
 generalize hy1:Drv.times3 (n1*(tk+1)+1) (n0*(tk+1)) (wd+1)=y1 at T1 p1⊢
 generalize hy2:Drv.times3 ((n1:Int)+n3+32*n4) (tk+1) (n0*(tk+2))=y2 at T2 p2⊢
 generalize hy3:Drv.times3 ((n4:Int)*(tk+1)) (tk+3) 1=y3 at T3 p3⊢
 have s1:IntKind.i64.wrap (y1+y2)=y1+y2:=w64 (by omega) (by omega)
 have s2:IntKind.i64.wrap (y1+y2+y3)=y1+y2+y3:=w64 (by omega) (by omega)
 clear hy1 hy2 hy3 f3 t3 p1 p2 p3 b1 b2 b4 b5 b6 hs64 hst hpk hw0 hw1
 go_enter Try.func19,Try.ntmps19
 go_wp2_with fail
 refine CZ.out.mono ?_
 rintro e w1 ⟨rfl,hb1⟩
 have HB1:=hid hb1
 clear hb1 CZ
 dsimp only
 go_wp2_with fail
 refine(T1.out _).mono ?_
 rintro e w2 ⟨rfl,hb2⟩
 have HB2:=hid (HB1.out.trans (hb2.mono HB1.out.size))
 clear hb2 HB1
 dsimp only
 go_wp2_with fail
 refine(T2.out _).mono ?_
 rintro e w3 ⟨rfl,hb3⟩
 have HB3:=hid (HB2.out.trans (hb3.mono HB2.out.size))
 clear hb3 HB2
 dsimp only
 go_wp2_with fail
 refine(T3.out _).mono ?_
 rintro e w4 ⟨rfl,hb4⟩
 have HB4:=hid (HB3.out.trans (hb4.mono HB3.out.size))
 clear hb4 HB3
 dsimp only
 go_wp2_with fail
 go_ret2
 exact⟨rfl,HB4.out⟩
end Go.Proofs.Ytgflanlniejflaa
