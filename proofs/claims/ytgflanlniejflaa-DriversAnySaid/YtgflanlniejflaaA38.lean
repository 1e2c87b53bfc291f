/-
  Drivers: what is enough: the walk.
-/
import Derived.BigQuiet
import Derived.Deep.RegionHeld3
import Derived.Test.YtgflanlniejflaaA27
namespace Go.Proofs.Ytgflanlniejflaa
open Go.RowKit Go.Maps
set_option maxRecDepth 100000
namespace Drv
def mostP (n:Int):Int:=min n 1099511627776
def timesP (a b:Int):Int:=mostP (a*b)
def enoughP (n:NNet) (wd tokens:Int):Int×Int:=
 let t:=tokens+1
 let s:=(n.states.length:Int)
 let r:=(n.starts.length:Int)
 let p:=(n.preds.length:Int)
 let d:=(n.decs.length:Int)
 (mostP (mostP (timesP (timesP (r*t+1) (s*t)) (wd+1)+timesP ((r+p+32*d)*t) (s*(t+1)))+timesP (d*t) (t+2)),mostP ((r+p+d)*t+1))
theorem mostP_le (n:Int):mostP n≤1099511627776:=by unfold mostP;omega
theorem mostP_nonneg {n:Int}(h:0≤n):0≤mostP n:=by unfold mostP;omega
theorem times_big {a b:Int}(ha:0<a) (h:1099511627776 / a<b):1099511627776<a*b:=by
 have h1:=Int.lt_mul_ediv_self_add (x:=1099511627776) ha
 have h2:a*(1099511627776 / a+1)≤a*b:=Int.mul_le_mul_of_nonneg_left (by omega) (by omega)
 rw[Int.mul_add,Int.mul_one]at h2
 omega
theorem times_small {a b:Int}(ha:0<a) (h:b≤1099511627776 / a):a*b≤1099511627776:=by
 have h1:a*b≤a*(1099511627776 / a):=Int.mul_le_mul_of_nonneg_left h (by omega)
 have h2:=Int.mul_ediv_self_le (x:=1099511627776) (k:=a) (by omega)
 omega
end Drv
theorem most_any (w:World) (n:Int):Calls Try.prog 37 #[.int .i64 n] w fun e w'=>e= .returned (.int .i64 (Drv.mostP n))∧w'=w:=by
 go_enter Try.func37,Try.ntmps37
 go_wp2
 go_ret
 exact⟨rfl,rfl⟩
theorem times_any (w:World) (a b:Int) (ha:0≤a) (hb:0≤b):Calls Try.prog 36 #[.int .i64 a,.int .i64 b] w fun e w'=>e= .returned (.int .i64 (Drv.timesP a b))∧w'=w:=by
 by_cases h0:a=0
 ·subst h0
  go_enter Try.func36,Try.ntmps36
  go_wp2_with fail
  refine(most_any w 0).mono ?_
  rintro e w' ⟨rfl,rfl⟩
  dsimp only
  go_wp2
  go_ret
  refine⟨?_,rfl⟩
  unfold Drv.timesP
  rw[Int.zero_mul]
  rfl
 ·have hn:(a==0)=false:=by rw[beq_eq_false_iff_ne];exact h0
  have hap:0<a:=by omega
  by_cases h1:1099511627776 / a<b
  ·have hd:decide (1099511627776 / a<b)=true:=by rw[decide_eq_true_eq];exact h1
   go_enter Try.func36,Try.ntmps36
   go_wp2_with fail
   go_ret
   refine⟨?_,rfl⟩
   have h2:=Drv.times_big hap h1
   unfold Drv.timesP Drv.mostP
   rw[show min (a*b) 1099511627776=1099511627776 by omega]
   rfl
  ·have hd:decide (1099511627776 / a<b)=false:=by rw[decide_eq_false_iff_not];exact h1
   have h2:=Drv.times_small hap (by omega:b≤1099511627776 / a)
   have h3:0≤a*b:=Int.mul_nonneg ha hb
   have hw:IntKind.i64.wrap (a*b)=a*b:=w64 (by omega) (by omega)
   go_enter Try.func36,Try.ntmps36
   go_wp2_with fail
   refine(most_any w (a*b)).mono ?_
   rintro e w' ⟨rfl,rfl⟩
   dsimp only
   go_wp2
   go_ret
   exact⟨rfl,rfl⟩
theorem mulb {x t X T:Int}(h0:0≤x) (h1:x≤X) (h2:0≤t) (h3:t≤T):0≤x*t∧x*t≤X*T:=
 ⟨Int.mul_nonneg h0 h2,Int.mul_le_mul h1 h3 h2 (by omega)⟩
def EnoP (f dp:Int) (w:World) (e:Ending) (w':World):Prop:=e= .returned (.tuple #[.int .i64 f,.int .i64 dp])∧Below w.heap.size w w'
def NoWayE (w:World) (d:Option Addr) (tk:Int):Prop:=
 d=none∨(∃D PA pn pc,d=some ⟨D,0,none⟩∧D<w.heap.size∧w.cell? ⟨D,6,none⟩=some (.slice PA pn pc)∧(PA=none∨(PA≠none∧(tk<0∨16384<tk))))
set_option maxHeartbeats 3200000 in
theorem enoughNone_any (w:World) (d:Option Addr) (tk:Int) (h:NoWayE w d tk):
 Calls Try.prog 18 #[.pointer d,.int .i64 tk] w (EnoP 0 0 w):=by
 have q22:∀(w:World) (a:Option Addr) (n c n' c':Nat),(binOp .eql 23 (.slice a n c) (.slice none n' c')).run Try.prog w= .ok (.bool a.isNone) w:=fun w a n c n' c'=>Lib.run_eql_slice_nil w _ _ a n c n' c' Try.underlying23
 rcases h with rfl | ⟨D,PA,pn,pc,rfl,hD,hc,rfl | ⟨hPA,hbad⟩⟩
 ·go_enter Try.func18,Try.ntmps18
  go_wp2_with fail
  go_ret2
  exact⟨rfl,Below.refl _ _⟩
 ·have hPn:(none:Option Addr).isNone=true:=rfl
  go_enter Try.func18,Try.ntmps18
  go_wp2_with fail
  go_ret2
  exact⟨rfl,Below.refl _ _⟩
 ·have hPn:PA.isNone=false:=by cases PA with | none=>exact absurd rfl hPA | some _=>rfl
  clear hPA
  by_cases k1:tk<0
  ·have g1:decide (tk<0)=true:=by simpa using k1
   clear k1 hbad
   go_enter Try.func18,Try.ntmps18
   go_wp2_with fail
   go_ret2
   exact⟨rfl,Below.refl _ _⟩
  ·have g1:decide (tk<0)=false:=by simpa using k1
   have g2:decide (16384<tk)=true:=by simp;omega
   clear k1 hbad
   go_enter Try.func18,Try.ntmps18
   go_wp2_with fail
   go_ret2
   exact⟨rfl,Below.refl _ _⟩
set_option maxHeartbeats 25600000 in
theorem enough_any (w:World) (D:Nat) (n:Drv.NNet) (au:List (List Drv.LSt)) (wd tk:Int) (hD:DrvAt w D w.heap.size n au wd) (hok:Drv.OkNet n au) (hw0:0≤wd) (hw1:wd≤1099511627776+1000000) (ht0:0≤tk) (ht1:tk≤16384):
 Calls Try.prog 18 #[.pointer (some ⟨D,0,none⟩),.int .i64 tk] w (EnoP (Drv.enoughP n wd tk).1 (Drv.enoughP n wd tk).2 w):=by
 have q22:∀(w:World) (a:Option Addr) (n c n' c':Nat),(binOp .eql 23 (.slice a n c) (.slice none n' c')).run Try.prog w= .ok (.bool a.isNone) w:=fun w a n c n' c'=>Lib.run_eql_slice_nil w _ _ a n c n' c' Try.underlying23
 obtain⟨SA,Sc,cs1,_⟩:=hD.starts
 obtain⟨QA,Qc,cs3,_⟩:=hD.preds
 obtain⟨EA,Ec,cs4,_⟩:=hD.decs
 obtain⟨ZA,Zc,cs0,_⟩:=hD.states
 obtain⟨pl,⟨PA,Pc,cs6,rp⟩,hpl,_⟩:=hD.place
 have cs7:=hD.wide
 have hplace:=place_some hok rp hpl
 have hpk:=hok.picks
 have hs64:=hok.starts
 have hst:=hok.states
 obtain⟨n1,hn1⟩:∃n1,n.starts.length=n1:=⟨_,rfl⟩
 obtain⟨n3,hn3⟩:∃n3,n.preds.length=n3:=⟨_,rfl⟩
 obtain⟨n4,hn4⟩:∃n4,n.decs.length=n4:=⟨_,rfl⟩
 obtain⟨n0,hn0⟩:∃n0,n.states.length=n0:=⟨_,rfl⟩
 obtain⟨np,hnp⟩:∃np,pl.length=np:=⟨_,rfl⟩
 have hE:Drv.enoughP n wd tk=(Drv.mostP (Drv.mostP (Drv.timesP (Drv.timesP (n1*(tk+1)+1) (n0*(tk+1))) (wd+1)+Drv.timesP ((n1+n3+32*n4)*(tk+1)) (n0*(tk+1+1)))+Drv.timesP (n4*(tk+1)) (tk+1+2)),Drv.mostP ((n1+n3+n4)*(tk+1)+1)):=by
  unfold Drv.enoughP
  rw[hn1,hn3,hn4,hn0]
 rw[hE]
 rw[hn0]at cs0 hst
 rw[hn1]at cs1 hs64
 rw[hn3]at cs3 hpk
 rw[hn4]at cs4 hpk
 rw[hnp]at cs6
 clear hD hok rp hpl hn0 hn1 hn3 hn4 hnp hE
 obtain⟨t,ht⟩:∃t,t=tk+1:=⟨_,rfl⟩
 rw[←ht]
 have e0:IntKind.i64.wrap (tk+1)=t:=by rw[ht];exact w64 (by omega) (by omega)
 have b1:=mulb (x:=(n1:Int)) (t:=t) (X:=64) (T:=16385) (by omega) (by omega) (by omega) (by omega)
 have b2:=mulb (x:=(n0:Int)) (t:=t) (X:=1000000) (T:=16385) (by omega) (by omega) (by omega) (by omega)
 have b3:=mulb (x:=(n1:Int)+n3+32*n4) (t:=t) (X:=2200000) (T:=16385) (by omega) (by omega) (by omega) (by omega)
 have b4:=mulb (x:=(n0:Int)) (t:=t+1) (X:=1000000) (T:=16386) (by omega) (by omega) (by omega) (by omega)
 have b5:=mulb (x:=(n4:Int)) (t:=t) (X:=65536) (T:=16385) (by omega) (by omega) (by omega) (by omega)
 have b6:=mulb (x:=(n1:Int)+n3+n4) (t:=t) (X:=70000) (T:=16385) (by omega) (by omega) (by omega) (by omega)
 have e1:IntKind.i64.wrap ((n1:Int)*t)=n1*t:=w64 (by omega) (by omega)
 have e2:IntKind.i64.wrap ((n1:Int)*t+1)=n1*t+1:=w64 (by omega) (by omega)
 have e3:IntKind.i64.wrap ((n0:Int)*t)=n0*t:=w64 (by omega) (by omega)
 have e4:IntKind.i64.wrap (wd+1)=wd+1:=w64 (by omega) (by omega)
 have e5:IntKind.i64.wrap ((n1:Int)+n3)=n1+n3:=w64 (by omega) (by omega)
 have e6:IntKind.i64.wrap (32*(n4:Int))=32*n4:=w64 (by omega) (by omega)
 have e7:IntKind.i64.wrap ((n1:Int)+n3+32*n4)=n1+n3+32*n4:=w64 (by omega) (by omega)
 have e8:IntKind.i64.wrap (((n1:Int)+n3+32*n4)*t)=(n1+n3+32*n4)*t:=w64 (by omega) (by omega)
 have e9:IntKind.i64.wrap (t+1)=t+1:=w64 (by omega) (by omega)
 have e10:IntKind.i64.wrap ((n0:Int)*(t+1))=n0*(t+1):=w64 (by omega) (by omega)
 have e11:IntKind.i64.wrap ((n4:Int)*t)=n4*t:=w64 (by omega) (by omega)
 have e12:IntKind.i64.wrap (t+2)=t+2:=w64 (by omega) (by omega)
 have e13:IntKind.i64.wrap ((n1:Int)+n3+n4)=n1+n3+n4:=w64 (by omega) (by omega)
 have e14:IntKind.i64.wrap (((n1:Int)+n3+n4)*t)=(n1+n3+n4)*t:=w64 (by omega) (by omega)
 have e15:IntKind.i64.wrap (((n1:Int)+n3+n4)*t+1)=(n1+n3+n4)*t+1:=w64 (by omega) (by omega)
 have g1:decide (tk<0)=false:=by simpa using ht0
 have g2:decide (16384<tk)=false:=by simpa using ht1
 have k1:0≤Drv.timesP (n1*t+1) (n0*t):=Drv.mostP_nonneg (Int.mul_nonneg (by omega) b2.1)
 have k2:0≤Drv.timesP (Drv.timesP (n1*t+1) (n0*t)) (wd+1):=Drv.mostP_nonneg (Int.mul_nonneg k1 (by omega))
 have k3:0≤Drv.timesP ((n1+n3+32*n4)*t) (n0*(t+1)):=Drv.mostP_nonneg (Int.mul_nonneg b3.1 b4.1)
 have k4:0≤Drv.timesP (n4*t) (t+2):=Drv.mostP_nonneg (Int.mul_nonneg b5.1 (by omega))
 have k5:Drv.timesP (Drv.timesP (n1*t+1) (n0*t)) (wd+1)≤1099511627776:=Drv.mostP_le _
 have k6:Drv.timesP ((n1+n3+32*n4)*t) (n0*(t+1))≤1099511627776:=Drv.mostP_le _
 have k7:Drv.timesP (n4*t) (t+2)≤1099511627776:=Drv.mostP_le _
 have p1:0≤(n1:Int)*t+1:=by omega
 have p2:=b2.1
 have p3:0≤wd+1:=by omega
 have p4:=b3.1
 have p5:=b4.1
 have p6:=b5.1
 have p7:0≤t+2:=by omega
 generalize hy1:Drv.timesP (n1*t+1) (n0*t)=y1 at*
 generalize hy2:Drv.timesP y1 (wd+1)=y2 at*
 generalize hy3:Drv.timesP ((n1+n3+32*n4)*t) (n0*(t+1))=y3 at*
 generalize hy4:Drv.timesP (n4*t) (t+2)=y4 at*
 have HY1:=hid hy1
 have HY2:=hid hy2
 have HY3:=hid hy3
 have HY4:=hid hy4
 have f1:IntKind.i64.wrap (y2+y3)=y2+y3:=w64 (by omega) (by omega)
 have k8:Drv.mostP (y2+y3)≤1099511627776:=Drv.mostP_le _
 have k9:0≤Drv.mostP (y2+y3):=Drv.mostP_nonneg (by omega)
 have f2:IntKind.i64.wrap (Drv.mostP (y2+y3)+y4)=Drv.mostP (y2+y3)+y4:=w64 (by omega) (by omega)
 have T:=fun(u:World)=>times_any u (n1*t+1) (n0*t) p1 p2
 have T1:Hid (∀u:World,Calls Try.prog 36 #[.int .i64 (n1*t+1),.int .i64 (n0*t)] u fun e w'=>e= .returned (.int .i64 y1)∧w'=u):=hid fun u=>by have:=times_any u (n1*t+1) (n0*t) p1 p2;rw[hy1]at this;exact this
 have T2:Hid (∀u:World,Calls Try.prog 36 #[.int .i64 y1,.int .i64 (wd+1)] u fun e w'=>e= .returned (.int .i64 y2)∧w'=u):=hid fun u=>by have:=times_any u y1 (wd+1) k1 p3;rw[hy2]at this;exact this
 have T3:Hid (∀u:World,Calls Try.prog 36 #[.int .i64 ((n1+n3+32*n4)*t),.int .i64 (n0*(t+1))] u fun e w'=>e= .returned (.int .i64 y3)∧w'=u):=hid fun u=>by have:=times_any u ((n1+n3+32*n4)*t) (n0*(t+1)) p4 p5;rw[hy3]at this;exact this
 have T4:Hid (∀u:World,Calls Try.prog 36 #[.int .i64 (n4*t),.int .i64 (t+2)] u fun e w'=>e= .returned (.int .i64 y4)∧w'=u):=hid fun u=>by have:=times_any u (n4*t) (t+2) p6 p7;rw[hy4]at this;exact this
 clear T HY1 HY2 HY3 HY4 hy1 hy2 hy3 hy4 p1 p2 p3 p4 p5 p6 p7 ht hs64 hst hpk k1 k2 k3 k4 k5 k6 k7 k8 k9 b1 b2 b3 b4 b5 b6
 have HQ:=hid q22
 go_enter Try.func18,Try.ntmps18
 go_upto_region 3 with fail
 clear q22
 go_quiet (fail)
 go_upto_region 4 with fail
 go_quiet (fail)
 go_upto_region 5 with fail
 go_region_held3 (fun w'=>w'.cell? ⟨D,7,none⟩=some (.int .i64 wd)) (first | assumption | exact cs7) (first | (go_simp;go_at_call 36;with_reducible refine(T2.out _).mono ?_;rintro e w' ⟨rfl,rfl⟩;dsimp only) | (go_simp;go_at_call 36;with_reducible refine(T1.out _).mono ?_;rintro e w' ⟨rfl,rfl⟩;dsimp only))
 go_wp2_with fail
 refine(T3.out _).mono ?_
 rintro e w' ⟨rfl,rfl⟩
 dsimp only
 go_wp2_with fail
 refine(most_any _ _).mono ?_
 rintro e w' ⟨rfl,rfl⟩
 dsimp only
 go_wp2_with fail
 refine(T4.out _).mono ?_
 rintro e w' ⟨rfl,rfl⟩
 dsimp only
 go_wp2_with fail
 refine(most_any _ _).mono ?_
 rintro e w' ⟨rfl,rfl⟩
 dsimp only
 go_wp2_with fail
 refine(most_any _ _).mono ?_
 rintro e w' ⟨rfl,rfl⟩
 dsimp only
 go_wp2_with fail
 go_ret2
 exact⟨rfl,rfl,rfl,rfl,Nat.le_refl _,fun _ _=>rfl⟩
end Go.Proofs.Ytgflanlniejflaa
