/-
  Drivers: Parse that answers nothing: no driver, or limits that may not be: the walk.
-/
import Derived.Test.YtgflanlniejflaaK26
namespace Go.Proofs.Ytgflanlniejflaa
open Go.RowKit Go.Maps
open Go.Sort (grow)
set_option maxRecDepth 100000
def NoneP (code:Int) (w:World) (e:Ending) (w':World):Prop:=
 e= .returned (.tuple #[.agg #[.int .i64 0,.int .i64 0,.int .i64 0,.bool false,.slice none 0 0],.agg #[.int .i64 0,.int .i64 0,.int .i64 0],.int .i64 code])∧Below w.heap.size w w'
def NoWay (w:World) (d:Option Addr) (tn:Nat) (fuel depth code:Int):Prop:=
 (d=none∧code=2)∨(∃D PA pn pc,d=some ⟨D,0,none⟩∧D<w.heap.size∧w.cell? ⟨D,6,none⟩=some (.slice PA pn pc)∧
  ((PA=none∧code=2)∨(PA≠none∧code=1∧((16384:Int)<tn∨fuel<0∨depth<0))))
set_option maxHeartbeats 12800000 in
theorem parseNone_any (w:World) (d:Option Addr) (WA:Option Addr) (tn wc:Nat) (fuel depth code:Int) (h:NoWay w d tn fuel depth code):
 Calls Try.prog 14 #[.pointer d,.slice WA tn wc,.int .i64 fuel,.int .i64 depth] w (NoneP code w):=by
 have q22:∀(w:World) (a:Option Addr) (n c n' c':Nat),(binOp .eql 23 (.slice a n c) (.slice none n' c')).run Try.prog w= .ok (.bool a.isNone) w:=fun w a n c n' c'=>Lib.run_eql_slice_nil w _ _ a n c n' c' Try.underlying23
 have fin:∀w1 w2:World,w1=w.alloc (.cells #[.int .i64 0,.int .i64 0,.int .i64 0,.bool false,.slice none 0 0] 65)→w2=w1.alloc (.cells #[.int .i64 0,.int .i64 0,.int .i64 0] 70)→
  Below w.heap.size w w2∧w2.heap[w.heap.size+1]? =some (.cells #[.int .i64 0,.int .i64 0,.int .i64 0] 70 (0,0))∧w2.heap[w.heap.size]? =some (.cells #[.int .i64 0,.int .i64 0,.int .i64 0,.bool false,.slice none 0 0] 65 (0,0)):=fun w1 w2 hw1 hw2=>by
  have s1:w1.heap.size=w.heap.size+1:=by rw[hw1];simp
  refine⟨?_,?_,?_⟩
  ·have b1:Below w.heap.size w w1:=by rw[hw1];exact below_new _ _
   rw[hw2];exact b1.alloc (by omega) _
  ·rw[hw2,←s1];exact heap_alloc_new _ _
  ·rw[hw2,Below.heap_alloc _ _ _ (by omega),hw1];exact heap_alloc_new _ _
 have FIN:=hid fin
 rcases h with⟨rfl,rfl⟩ | ⟨D,PA,pn,pc,rfl,hD,hc,⟨rfl,rfl⟩ | ⟨hPA,rfl,hbad⟩⟩
 ·clear fin
  go_enter Try.func14,Try.ntmps14
  go_upto_region 2 with fail
  obtain⟨w1,hw1⟩:∃w1,w1=w.alloc (.cells #[.int .i64 0,.int .i64 0,.int .i64 0,.bool false,.slice none 0 0] 65):=⟨_,rfl⟩
  obtain⟨w2,hw2⟩:∃w2,w2=w1.alloc (.cells #[.int .i64 0,.int .i64 0,.int .i64 0] 70):=⟨_,rfl⟩
  rw[←hw1,←hw2]
  obtain⟨hb2,T9,T8⟩:=FIN.out w1 w2 hw1 hw2
  clear hw1 hw2 w1
  obtain⟨⟨a0,a1,a2,a3,a4⟩,za⟩:=cells5z T8
  obtain⟨⟨b0,b1,b2⟩,zb⟩:=cells3z T9
  have i0:=set_same (j:=0) (x:=.int .i64 0) T8 rfl
  have i1:=set_same (j:=1) (x:=.int .i64 0) T8 rfl
  have i2:=set_same (j:=2) (x:=.int .i64 0) T8 rfl
  have i3:=set_same (j:=3) (x:=.bool false) T8 rfl
  have i4:=set_same (j:=4) (x:=.slice none 0 0) T8 rfl
  have j0:=set_same (j:=0) (x:=.int .i64 0) T9 rfl
  have j1:=set_same (j:=1) (x:=.int .i64 0) T9 rfl
  have j2:=set_same (j:=2) (x:=.int .i64 0) T9 rfl
  have zd8:∀i,w2.drew.frozen? ⟨w.heap.size,i,none⟩=false:=za
  have zd9:∀i,w2.drew.frozen? ⟨w.heap.size+1,i,none⟩=false:=zb
  have e8:w2.drew.cell? ⟨w.heap.size,0,none⟩=_∧w2.drew.cell? ⟨w.heap.size,1,none⟩=_∧w2.drew.cell? ⟨w.heap.size,2,none⟩=_∧w2.drew.cell? ⟨w.heap.size,3,none⟩=_∧w2.drew.cell? ⟨w.heap.size,4,none⟩=_:=⟨a0,a1,a2,a3,a4⟩
  obtain⟨e80,e81,e82,e83,e84⟩:=e8
  have e9:w2.drew.cell? ⟨w.heap.size+1,0,none⟩=_∧w2.drew.cell? ⟨w.heap.size+1,1,none⟩=_∧w2.drew.cell? ⟨w.heap.size+1,2,none⟩=_:=⟨b0,b1,b2⟩
  obtain⟨e90,e91,e92⟩:=e9
  go_region_held3 (fun w'=>w'.cell? ⟨w.heap.size,0,none⟩=some (.int .i64 0)∧w'.cell? ⟨w.heap.size,1,none⟩=some (.int .i64 0)∧w'.cell? ⟨w.heap.size,2,none⟩=some (.int .i64 0)∧w'.cell? ⟨w.heap.size,3,none⟩=some (.bool false)∧w'.cell? ⟨w.heap.size,4,none⟩=some (.slice none 0 0)∧w'.cell? ⟨w.heap.size+1,0,none⟩=some (.int .i64 0)∧w'.cell? ⟨w.heap.size+1,1,none⟩=some (.int .i64 0)∧w'.cell? ⟨w.heap.size+1,2,none⟩=some (.int .i64 0)) (simp only[cell_drewX,a0,a1,a2,a3,a4,b0,b1,b2,and_self]) (fail)
  have T8:w2.drew.heap[w.heap.size]? =_:=T8
  have T9:w2.drew.heap[w.heap.size+1]? =_:=T9
  have HBF:Below w.heap.size w w2.drew:=⟨hb2.os,hb2.tape,hb2.output,hb2.size,hb2.block⟩
  generalize w2.drew=wF at T8 T9 HBF⊢
  clear zd8 zd9 e80 e81 e82 e83 e84 e90 e91 e92 a0 a1 a2 a3 a4 b0 b1 b2 za zb i0 i1 i2 i3 i4 j0 j1 j2
  go_wp2
  refine bodyPost_ret (results_cct rfl _ _ w.heap.size (w.heap.size+1) 65 70 _ _ _ _ _ _ rfl T8 Try.underlying65 rfl infoTreeP rfl T9 Try.underlying70 rfl infoStatsP) rfl ?_
  exact⟨rfl,HBF⟩
 ·clear fin
  have hPn:(none:Option Addr).isNone=true:=rfl
  go_enter Try.func14,Try.ntmps14
  go_upto_region 2 with fail
  obtain⟨w1,hw1⟩:∃w1,w1=w.alloc (.cells #[.int .i64 0,.int .i64 0,.int .i64 0,.bool false,.slice none 0 0] 65):=⟨_,rfl⟩
  obtain⟨w2,hw2⟩:∃w2,w2=w1.alloc (.cells #[.int .i64 0,.int .i64 0,.int .i64 0] 70):=⟨_,rfl⟩
  rw[←hw1,←hw2]
  obtain⟨hb2,T9,T8⟩:=FIN.out w1 w2 hw1 hw2
  clear hw1 hw2 w1
  obtain⟨⟨a0,a1,a2,a3,a4⟩,za⟩:=cells5z T8
  obtain⟨⟨b0,b1,b2⟩,zb⟩:=cells3z T9
  have i0:=set_same (j:=0) (x:=.int .i64 0) T8 rfl
  have i1:=set_same (j:=1) (x:=.int .i64 0) T8 rfl
  have i2:=set_same (j:=2) (x:=.int .i64 0) T8 rfl
  have i3:=set_same (j:=3) (x:=.bool false) T8 rfl
  have i4:=set_same (j:=4) (x:=.slice none 0 0) T8 rfl
  have j0:=set_same (j:=0) (x:=.int .i64 0) T9 rfl
  have j1:=set_same (j:=1) (x:=.int .i64 0) T9 rfl
  have j2:=set_same (j:=2) (x:=.int .i64 0) T9 rfl
  have zd8:∀i,w2.drew.frozen? ⟨w.heap.size,i,none⟩=false:=za
  have zd9:∀i,w2.drew.frozen? ⟨w.heap.size+1,i,none⟩=false:=zb
  have e8:w2.drew.cell? ⟨w.heap.size,0,none⟩=_∧w2.drew.cell? ⟨w.heap.size,1,none⟩=_∧w2.drew.cell? ⟨w.heap.size,2,none⟩=_∧w2.drew.cell? ⟨w.heap.size,3,none⟩=_∧w2.drew.cell? ⟨w.heap.size,4,none⟩=_:=⟨a0,a1,a2,a3,a4⟩
  obtain⟨e80,e81,e82,e83,e84⟩:=e8
  have e9:w2.drew.cell? ⟨w.heap.size+1,0,none⟩=_∧w2.drew.cell? ⟨w.heap.size+1,1,none⟩=_∧w2.drew.cell? ⟨w.heap.size+1,2,none⟩=_:=⟨b0,b1,b2⟩
  obtain⟨e90,e91,e92⟩:=e9
  go_region_held3 (fun w'=>w'.cell? ⟨w.heap.size,0,none⟩=some (.int .i64 0)∧w'.cell? ⟨w.heap.size,1,none⟩=some (.int .i64 0)∧w'.cell? ⟨w.heap.size,2,none⟩=some (.int .i64 0)∧w'.cell? ⟨w.heap.size,3,none⟩=some (.bool false)∧w'.cell? ⟨w.heap.size,4,none⟩=some (.slice none 0 0)∧w'.cell? ⟨w.heap.size+1,0,none⟩=some (.int .i64 0)∧w'.cell? ⟨w.heap.size+1,1,none⟩=some (.int .i64 0)∧w'.cell? ⟨w.heap.size+1,2,none⟩=some (.int .i64 0)) (simp only[cell_drewX,a0,a1,a2,a3,a4,b0,b1,b2,and_self]) (fail)
  have T8:w2.drew.heap[w.heap.size]? =_:=T8
  have T9:w2.drew.heap[w.heap.size+1]? =_:=T9
  have HBF:Below w.heap.size w w2.drew:=⟨hb2.os,hb2.tape,hb2.output,hb2.size,hb2.block⟩
  generalize w2.drew=wF at T8 T9 HBF⊢
  clear zd8 zd9 e80 e81 e82 e83 e84 e90 e91 e92 a0 a1 a2 a3 a4 b0 b1 b2 za zb i0 i1 i2 i3 i4 j0 j1 j2
  go_wp2
  refine bodyPost_ret (results_cct rfl _ _ w.heap.size (w.heap.size+1) 65 70 _ _ _ _ _ _ rfl T8 Try.underlying65 rfl infoTreeP rfl T9 Try.underlying70 rfl infoStatsP) rfl ?_
  exact⟨rfl,HBF⟩
 ·by_cases k1:(16384:Int)<(tn:Int)
  ·clear fin
   have hPn:PA.isNone=false:=by cases PA with | none=>exact absurd rfl hPA | some _=>rfl
   clear hPA
   have g1:decide ((16384:Int)<(tn:Int))=true:=by simpa using k1
   clear k1 hbad
   go_enter Try.func14,Try.ntmps14
   go_upto_region 4 with fail
   obtain⟨w1,hw1⟩:∃w1,w1=w.alloc (.cells #[.int .i64 0,.int .i64 0,.int .i64 0,.bool false,.slice none 0 0] 65):=⟨_,rfl⟩
   obtain⟨w2,hw2⟩:∃w2,w2=w1.alloc (.cells #[.int .i64 0,.int .i64 0,.int .i64 0] 70):=⟨_,rfl⟩
   rw[←hw1,←hw2]
   obtain⟨hb2,T9,T8⟩:=FIN.out w1 w2 hw1 hw2
   clear hw1 hw2 w1
   obtain⟨⟨a0,a1,a2,a3,a4⟩,za⟩:=cells5z T8
   obtain⟨⟨b0,b1,b2⟩,zb⟩:=cells3z T9
   have i0:=set_same (j:=0) (x:=.int .i64 0) T8 rfl
   have i1:=set_same (j:=1) (x:=.int .i64 0) T8 rfl
   have i2:=set_same (j:=2) (x:=.int .i64 0) T8 rfl
   have i3:=set_same (j:=3) (x:=.bool false) T8 rfl
   have i4:=set_same (j:=4) (x:=.slice none 0 0) T8 rfl
   have j0:=set_same (j:=0) (x:=.int .i64 0) T9 rfl
   have j1:=set_same (j:=1) (x:=.int .i64 0) T9 rfl
   have j2:=set_same (j:=2) (x:=.int .i64 0) T9 rfl
   have zd8:∀i,w2.drew.frozen? ⟨w.heap.size,i,none⟩=false:=za
   have zd9:∀i,w2.drew.frozen? ⟨w.heap.size+1,i,none⟩=false:=zb
   have e8:w2.drew.cell? ⟨w.heap.size,0,none⟩=_∧w2.drew.cell? ⟨w.heap.size,1,none⟩=_∧w2.drew.cell? ⟨w.heap.size,2,none⟩=_∧w2.drew.cell? ⟨w.heap.size,3,none⟩=_∧w2.drew.cell? ⟨w.heap.size,4,none⟩=_:=⟨a0,a1,a2,a3,a4⟩
   obtain⟨e80,e81,e82,e83,e84⟩:=e8
   have e9:w2.drew.cell? ⟨w.heap.size+1,0,none⟩=_∧w2.drew.cell? ⟨w.heap.size+1,1,none⟩=_∧w2.drew.cell? ⟨w.heap.size+1,2,none⟩=_:=⟨b0,b1,b2⟩
   obtain⟨e90,e91,e92⟩:=e9
   go_region_held3 (fun w'=>w'.cell? ⟨w.heap.size,0,none⟩=some (.int .i64 0)∧w'.cell? ⟨w.heap.size,1,none⟩=some (.int .i64 0)∧w'.cell? ⟨w.heap.size,2,none⟩=some (.int .i64 0)∧w'.cell? ⟨w.heap.size,3,none⟩=some (.bool false)∧w'.cell? ⟨w.heap.size,4,none⟩=some (.slice none 0 0)∧w'.cell? ⟨w.heap.size+1,0,none⟩=some (.int .i64 0)∧w'.cell? ⟨w.heap.size+1,1,none⟩=some (.int .i64 0)∧w'.cell? ⟨w.heap.size+1,2,none⟩=some (.int .i64 0)) (simp only[cell_drewX,a0,a1,a2,a3,a4,b0,b1,b2,and_self]) (fail)
   have T8:w2.drew.heap[w.heap.size]? =_:=T8
   have T9:w2.drew.heap[w.heap.size+1]? =_:=T9
   have HBF:Below w.heap.size w w2.drew:=⟨hb2.os,hb2.tape,hb2.output,hb2.size,hb2.block⟩
   generalize w2.drew=wF at T8 T9 HBF⊢
   clear zd8 zd9 e80 e81 e82 e83 e84 e90 e91 e92 a0 a1 a2 a3 a4 b0 b1 b2 za zb i0 i1 i2 i3 i4 j0 j1 j2
   go_wp2
   refine bodyPost_ret (results_cct rfl _ _ w.heap.size (w.heap.size+1) 65 70 _ _ _ _ _ _ rfl T8 Try.underlying65 rfl infoTreeP rfl T9 Try.underlying70 rfl infoStatsP) rfl ?_
   exact⟨rfl,HBF⟩
  ·by_cases k2:fuel<0
   ·clear fin
    have hPn:PA.isNone=false:=by cases PA with | none=>exact absurd rfl hPA | some _=>rfl
    clear hPA
    have g1:decide ((16384:Int)<(tn:Int))=false:=by simpa using k1
    have g2:decide (fuel<0)=true:=by simpa using k2
    clear k1 k2 hbad
    go_enter Try.func14,Try.ntmps14
    go_upto_region 4 with fail
    obtain⟨w1,hw1⟩:∃w1,w1=w.alloc (.cells #[.int .i64 0,.int .i64 0,.int .i64 0,.bool false,.slice none 0 0] 65):=⟨_,rfl⟩
    obtain⟨w2,hw2⟩:∃w2,w2=w1.alloc (.cells #[.int .i64 0,.int .i64 0,.int .i64 0] 70):=⟨_,rfl⟩
    rw[←hw1,←hw2]
    obtain⟨hb2,T9,T8⟩:=FIN.out w1 w2 hw1 hw2
    clear hw1 hw2 w1
    obtain⟨⟨a0,a1,a2,a3,a4⟩,za⟩:=cells5z T8
    obtain⟨⟨b0,b1,b2⟩,zb⟩:=cells3z T9
    have i0:=set_same (j:=0) (x:=.int .i64 0) T8 rfl
    have i1:=set_same (j:=1) (x:=.int .i64 0) T8 rfl
    have i2:=set_same (j:=2) (x:=.int .i64 0) T8 rfl
    have i3:=set_same (j:=3) (x:=.bool false) T8 rfl
    have i4:=set_same (j:=4) (x:=.slice none 0 0) T8 rfl
    have j0:=set_same (j:=0) (x:=.int .i64 0) T9 rfl
    have j1:=set_same (j:=1) (x:=.int .i64 0) T9 rfl
    have j2:=set_same (j:=2) (x:=.int .i64 0) T9 rfl
    have zd8:∀i,w2.drew.frozen? ⟨w.heap.size,i,none⟩=false:=za
    have zd9:∀i,w2.drew.frozen? ⟨w.heap.size+1,i,none⟩=false:=zb
    have e8:w2.drew.cell? ⟨w.heap.size,0,none⟩=_∧w2.drew.cell? ⟨w.heap.size,1,none⟩=_∧w2.drew.cell? ⟨w.heap.size,2,none⟩=_∧w2.drew.cell? ⟨w.heap.size,3,none⟩=_∧w2.drew.cell? ⟨w.heap.size,4,none⟩=_:=⟨a0,a1,a2,a3,a4⟩
    obtain⟨e80,e81,e82,e83,e84⟩:=e8
    have e9:w2.drew.cell? ⟨w.heap.size+1,0,none⟩=_∧w2.drew.cell? ⟨w.heap.size+1,1,none⟩=_∧w2.drew.cell? ⟨w.heap.size+1,2,none⟩=_:=⟨b0,b1,b2⟩
    obtain⟨e90,e91,e92⟩:=e9
    go_region_held3 (fun w'=>w'.cell? ⟨w.heap.size,0,none⟩=some (.int .i64 0)∧w'.cell? ⟨w.heap.size,1,none⟩=some (.int .i64 0)∧w'.cell? ⟨w.heap.size,2,none⟩=some (.int .i64 0)∧w'.cell? ⟨w.heap.size,3,none⟩=some (.bool false)∧w'.cell? ⟨w.heap.size,4,none⟩=some (.slice none 0 0)∧w'.cell? ⟨w.heap.size+1,0,none⟩=some (.int .i64 0)∧w'.cell? ⟨w.heap.size+1,1,none⟩=some (.int .i64 0)∧w'.cell? ⟨w.heap.size+1,2,none⟩=some (.int .i64 0)) (simp only[cell_drewX,a0,a1,a2,a3,a4,b0,b1,b2,and_self]) (fail)
    have T8:w2.drew.heap[w.heap.size]? =_:=T8
    have T9:w2.drew.heap[w.heap.size+1]? =_:=T9
    have HBF:Below w.heap.size w w2.drew:=⟨hb2.os,hb2.tape,hb2.output,hb2.size,hb2.block⟩
    generalize w2.drew=wF at T8 T9 HBF⊢
    clear zd8 zd9 e80 e81 e82 e83 e84 e90 e91 e92 a0 a1 a2 a3 a4 b0 b1 b2 za zb i0 i1 i2 i3 i4 j0 j1 j2
    go_wp2
    refine bodyPost_ret (results_cct rfl _ _ w.heap.size (w.heap.size+1) 65 70 _ _ _ _ _ _ rfl T8 Try.underlying65 rfl infoTreeP rfl T9 Try.underlying70 rfl infoStatsP) rfl ?_
    exact⟨rfl,HBF⟩
   ·clear fin
    have hPn:PA.isNone=false:=by cases PA with | none=>exact absurd rfl hPA | some _=>rfl
    clear hPA
    have g1:decide ((16384:Int)<(tn:Int))=false:=by simpa using k1
    have g2:decide (fuel<0)=false:=by simpa using k2
    have g3:decide (depth<0)=true:=by simp;omega
    clear k1 k2 hbad
    go_enter Try.func14,Try.ntmps14
    go_upto_region 4 with fail
    obtain⟨w1,hw1⟩:∃w1,w1=w.alloc (.cells #[.int .i64 0,.int .i64 0,.int .i64 0,.bool false,.slice none 0 0] 65):=⟨_,rfl⟩
    obtain⟨w2,hw2⟩:∃w2,w2=w1.alloc (.cells #[.int .i64 0,.int .i64 0,.int .i64 0] 70):=⟨_,rfl⟩
    rw[←hw1,←hw2]
    obtain⟨hb2,T9,T8⟩:=FIN.out w1 w2 hw1 hw2
    clear hw1 hw2 w1
    obtain⟨⟨a0,a1,a2,a3,a4⟩,za⟩:=cells5z T8
    obtain⟨⟨b0,b1,b2⟩,zb⟩:=cells3z T9
    have i0:=set_same (j:=0) (x:=.int .i64 0) T8 rfl
    have i1:=set_same (j:=1) (x:=.int .i64 0) T8 rfl
    have i2:=set_same (j:=2) (x:=.int .i64 0) T8 rfl
    have i3:=set_same (j:=3) (x:=.bool false) T8 rfl
    have i4:=set_same (j:=4) (x:=.slice none 0 0) T8 rfl
    have j0:=set_same (j:=0) (x:=.int .i64 0) T9 rfl
    have j1:=set_same (j:=1) (x:=.int .i64 0) T9 rfl
    have j2:=set_same (j:=2) (x:=.int .i64 0) T9 rfl
    have zd8:∀i,w2.drew.frozen? ⟨w.heap.size,i,none⟩=false:=za
    have zd9:∀i,w2.drew.frozen? ⟨w.heap.size+1,i,none⟩=false:=zb
    have e8:w2.drew.cell? ⟨w.heap.size,0,none⟩=_∧w2.drew.cell? ⟨w.heap.size,1,none⟩=_∧w2.drew.cell? ⟨w.heap.size,2,none⟩=_∧w2.drew.cell? ⟨w.heap.size,3,none⟩=_∧w2.drew.cell? ⟨w.heap.size,4,none⟩=_:=⟨a0,a1,a2,a3,a4⟩
    obtain⟨e80,e81,e82,e83,e84⟩:=e8
    have e9:w2.drew.cell? ⟨w.heap.size+1,0,none⟩=_∧w2.drew.cell? ⟨w.heap.size+1,1,none⟩=_∧w2.drew.cell? ⟨w.heap.size+1,2,none⟩=_:=⟨b0,b1,b2⟩
    obtain⟨e90,e91,e92⟩:=e9
    go_region_held3 (fun w'=>w'.cell? ⟨w.heap.size,0,none⟩=some (.int .i64 0)∧w'.cell? ⟨w.heap.size,1,none⟩=some (.int .i64 0)∧w'.cell? ⟨w.heap.size,2,none⟩=some (.int .i64 0)∧w'.cell? ⟨w.heap.size,3,none⟩=some (.bool false)∧w'.cell? ⟨w.heap.size,4,none⟩=some (.slice none 0 0)∧w'.cell? ⟨w.heap.size+1,0,none⟩=some (.int .i64 0)∧w'.cell? ⟨w.heap.size+1,1,none⟩=some (.int .i64 0)∧w'.cell? ⟨w.heap.size+1,2,none⟩=some (.int .i64 0)) (simp only[cell_drewX,a0,a1,a2,a3,a4,b0,b1,b2,and_self]) (fail)
    have T8:w2.drew.heap[w.heap.size]? =_:=T8
    have T9:w2.drew.heap[w.heap.size+1]? =_:=T9
    have HBF:Below w.heap.size w w2.drew:=⟨hb2.os,hb2.tape,hb2.output,hb2.size,hb2.block⟩
    generalize w2.drew=wF at T8 T9 HBF⊢
    clear zd8 zd9 e80 e81 e82 e83 e84 e90 e91 e92 a0 a1 a2 a3 a4 b0 b1 b2 za zb i0 i1 i2 i3 i4 j0 j1 j2
    go_wp2
    refine bodyPost_ret (results_cct rfl _ _ w.heap.size (w.heap.size+1) 65 70 _ _ _ _ _ _ rfl T8 Try.underlying65 rfl infoTreeP rfl T9 Try.underlying70 rfl infoStatsP) rfl ?_
    exact⟨rfl,HBF⟩
end Go.Proofs.Ytgflanlniejflaa
