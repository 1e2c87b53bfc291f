/-
  prunes.Run: what an automaton tells: the walk.
-/
import Derived.Deep.LoopGhost
import Derived.Deep.CutRange
import Derived.Deep.RegionHeld3
import Derived.Test.YtgflanlniejflaaK02
import Derived.Test.YtgflanlniejflaaK10
namespace Go.Proofs.Ytgflanlniejflaa
open Go.RowKit
set_option maxRecDepth 100000
def encLE (e:Int×Int):List Value:=[.int .i64 e.1,.int .i64 e.2]
def AuV (w:World) (B:Nat) (vs:List Value) (i:Nat) (s:Drv.LSt):Prop:=
 ∃AA ac EA ec,vs[i*3]? =some (.int .u8 s.kind)∧vs[i*3+1]? =some (.slice AA s.alts.length ac)∧vs[i*3+2]? =some (.slice EA s.edges.length ec)∧Reads w B 1 AA s.alts.length (s.alts.map (Value.int .i64))∧Reads w B 2 EA s.edges.length (flat encLE s.edges)
def AutR (w:World) (B:Nat) (A:Option Addr) (l:List Drv.LSt):Prop:=∃vs,Reads w B 3 A l.length vs∧∀i (h:i<l.length),AuV w B vs i l[i]
theorem AuV.below {w w':World}{B i:Nat}{vs:List Value}{s:Drv.LSt}(h:AuV w B vs i s) (hb:Below B w w'):AuV w' B vs i s:=by
 obtain⟨AA,ac,EA,ec,e0,e1,e2,r0,r1⟩:=h
 exact⟨AA,ac,EA,ec,e0,e1,e2,r0.below hb,r1.below hb⟩
theorem AutR.below {w w':World}{B:Nat}{A:Option Addr}{l:List Drv.LSt}(h:AutR w B A l) (hb:Below B w w'):AutR w' B A l:=by
 obtain⟨vs,h1,h2⟩:=h
 exact⟨vs,h1.below hb,fun i hi=>(h2 i hi).below hb⟩
theorem AutR.at {w:World}{B:Nat}{A:Option Addr}{l:List Drv.LSt}(h:AutR w B A l){i:Nat}(hi:i<l.length):∃b off AA ac EA ec,A=some ⟨b,off,none⟩∧b<B∧
 w.cell? ⟨b,off+i*3,none⟩=some (.int .u8 l[i].kind)∧w.cell? ⟨b,off+i*3+1,none⟩=some (.slice AA l[i].alts.length ac)∧w.cell? ⟨b,off+i*3+2,none⟩=some (.slice EA l[i].edges.length ec)∧
 Reads w B 1 AA l[i].alts.length (l[i].alts.map (Value.int .i64))∧Reads w B 2 EA l[i].edges.length (flat encLE l[i].edges):=by
 obtain⟨vs,h1,h2⟩:=h
 obtain⟨b,off,rfl,hb,hc⟩:=h1.2 (by omega)
 obtain⟨AA,ac,EA,ec,e0,e1,e2,r0,r1⟩:=h2 i hi
 exact⟨b,off,AA,ac,EA,ec,rfl,hb,hc _ _ e0,by simpa[Nat.add_assoc]using hc _ _ e1,by simpa[Nat.add_assoc]using hc _ _ e2,r0,r1⟩
def tokAt (toks:List Int) (pos:Nat):Int:=if pos<toks.length then toks.getD pos 0 else -1
theorem readsZ {w w':World}{B:Nat}{A:Option Addr}{l:List Int}(hr:Reads w B 1 A l.length (l.map (Value.int .i64))) (hb:Below B w w') (k:Nat) (hk:k<l.length):
 ∃b off,A=some ⟨b,off,none⟩∧b<B∧w'.cell? ⟨b,off+k,none⟩=some (.int .i64 l[k]):=by
 obtain⟨b,off,rfl,hbl,hcell⟩:=hr.2 (by omega)
 exact⟨b,off,rfl,hbl,(hb.cell (p:=⟨b,off+k,none⟩) hbl).trans (hcell k _ (by simp[List.getElem?_eq_getElem hk]))⟩
theorem idx_find {α:Type}(q:α→Bool) (l:List α):(idxI q l= -1∧l.find? q=none)∨∃(i:Nat) (h:i<l.length),idxI q l=i∧l.find? q=some l[i]:=by
 unfold idxI
 cases h:l.findIdx? q with
 | none=>
  refine .inl ⟨rfl,?_⟩
  rw[List.find?_eq_none]
  intro x hx
  have:=List.findIdx?_eq_none_iff.1 h x hx
  simp[this]
 | some i=>
  obtain⟨h1,h2,h3⟩:=List.findIdx?_eq_some_iff_getElem.1 h
  refine .inr ⟨i,h1,rfl,?_⟩
  rw[List.find?_eq_some_iff_getElem]
  exact⟨h2,i,h1,rfl,fun j hj=>by simpa using h3 j hj⟩
theorem OwnC.form2 {w:World}{base n c:Nat}{e:TypeId}{size:Nat}{A:Option Addr}{xs:List Value}(h:OwnC w base e size (.slice A n c) n xs):n≤c:=by
 obtain⟨A',c',e,h⟩:=h.form
 injection e with _ _ e
 rw[e];exact h
theorem run1_any (e:Int×Int) (t:Int) (tb:Nat) (w:World) (hc:w.cell? ⟨tb,0,none⟩=some (.int .i64 t)) (hlt:tb<w.heap.size):
 Calls Try.prog 100 #[.agg #[.int .i64 e.1,.int .i64 e.2],.pointer (some ⟨tb,0,none⟩)] w fun r w'=>r= .returned (.bool (e.1==t))∧Below w.heap.size w w':=by
 have hc1:∀o,(w.alloc o).cell? ⟨tb,0,none⟩=some (.int .i64 t):=fun o=>((below_new w o).cell (p:=⟨tb,0,none⟩) hlt).trans hc
 go_enter Try.func100,Try.ntmps100
 go_wp2
 go_ret
 exact⟨rfl,below_new w _⟩
def RunP (a:List Drv.LSt) (toks:List Int) (w:World) (e:Ending) (w':World):Prop:=
 ∃A c,e= .returned (.tuple #[.int .u8 (Drv.runA a toks).1,.slice A (Drv.runA a toks).2.1.length c,.int .i64 (Drv.runA a toks).2.2])∧
  OwnC w' w.heap.size 3 1 (.slice A (Drv.runA a toks).2.1.length c) (Drv.runA a toks).2.1.length ((Drv.runA a toks).2.1.map (Value.int .i64))∧Below w.heap.size w w'
set_option maxHeartbeats 1600000 in
theorem run_any (a:List Drv.LSt) (toks:List Int) (A WA:Option Addr) (c wcap B:Nat) (w:World) (hB:B≤w.heap.size) (ha:AutR w B A a) (hw:Reads w B 1 WA toks.length (toks.map (Value.int .i64))) (hlw:toks.length≤1000000)
 (hal:∀s∈a,s.alts.length≤1000000∧s.edges.length≤1000000):
 Calls Try.prog 87 #[.agg #[.slice A a.length c],.slice WA toks.length wcap] w (RunP a toks w):=by
 have HA:=hid ha
 have HW:=hid hw
 have HAL:=hid hal
 clear ha hw hal
 go_enter Try.func87,Try.ntmps87
 go_wp2
 go_loopg [6,7] (toks.length+2) (fun n q s wr=>∃(pos:Nat) (sv:Int),n+pos=toks.length+2∧0<n∧q= .int .i64 pos∧s= .int .i64 sv∧Hid (Drv.runL a toks n sv pos=Drv.runA a toks)∧Below (w.heap.size+1) (w.alloc (.cells #[.slice A a.length c] 50)) wr)
 case atStart=>exact⟨0,0,by omega,by omega,rfl,rfl,rfl,by simpa using Below.refl _ _⟩
 case round=>
  obtain⟨pos,sv,hn,hn0,rfl,rfl,HR,hb⟩:=hrel
  have c0:wr.cell? ⟨w.heap.size,0,none⟩=some (.slice A a.length c):=(hb.cell (p:=⟨w.heap.size,0,none⟩) (by simp)).trans (cell_new w _ _ 0)
  have hsz:w.heap.size+1≤wr.heap.size:=by have:=hb.size;simpa using this
  have hb0:Below w.heap.size w wr:=(below_new w _).trans (hb.mono (by omega))
  have HB:=hid hb
  have HB0:=hid hb0
  clear hb hb0
  obtain⟨m,rfl⟩:∃m,gk=m+1:=⟨gk-1,by omega⟩
  by_cases h1:sv<0
  ·have hfin:Drv.runL a toks (m+1) sv pos=(2,[],(pos:Int)):=by unfold Drv.runL;rw[if_pos (.inl h1)]
   have HF:=hid (HR.out.symm.trans hfin)
   have h1':decide (sv<0)=true:=by simpa using h1
   clear hfin HR
   go_wp2
   go_ret3
   refine⟨none,0,?_,?_,HB0.out⟩
   ·rw[HF.out];rfl
   ·rw[HF.out];exact⟨rfl,.inl ⟨rfl,rfl⟩⟩
  by_cases h2:(a.length:Int)≤sv
  ·have hfin:Drv.runL a toks (m+1) sv pos=(2,[],(pos:Int)):=by unfold Drv.runL;rw[if_pos (.inr h2)]
   have HF:=hid (HR.out.symm.trans hfin)
   have h1':decide (sv<0)=false:=by simpa using h1
   clear hfin HR
   go_wp2
   go_ret3
   refine⟨none,0,?_,?_,HB0.out⟩
   ·rw[HF.out];rfl
   ·rw[HF.out];exact⟨rfl,.inl ⟨rfl,rfl⟩⟩
  have hk0:0≤sv:=by omega
  obtain⟨k,rfl⟩:∃k:Nat,sv=k:=⟨sv.toNat,by omega⟩
  have hk:k<a.length:=by omega
  obtain⟨b,off,AA,ac,EA,ec,rfl,hbB,s0,s1,s2,r1,r2⟩:=(HA.out.below (HB0.out.mono hB)).at hk
  have hal:=HAL.out a[k] (List.getElem_mem hk)
  have hget:a.getD ((k:Int)).toNat ⟨0,[],[]⟩=a[k]:=by simp[List.getD,hk]
  have HG:=hid hget
  clear hget
  generalize hx:a[k]=x at*
  have hd1:decide ((k:Int)<0)=false:=by simp
  have hd2:decide ((a.length:Int)≤(k:Int))=false:=by simpa using hk
  have hk2:(k:Int)<(a.length:Int):=by omega
  clear HA h1 h2 hx
  obtain⟨nx,hnx⟩:∃nx,x.alts.length=nx:=⟨_,rfl⟩
  obtain⟨ne,hne⟩:∃ne,x.edges.length=ne:=⟨_,rfl⟩
  by_cases hkind:x.kind=0
  ·skip
   have hkd2:(x.kind !=0)=false:=by rw[hkind];rfl
   go_upto_region 8 with fail
   have hbn:=(below_new wr (.cells #[.int .u8 0,.slice AA nx ac,.slice EA ne ec] 54)).trans ((below_new (wr.alloc (.cells #[.int .u8 0,.slice AA nx ac,.slice EA ne ec] 54)) (.cells #[.int .i64 (-1)] 3)).mono (by simp))
   have x2:((wr.alloc (.cells #[.int .u8 0,.slice AA nx ac,.slice EA ne ec] 54)).alloc (.cells #[.int .i64 (-1)] 3)).cell? ⟨wr.heap.size,2,none⟩=some (.slice EA ne ec):=((below_new (wr.alloc (.cells #[.int .u8 0,.slice AA nx ac,.slice EA ne ec] 54)) (.cells #[.int .i64 (-1)] 3)).cell (p:=⟨wr.heap.size,2,none⟩) (by simp)).trans (cell_new wr _ _ 2)
   have y0:((wr.alloc (.cells #[.int .u8 0,.slice AA nx ac,.slice EA ne ec] 54)).alloc (.cells #[.int .i64 (-1)] 3)).cell? ⟨wr.heap.size+1,0,none⟩=some (.int .i64 (-1)):=by
    have:=cell_new (wr.alloc (.cells #[.int .u8 0,.slice AA nx ac,.slice EA ne ec] 54)) #[.int .i64 (-1)] 3 0
    rw[size_alloc]at this
    exact this
   have z0:((wr.alloc (.cells #[.int .u8 0,.slice AA nx ac,.slice EA ne ec] 54)).alloc (.cells #[.int .i64 (-1)] 3)).frozen? ⟨wr.heap.size+1,0,none⟩=false:=by
    have:=frozen_new (wr.alloc (.cells #[.int .u8 0,.slice AA nx ac,.slice EA ne ec] 54)) #[.int .i64 (-1)] 3 0
    rw[size_alloc]at this
    exact this
   have hs2:((wr.alloc (.cells #[.int .u8 0,.slice AA nx ac,.slice EA ne ec] 54)).alloc (.cells #[.int .i64 (-1)] 3)).heap.size=wr.heap.size+2:=by simp
   generalize (wr.alloc (.cells #[.int .u8 0,.slice AA nx ac,.slice EA ne ec] 54)).alloc (.cells #[.int .i64 (-1)] 3)=w2 at*
   have HBN:=hid hbn
   clear hbn s0 s1 s2 r1 c0 hnx
   generalize hxb:wr.heap.size=xb at*
   go_upto_if 39 with fail
   go_cut[]from 11 to 74 (fun wc=>Hid (Below xb wr wc∧wc.cell? ⟨xb+1,0,none⟩=some (.int .i64 (tokAt toks pos))∧wc.cell? ⟨xb,2,none⟩=some (.slice EA ne ec)∧wc.heap.size=xb+2))
   case first=>
    have hb2:=HBN.out
    by_cases hp:pos<toks.length
    ·obtain⟨wb,wo,hWA,hwb,hwc⟩:=readsZ (HW.out.below ((HB0.out.mono hB).trans (hb2.mono (show B≤xb by omega)))) (Below.refl _ _) pos hp
     have HT:=hid (show tokAt toks pos=toks[pos] by unfold tokAt;rw[if_pos hp];simp[List.getD,hp])
     have hp2:(pos:Int)<(toks.length:Int):=by omega
     clear hb2
     subst hWA
     go_wp2_with fail
     go_meet
     case rel=>
      have hb3:Below xb w2 (w2.setCell ⟨xb+1,0,none⟩ (.int .i64 toks[pos])):=(Below.refl xb w2).setCell (p:=⟨xb+1,0,none⟩) (by show xb≤xb+1;omega) _
      refine⟨HBN.out.trans hb3,?_,cell_set_far (by simp) x2,by simpa using hs2⟩
      rw[HT.out]
      exact cell_set_self y0
    ·have HT:=hid (show tokAt toks pos= -1 by unfold tokAt;rw[if_neg hp])
     have hp2:¬(pos:Int)<(toks.length:Int):=by omega
     clear hb2
     go_wp2_with fail
     go_meet
     case rel=>exact⟨HBN.out,by rw[HT.out];exact y0,x2,hs2⟩
   case rest=>
    obtain⟨hbc,y1,x2,hs3⟩:=hcut.out
    clear y0 z0 hs2 hcut
    generalize hty:tokAt toks pos=tok at*
    have hrl:Drv.runL a toks (m+1) (k:Int) pos=match x.edges.find? (fun e=>e.1==tok)with
     | none=>(2,[],(pos:Int))
     | some e=>if toks.length<pos∨(pos<toks.length∧tok<0)then(2,[],(pos:Int))else Drv.runL a toks m e.2 (pos+1):=by
     conv=>lhs;unfold Drv.runL
     rw[if_neg (by omega)]
     simp only[HG.out]
     rw[if_neg (by simpa using hkind)]
     have:(if pos<toks.length then toks.getD pos 0 else -1)=tok:=hty
     simp only[this]
     cases x.edges.find? (fun e=>e.1==tok) <;> rfl
    have HRL:=hid (HR.out.symm.trans hrl)
    have hbc0:Below w.heap.size w wc:=HB0.out.trans (hbc.mono (by omega))
    have HBC:=hid hbc0
    have HXC:=hid hbc
    have R2:=hid (r2.below (hbc.mono (show B≤xb by omega)))
    rw[hne]at R2
    have hx5:=hal.2
    rw[hne]at hx5
    have hip:=indexLE_any 100 #[.pointer (some ⟨xb+1,0,none⟩)] (fun e:Int×Int=>e.1==tok) (fun _ _=>by kernel_rfl) EA ec B x.edges (flat encLE x.edges) wc (by omega) (by omega) (by rw[hne];exact R2.out) (by
     intro wq i x0 x1 hi h0 h1 hbq
     have g0:=flat_get encLE 2 (fun _=>rfl) x.edges i hi 0 (by omega)
     have g1:=flat_get encLE 2 (fun _=>rfl) x.edges i hi 1 (by omega)
     rw[Nat.add_zero]at g0
     rw[h0]at g0
     rw[h1]at g1
     have g0:some x0=some (.int .i64 x.edges[i].1):=g0
     have g1:some x1=some (.int .i64 x.edges[i].2):=g1
     injection g0 with g0
     injection g1 with g1
     rw[g0,g1]
     exact run1_any x.edges[i] tok (xb+1) wq ((hbq.cell (p:=⟨xb+1,0,none⟩) (by show xb+1<_;omega)).trans y1) (by have:=hbq.size;omega))
    rw[hne]at hip
    have HKI:=hid hkind
    clear hrl hbc hbc0 HR r2 hkind HG hty
    go_upto_region 11 with(go_at_call 99;refine hip.mono ?_;rintro e w4 ⟨rfl,hb4⟩)
    have hsz4:=hb4.size
    have y1:=(hb4.cell (p:=⟨xb+1,0,none⟩) (by show xb+1<_;omega)).trans y1
    have x2:=(hb4.cell (p:=⟨xb,2,none⟩) (by show xb<_;omega)).trans x2
    have HB4:=hid (HBC.out.trans (hb4.mono (by omega)))
    have HBQ:=hid ((HXC.out.trans (hb4.mono (show xb≤wc.heap.size by omega))).mono (show w.heap.size+1≤xb by omega))
    have R4:=hid (R2.out.below (hb4.mono (show B≤wc.heap.size by omega)))
    clear hip hb4 HBC R2
    have he1:IntKind.i64.wrap ((pos:Int)+1)=((pos+1:Nat):Int):=by
     have:((pos:Int)+1)=((pos+1:Nat):Int):=by omega
     rw[this];exact w64 (by omega) (by omega)
    rcases idx_find (fun e:Int×Int=>e.1==tok) x.edges with⟨hi,hf⟩ | ⟨i,hil,hi,hf⟩
    ·have HF:=hid HRL.out
     rw[hf]at HF
     rw[hi]
     have hdi:decide ((-1:Int)<0)=true:=rfl
     clear HRL hf hi
     go_wp2_with fail
     go_ret3
     refine⟨none,0,?_,?_,HB4.out⟩
     ·rw[HF.out];rfl
     ·rw[HF.out];exact⟨rfl,.inl ⟨rfl,rfl⟩⟩
    ·have HF:=hid HRL.out
     rw[hf]at HF
     simp only at HF
     rw[hi]
     have hdi:decide ((i:Int)<0)=false:=by simp
     clear HRL hf hi
     by_cases hgt:toks.length<pos
     ·have hd3:decide (toks.length<pos)=true:=by simpa using hgt
      have HF:=hid (HF.out.trans (if_pos (.inl hgt)))
      clear hgt he1
      go_wp2_with fail
      go_ret3
      refine⟨none,0,?_,?_,HB4.out⟩
      ·rw[HF.out];rfl
      ·rw[HF.out];exact⟨rfl,.inl ⟨rfl,rfl⟩⟩
     have hd3:decide (toks.length<pos)=false:=by simpa using hgt
     by_cases hpt:pos<toks.length∧tok<0
     ·have hd4:decide (pos<toks.length)=true:=by simpa using hpt.1
      have hd5:decide (tok<0)=true:=by simpa using hpt.2
      have HF:=hid (HF.out.trans (if_pos (.inr hpt)))
      clear hgt he1 hpt
      go_wp2_with fail
      go_ret3
      refine⟨none,0,?_,?_,HB4.out⟩
      ·rw[HF.out];rfl
      ·rw[HF.out];exact⟨rfl,.inl ⟨rfl,rfl⟩⟩
     have HF:=hid (HF.out.trans (if_neg (fun e=>e.elim hgt hpt)))
     have hle:pos≤toks.length:=by omega
     obtain⟨b5,o5,rfl,hb5,hc5⟩:=R4.out.2 (by omega)
     have s5:=hc5 (i*2+1) _ (flat_get encLE 2 (fun _=>rfl) x.edges i hil 1 (by omega))
     have s5:w4.cell? ⟨b5,o5+(i*2+1),none⟩=some (.int .i64 x.edges[i].2):=s5
     rw[←Nat.add_assoc]at s5
     generalize x.edges[i].2=nxt at*
     have hil2:i<ne:=by omega
     have hil3:(i:Int)<(ne:Int):=by omega
     clear hgt
     rcases Nat.lt_or_ge pos toks.length with hp | hp
     ·have hd4:decide (pos<toks.length)=true:=by simpa using hp
      have hd5:decide (tok<0)=false:=by
       rw[decide_eq_false_iff_not]
       exact fun e=>hpt ⟨hp,e⟩
      clear hpt hp
      go_wp2_with fail
      go_roundg m
      case measure=>omega
      case rel=>exact⟨pos+1,nxt,by omega,by omega,rfl,rfl,hid HF.out.symm,HB.out.trans (HBQ.out)⟩
     ·have hd4:decide (pos<toks.length)=false:=by simpa using hp
      clear hpt hp
      go_wp2_with fail
      go_roundg m
      case measure=>omega
      case rel=>exact⟨pos+1,nxt,by omega,by omega,rfl,rfl,hid HF.out.symm,HB.out.trans (HBQ.out)⟩
  ·have hfin:Drv.runL a toks (m+1) (k:Int) pos=(x.kind,x.alts,(pos:Int)):=by
    unfold Drv.runL
    rw[if_neg (by omega)]
    simp only[HG.out]
    rw[if_pos hkind]
   have HF:=hid (HR.out.symm.trans hfin)
   have R1:=hid r1
   have hkd:(x.kind==0)=false:=by simpa using hkind
   have hkd2:(x.kind !=0)=true:=by simpa using hkind
   have hax:=hal.1
   clear hfin HR hkind r1 r2 hal
   generalize hkv:x.kind=kv at*
   go_upto_region 6 with fail
   have hbn:=below_new wr (.cells #[.int .u8 kv,.slice AA nx ac,.slice EA ne ec] 54)
   have x0:(wr.alloc (.cells #[.int .u8 kv,.slice AA nx ac,.slice EA ne ec] 54)).cell? ⟨wr.heap.size,0,none⟩=some (.int .u8 kv):=cell_new wr _ _ 0
   have x1:(wr.alloc (.cells #[.int .u8 kv,.slice AA nx ac,.slice EA ne ec] 54)).cell? ⟨wr.heap.size,1,none⟩=some (.slice AA nx ac):=cell_new wr _ _ 1
   have hs1:(wr.alloc (.cells #[.int .u8 kv,.slice AA nx ac,.slice EA ne ec] 54)).heap.size=wr.heap.size+1:=size_alloc _ _
   generalize wr.alloc (.cells #[.int .u8 kv,.slice AA nx ac,.slice EA ne ec] 54)=w1 at*
   generalize hxb:wr.heap.size=xb at*
   rw[←hxb]at hbn
   have R2:=hid ((R1.out.below (hbn.drew.mono (show B≤wr.heap.size by omega))))
   rw[hnx]at R2
   have HNX:=hid hnx
   have hCl:=cloneZ_any AA nx ac B _ w1.drew (by omega) R2.out (by intro u hu;obtain⟨y,_,rfl⟩:=List.mem_map.1 hu;rfl)
   have hbw:Below w.heap.size w w1.drew:=HB0.out.trans (hbn.drew.mono (by omega))
   have HBW:=hid hbw
   clear R1 R2 hbn hbw s0 s1 s2 c0
   go_region_held3 (fun w'=>w'.cell? ⟨xb,0,none⟩=some (.int .u8 kv)∧w'.cell? ⟨xb,1,none⟩=some (.slice AA nx ac)) (first | assumption | exact⟨x0,x1⟩ | (exact⟨(hb2.cell (p:=⟨xb,0,none⟩) (by show xb<w1.heap.size;omega)).trans x0,(hb2.cell (p:=⟨xb,1,none⟩) (by show xb<w1.heap.size;omega)).trans x1⟩)) (first | (go_simp;go_at_call 47;refine hCl.mono ?_;rintro e w2 ⟨A',c',rfl,hown,hb2⟩;dsimp only) | (go_simp;go_at_call 98;refine(clipZ_any A' nx c' _ (OwnC.of hown).form2).mono ?_;rintro e w3 ⟨rfl,rfl⟩;dsimp only))
   have HO:=hid hown
   have HB3:=hid (HBW.out.trans (hb2.mono (show w.heap.size≤w1.heap.size by omega)))
   clear hCl hown hb2 x0 x1
   go_wp2
   go_ret3
   refine⟨A',nx,?_,?_,HB3.out⟩
   ·rw[HF.out]
    show _=Ending.returned (.tuple #[.int .u8 kv,.slice A' x.alts.length nx,.int .i64 (pos:Int)])
    rw[HNX.out];rfl
   ·rw[HF.out];simp only[HNX.out]
    exact((OwnC.of HO.out).clip).base (show w.heap.size≤w1.heap.size by omega)
end Go.Proofs.Ytgflanlniejflaa
