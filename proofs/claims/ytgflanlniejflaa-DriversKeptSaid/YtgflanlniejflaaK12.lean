/-
  Drivers: Rf1, AppR, Rf2 (texts joined).
-/
import Derived.Test.YtgflanlniejflaaK01
import Derived.Test.YtgflanlniejflaaK04
import Derived.Test.YtgflanlniejflaaK08
import Derived.Test.YtgflanlniejflaaK10
import Derived.Test.YtgflanlniejflaaK11
namespace Go.Proofs.Ytgflanlniejflaa
open Go.RowKit Go.Maps
open Go.Sort (grow)
set_option maxRecDepth 100000
structure Rf where
 B0:Nat
 P:Nat
 D:Nat
 WA:Option Addr
 wc:Nat
 c:Drv.DC
def rfCells (f:Rf) (opn:Int) (p:Drv.PS) (kv:Value):Array Value:=#[.pointer (some ⟨f.D,0,none⟩),.slice f.WA f.c.w.length f.wc,.int .i64 f.c.fuel,.int .i64 f.c.depth,.int .i64 opn,.int .i64 p.used,.int .i64 p.deep,.int .i64 p.spec,kv,.int .i64 p.err]
def encK (e:Drv.K4):List Value:=[.int .i64 e.1,.int .i64 e.2.1,.int .i64 e.2.2.1,.int .i64 e.2.2.2]
structure RpAt (w:World) (f:Rf) (kv:Value) (opn:Int) (p:Drv.PS):Prop where
 blk:w.heap[f.P]? =some (.cells (rfCells f opn p kv) 103 (0,0))
 row:w.ownsRow f.B0 183 4 kv p.known.length (flat encK p.known)
 geP:f.B0≤f.P
def RT (f:Rf) (kv:Value) (k:Nat):Prop:=k=f.P∨kv.ownBlock=some k
section
variable {w w':World}{f:Rf}{kv:Value}{opn:Int}{p:Drv.PS}
theorem RpAt.lt (h:RpAt w f kv opn p):∀k,RT f kv k→f.B0≤k∧k<w.heap.size:=by
 rintro k (rfl | hk)
 ·exact⟨h.geP,heap_lt h.blk⟩
 ·exact h.row.lt k hk
theorem RpAt.neP (h:RpAt w f kv opn p):kv.ownBlock≠some f.P:=row_not h.row h.blk (by decide)
theorem RpAt.only (h:RpAt w f kv opn p){S:Nat→Prop}(ho:Only S w w') (hS:∀k,RT f kv k→¬S k):RpAt w' f kv opn p:=
 ⟨(ho.block _ (heap_lt h.blk) (hS _ (.inl rfl))).trans h.blk,ownsRow_only h.row ho fun k e=>hS k (.inr e),h.geP⟩
theorem RpAt.cell (h:RpAt w f kv opn p) (j:Nat):w.cell? ⟨f.P,j,none⟩=(rfCells f opn p kv)[j]?∧w.frozen? ⟨f.P,j,none⟩=false:=
 ⟨by rw[Lib.cell_of_heap h.blk],Lib.frozen_of_heap h.blk j⟩
theorem RpAt.set (h:RpAt w f kv opn p){opn':Int}{p':Drv.PS}(j:Nat) (x:Value) (hc:(rfCells f opn p kv).setIfInBounds j x=rfCells f opn' p' kv) (hk:p'.known=p.known):RpAt (w.setCell ⟨f.P,j,none⟩ x) f kv opn' p':=
 ⟨by rw[←hc];exact heap_setCell_same w _ j _ _ _ h.blk,by rw[hk];exact ownsRow_only h.row (Only.of_set w f.P j x) (fun k e e2=>h.neP (by rw[e,e2])),h.geP⟩
theorem RpAt.below {S:Nat→Prop}(h:RpAt w f kv opn p) (ho:Only S w w') (hS:∀j,S j→f.B0≤j):Below f.B0 w w':=ho.below' hS (by
 have:=heap_lt h.blk
 have:=h.geP
 omega)
end
namespace Drv
theorem know_cons (e:K4) (K:List K4) (a b q:Int):know (e ::K) a b q=if(e.1==a && e.2.1==b && e.2.2.1==q)=true then some e.2.2.2 else know K a b q:=by
 unfold know
 rw[List.find?_cons]
 by_cases h:(e.1==a && e.2.1==b && e.2.2.1==q)=true
 ·rw[h];rfl
 ·rw[if_neg h]
  have h:(e.1==a && e.2.1==b && e.2.2.1==q)=false:=by simpa using h
  rw[h]
theorem know_hit {K:List K4}{a b q:Int}{k:Nat}(hk:k<K.length) (h:∀j (hj:j<K.length),j<k→(K[j].1==a && K[j].2.1==b && K[j].2.2.1==q)=false) (hm:(K[k].1==a && K[k].2.1==b && K[k].2.2.1==q)=true):know K a b q=some K[k].2.2.2:=by
 induction K generalizing k with
 | nil=>simp at hk
 | cons e K ih=>
  rw[know_cons]
  cases k with
  | zero=>exact if_pos hm
  | succ k=>
   rw[if_neg (by have:=h 0 (by simp) (by omega);simp only[List.getElem_cons_zero]at this;rw[this];decide)]
   exact ih (by simpa using hk) (fun j hj hjk=>h (j+1) (by simpa using hj) (by omega)) hm
theorem know_miss {K:List K4}{a b q:Int}(h:∀j (hj:j<K.length),(K[j].1==a && K[j].2.1==b && K[j].2.2.1==q)=false):know K a b q=none:=by
 induction K with
 | nil=>rfl
 | cons e K ih=>
  rw[know_cons,if_neg (by have:=h 0 (by simp);simp only[List.getElem_cons_zero]at this;rw[this];decide)]
  exact ih fun j hj=>h (j+1) (by simpa using hj)
end Drv
theorem flatK_at (K:List Drv.K4) (k:Nat) (h:k<K.length):(flat encK K)[k*4]? =some (.int .i64 K[k].1)∧(flat encK K)[k*4+1]? =some (.int .i64 K[k].2.1)∧(flat encK K)[k*4+2]? =some (.int .i64 K[k].2.2.1)∧(flat encK K)[k*4+3]? =some (.int .i64 K[k].2.2.2):=
 ⟨flat_get encK 4 (fun _=>rfl) K k h 0 (by omega),flat_get encK 4 (fun _=>rfl) K k h 1 (by omega),flat_get encK 4 (fun _=>rfl) K k h 2 (by omega),flat_get encK 4 (fun _=>rfl) K k h 3 (by omega)⟩
def KnowP (K:List Drv.K4) (a b q:Int) (w:World) (e:Ending) (w':World):Prop:=e= .returned (.tuple #[.int .i64 ((Drv.know K a b q).getD 0),.bool (Drv.know K a b q).isSome])∧w'=w
theorem knowP_hit {K:List Drv.K4}{a b q t:Int}{w:World}(h:Drv.know K a b q=some t):KnowP K a b q w (.returned (.tuple #[.int .i64 t,.bool true])) w:=⟨by rw[h];rfl,rfl⟩
theorem knowP_miss {K:List Drv.K4}{a b q:Int}{w:World}(h:Drv.know K a b q=none):KnowP K a b q w (.returned (.tuple #[.int .i64 0,.bool false])) w:=⟨by rw[h];rfl,rfl⟩
set_option maxHeartbeats 3200000 in
theorem rknow_any (w:World) (f:Rf) (kv:Value) (opn:Int) (p:Drv.PS) (a b q:Int) (h:RpAt w f kv opn p) (hn:p.known.length≤1000000):
 Calls Try.prog 78 #[.pointer (some ⟨f.P,0,none⟩),.int .i64 a,.int .i64 b,.int .i64 q] w (KnowP p.known a b q w):=by
 obtain⟨A,c,rfl,hr,_⟩:=Reads.own h.row
 have c8:=(h.cell 8).1
 simp only[rfCells,List.getElem?_toArray,List.getElem?_cons_succ,List.getElem?_cons_zero]at c8
 clear h
 obtain⟨K,hK⟩:∃K,p.known=K:=⟨_,rfl⟩
 rw[hK]at hr c8 hn⊢
 clear hK
 obtain⟨n,hnn⟩:∃n,K.length=n:=⟨_,rfl⟩
 rw[hnn]at hr c8 hn
 have HN:=hid hnn
 have HR:=hid hr
 clear hnn hr
 go_enter Try.func78,Try.ntmps78
 go_wp2_with fail
 go_loop [10] (fun i=>∃k:Nat,k≤n∧i= .int .i64 k∧Hid (∀j (hj:j<K.length),j<k→(K[j].1==a && K[j].2.1==b && K[j].2.2.1==q)=false)) (fun i=>n-(intOf i).toNat)
 case atStart=>exact⟨0,Nat.zero_le _,rfl,hid fun j _ hj=>absurd hj (Nat.not_lt_zero _)⟩
 case round=>
  obtain⟨k,hk,rfl,hJ⟩:=hrel
  by_cases hlt:k<n
  ·have hkl:k<K.length:=by rw[HN.out];exact hlt
   obtain⟨g,off,rfl,hg,hc⟩:=HR.out.2 (by omega)
   obtain⟨f0,f1,f2,f3⟩:=flatK_at K k hkl
   have x0:=hc _ _ f0
   have x1:=hc _ _ f1
   have x2:=hc _ _ f2
   have x3:=hc _ _ f3
   have HITS:=hid fun hm=>Drv.know_hit (a:=a) (b:=b) (q:=q) hkl (fun j hj hjk=>hJ.out j hj hjk) hm
   have NEXT:=hid fun(hm:(K[k].1==a && K[k].2.1==b && K[k].2.2.1==q)=false)=>(show∀j (hj:j<K.length),j<k+1→(K[j].1==a && K[j].2.1==b && K[j].2.2.1==q)=false from fun j hj hjk=>by
    rcases Nat.lt_succ_iff_lt_or_eq.1 hjk with h | rfl
    ·exact hJ.out j hj h
    ·exact hm)
   generalize K[k]=e at x0 x1 x2 x3 HITS NEXT
   obtain⟨e1,e2,e3,e4⟩:=e
   simp only at x0 x1 x2 x3
   rw[←Nat.add_assoc]at x1 x2 x3
   clear hc f0 f1 f2 f3 hJ
   have hltI:(k:Int)<(n:Int):=by omega
   cases b1:(e1==a)with
   | false=>
    have HF:=hid (NEXT.out (by rw[b1];rfl))
    go_wp2_with fail
    go_round
    case rel=>exact⟨k+1,by omega,by go_num,HF⟩
    case measure=>simp[intOf];omega
   | true=>
    cases b2:(e2==b)with
    | false=>
     have HF:=hid (NEXT.out (by rw[b1,b2];rfl))
     go_wp2_with fail
     go_round
     case rel=>exact⟨k+1,by omega,by go_num,HF⟩
     case measure=>simp[intOf];omega
    | true=>
     cases b3:(e3==q)with
     | false=>
      have HF:=hid (NEXT.out (by rw[b1,b2,b3];rfl))
      go_wp2_with fail
      go_round
      case rel=>exact⟨k+1,by omega,by go_num,HF⟩
      case measure=>simp[intOf];omega
     | true=>
      have HF:=hid (HITS.out (by rw[b1,b2,b3];rfl))
      go_wp2_with fail
      go_ret2
      exact knowP_hit HF.out
  ·have hkn:k=n:=by omega
   subst hkn
   have HF:=hid (Drv.know_miss fun j hj=>hJ.out j hj (by rw[←HN.out];exact hj))
   clear hJ
   go_wp2_with fail
   go_ret2
   exact knowP_miss HF.out
def RPayP (f:Rf) (kv:Value) (opn:Int) (p:Drv.PS) (n:Int) (w:World) (e:Ending) (w':World):Prop:=
 Only (fun k=>k=f.P) w w'∧((f.c.fuel<p.used+n∧e= .returned (.bool false)∧RpAt w' f kv opn {p with err:=6})∨(¬f.c.fuel<p.used+n∧e= .returned (.bool true)∧RpAt w' f kv opn {p with used:=p.used+n}))
set_option maxHeartbeats 1600000 in
theorem rpay_any (w:World) (f:Rf) (kv:Value) (opn:Int) (p:Drv.PS) (n:Int) (h:RpAt w f kv opn p) (hu0:0≤p.used) (hu1:p.used≤1000000) (hn0:0≤n) (hn1:n≤1000000):
 Calls Try.prog 77 #[.pointer (some ⟨f.P,0,none⟩),.int .i64 n] w (RPayP f kv opn p n w):=by
 have c2:=(h.cell 2).1
 have c5:=(h.cell 5).1
 simp only[rfCells,List.getElem?_toArray,List.getElem?_cons_succ,List.getElem?_cons_zero]at c2 c5
 have e1:IntKind.i64.wrap (p.used+n)=p.used+n:=w64 (by omega) (by omega)
 have H:=hid h
 clear h
 obtain⟨bd,hbd⟩:∃bd,decide (f.c.fuel<p.used+n)=bd:=⟨_,rfl⟩
 go_enter Try.func77,Try.ntmps77
 go_upto_region 1 with fail
 go_quiet (fail)
 have ho1:=(Only.refl (fun _=>False) w).none_drew nq
 have h1:=H.out.only ho1 (fun _ _ e=>e)
 generalize w.drewN nq=w1 at ho1 h1⊢
 clear c2 c5
 have c2:=(h1.cell 2).1
 have c5:=(h1.cell 5).1
 have z5:=(h1.cell 5).2
 have c9:=(h1.cell 9).1
 have z9:=(h1.cell 9).2
 simp only[rfCells,List.getElem?_toArray,List.getElem?_cons_succ,List.getElem?_cons_zero]at c2 c5 c9
 have h2:=h1.set (opn':=opn) (p':={p with err:=6}) 9 (.int .i64 6) rfl rfl
 have h3:=h1.set (opn':=opn) (p':={p with used:=p.used+n}) 5 (.int .i64 (p.used+n)) rfl rfl
 have HO2:=hid ((ho1.more (S':=fun k=>k=f.P) fun _ _ e=>e.elim).trans (Only.of_set w1 f.P 9 (.int .i64 6)) fun _ _ e=>e)
 have HO3:=hid ((ho1.more (S':=fun k=>k=f.P) fun _ _ e=>e.elim).trans (Only.of_set w1 f.P 5 (.int .i64 (p.used+n))) fun _ _ e=>e)
 have H2:=hid h2
 have H3:=hid h3
 clear h2 h3 ho1 h1 H
 cases bd with
 | true=>
  have hD:=hid (of_decide_eq_true hbd)
  clear hbd
  go_wp2_with fail
  go_ret
  exact⟨HO2.out,.inl ⟨hD.out,rfl,H2.out⟩⟩
 | false=>
  have hD:=hid (of_decide_eq_false hbd)
  clear hbd
  go_wp2_with fail
  go_ret
  exact⟨HO3.out,.inr ⟨by have:=hD.out;omega,rfl,H3.out⟩⟩
def RSayP (f:Rf) (kv:Value) (opn:Int) (p:Drv.PS) (a b q t:Int) (w:World) (e:Ending) (w':World):Prop:=
 e= .returned (.tuple #[])∧Only (RT f kv) w w'∧∃kv',RpAt w' f kv' opn {p with known:=Drv.say p.known a b q t}∧∀k,kv'.ownBlock=some k→kv.ownBlock=some k∨w.heap.size≤k
theorem infoKn:(Try.prog.info? 183).map (fun i=>(i.zero,i.size,i.bytes))=some (some (.agg #[.int .i64 0,.int .i64 0,.int .i64 0,.int .i64 0]),4,32):=by kernel_rfl
set_option maxHeartbeats 3200000 in
theorem rsay_any (w:World) (f:Rf) (kv:Value) (opn:Int) (p:Drv.PS) (a b q t:Int) (h:RpAt w f kv opn p) (hn:p.known.length≤1000000) (hB:f.B0≤w.heap.size):
 Calls Try.prog 79 #[.pointer (some ⟨f.P,0,none⟩),.int .i64 a,.int .i64 b,.int .i64 q,.int .i64 t] w (RSayP f kv opn p a b q t w):=by
 obtain⟨i0,hi,hz0,hz1,hz2⟩:=info_of infoKn
 have hk:=rknow_any w f kv opn p a b q h hn
 unfold KnowP at hk
 cases hkn:Drv.know p.known a b q with
 | some u=>
  rw[hkn]at hk
  have hs:Drv.say p.known a b q t=p.known:=by unfold Drv.say;rw[hkn]
  have HF:Hid (RSayP f kv opn p a b q t w (.returned (.tuple #[])) w):=hid ⟨rfl,Only.refl _ _,kv,by rw[hs];exact h,fun k e=>.inl e⟩
  have HK:=hid hk
  clear h hk hkn hs
  go_enter Try.func79,Try.ntmps79
  go_wp2_with fail
  refine HK.out.mono ?_
  rintro e w1 ⟨rfl,rfl⟩
  dsimp only[Option.isSome]
  go_wp2_with fail
  go_end0
  exact HF.out
 | none=>
  rw[hkn]at hk
  have hs:Drv.say p.known a b q t=p.known++ [(a,b,q,t)]:=by unfold Drv.say;rw[hkn]
  obtain⟨A,cK,rfl,_,_⟩:=Reads.own h.row
  have c8:=(h.cell 8).1
  simp only[rfCells,List.getElem?_toArray,List.getElem?_cons_succ,List.getElem?_cons_zero]at c8
  have hown:=h.row
  obtain⟨n,hnn⟩:∃n,p.known.length=n:=⟨_,rfl⟩
  obtain⟨xs,hxs⟩:∃xs,flat encK p.known=xs:=⟨_,rfl⟩
  rw[hnn,hxs]at hown
  rw[hnn]at hn c8
  have hPlt:=heap_lt h.blk
  have hne:=h.neP
  rw[hnn]at hne
  have H:=hid h
  have HK:=hid hk
  have HS:=hid hs
  have HN:=hid hnn
  have HX:=hid hxs
  rw[hnn]at H
  clear hk hkn hs hxs
  have HB:=hid h.blk
  rw[hnn]at HB
  rw[hnn]
  clear h hnn
  go_enter Try.func79,Try.ntmps79
  go_wp2_with fail
  refine HK.out.mono ?_
  rintro e w1 ⟨rfl,rfl⟩
  dsimp only[Option.isSome,Option.getD]
  go_wp2_with (at_builtin;go_must (refine wpList_push4 w1 rfl _ _ 101 rfl f.B0 183 i0 _ 4 32 Try.underlying101 hi hz0 hz1 hz2 rfl (by omega) (.slice A n cK) n xs rfl hown [.int .i64 a,.int .i64 b,.int .i64 q,.int .i64 t] 1 w1.heap.size rfl rfl rfl (by simp[Value.oneCell']) Nat.zero_lt_one (by simp only[maxLen];omega) (by omega) hB ?_);intro g9 c9 w9 hown9 hg9 ho9;have b9:=(ho9.block f.P hPlt hne).trans HB.out;have hc9:w9.cell? ⟨f.P,8,none⟩=some (.slice A n cK):=(by rw[Lib.cell_of_heap b9];rfl);have hf9:w9.frozen? ⟨f.P,8,none⟩=false:=Lib.frozen_of_heap b9 8)
  go_end0
  have hgP:g9≠f.P:=fun e=>by
   rcases hg9 with h1 | h1
   ·exact hne (by rw[h1,e])
   ·omega
  refine⟨rfl,(ho9.more fun _ _ e=>.inr e).trans (Only.of_set w9 f.P 8 _) fun k _ e=>.inl e,.slice (some ⟨g9,0,none⟩) (n+1) c9,⟨?_,?_,H.out.geP⟩,fun k e=>?_⟩
  ·exact heap_setCell_same w9 _ 8 _ _ _ b9
  ·have h1:=ownsRow_only hown9 (Only.of_set w9 f.P 8 (.slice (some ⟨g9,0,none⟩) (n+1) c9)) (fun k e e2=>by
    have e:some g9=some k:=e
    injection e with e
    exact hgP (e.trans e2))
   have e1:(Drv.say p.known a b q t).length=n+1:=by rw[HS.out,List.length_append,HN.out];rfl
   have e2:flat encK (Drv.say p.known a b q t)=xs++ [.int .i64 a,.int .i64 b,.int .i64 q,.int .i64 t]:=by rw[HS.out,flat_snoc,HX.out];rfl
   show World.ownsRow _ _ _ _ _ (Drv.say p.known a b q t).length (flat encK (Drv.say p.known a b q t))
   rw[e1,e2]
   exact h1
  ·have e:some g9=some k:=e
   injection e with e
   subst e
   rcases hg9 with h1 | h1
   ·exact .inl h1
   ·exact .inr (by omega)
end Go.Proofs.Ytgflanlniejflaa
namespace Go.Proofs.Ytgflanlniejflaa
open Go.RowKit
theorem wp_append_reads {P:Program}(w:World){o:Oper}{a:Act}{K:Act→World→Prop}{Q:Exit→Act→World→Prop}(s x:Operand) (t:TypeId)
 (ho:o.op= .call {callee:=.builtin .append,args:=#[s,x],argTypes:=#[t,t]})
 (base:Nat) (e:TypeId) (i:TypeInfo) (z:Value) (size bytes:Nat) (ht:P.underlying t=some (.slice e)) (hi:P.info? e=some i) (hz:i.zero=some z)
 (hsize:i.size=size) (hby:i.bytes=bytes) (hzs:z.cells.size=size) (hsz:0<size)
 (v:Value) (n:Nat) (xs:List Value) (hs:a.eval s=v) (hown:w.ownsRow base e size v n xs)
 (B:Nat) (A:Option Addr) (m c:Nat) (news:List Value) (hx:a.eval x= .slice A m c) (hr:Reads w B size A m news) (h1:∀u∈news,u.oneCell'=true)
 (h63:n+m≤maxLen) (hbytes:(n+m)*bytes≤140737488355328) (hbase:base≤w.heap.size)
 (h:∀v' w',w'.ownsRow base e size v' (n+m) (xs++news)→Only (fun k=>some k=v.ownBlock) w w'→K (a.put o.dst v') w'):o.wp P a w K Q:=by
 rcases A with _ | ad
 ·have hm:m=0:=by
   rcases Nat.eq_zero_or_pos m with h0 | h0
   ·exact h0
   ·obtain⟨_,_,h,_⟩:=hr.2 h0
    cases h
  subst hm
  have hn:news= []:=List.eq_nil_of_length_eq_zero (by simpa using hr.1)
  subst hn
  have hrun:(Builtin.append_ #[t,t] o.type #[v,.slice none 0 c]).run P w= .ok v w:=by
   rcases hown.2 with⟨rfl,rfl⟩ | ⟨g,cap,cur,rfl,_,_,hnc,_⟩
   ·simp[Builtin.append_,run_underlying ht,sizeOf,typeInfo,hi,Builtin.lenOf,Builtin.firstCells]
   ·simp[Builtin.append_,run_underlying ht,sizeOf,typeInfo,hi,Builtin.lenOf,Builtin.firstCells,hnc,storeCells]
  unfold Oper.wp execOp
  simp only[ho,resolve,invoke,builtin,Sem.run_bind,Sem.run_pure,Result.andThen_ok,List.map_toArray,List.map_cons,List.map_nil,hs,hx,hrun]
  exact h v w (by simpa using hown) (Only.refl _ _)
 ·refine wp_append_own (P:=P) w s x t ho base e i z size bytes ht hi hz hsize hby hzs hsz v n xs hs hown ad m c news hx hr.1 ?_ h1 h63 hbytes hbase ?_
  ·intro j u hu
   rcases Nat.eq_zero_or_pos m with h0 | h0
   ·subst h0
    have hn:news= []:=List.eq_nil_of_length_eq_zero (by simpa using hr.1)
    subst hn
    simp at hu
   ·obtain⟨b,off,hA,_,hc⟩:=hr.2 h0
    injection hA with hA
    subst hA
    have:=hc j u hu
    have e:(⟨b,off,none⟩:Addr).add j=⟨b,off+j,none⟩:=by
     unfold Addr.add;by_cases h:j=0 <;> simp[h]
    rw[e];exact this
  ·intro v' w' ho' hg _
   exact h v' w' ho' (Only.of_grown hg)
theorem step_append_reads {P:Program}(w:World){ops:Array Oper}{o:Oper}{a:Act}{K:Act→World→Prop}{Q:Exit→Act→World→Prop}{E:Prop}(hgd:o.guard=none) (s x:Operand) (t:TypeId)
 (ho:o.op= .call {callee:=.builtin .append,args:=#[s,x],argTypes:=#[t,t]})
 (base:Nat) (e:TypeId) (i:TypeInfo) (z:Value) (size bytes:Nat) (ht:P.underlying t=some (.slice e)) (hi:P.info? e=some i) (hz:i.zero=some z)
 (hsize:i.size=size) (hby:i.bytes=bytes) (hzs:z.cells.size=size) (hsz:0<size)
 (v:Value) (n:Nat) (xs:List Value) (hs:a.eval s=v) (hown:w.ownsRow base e size v n xs)
 (B:Nat) (A:Option Addr) (m c:Nat) (news:List Value) (hx:a.eval x= .slice A m c) (hr:Reads w B size A m news) (h1:∀u∈news,u.oneCell'=true)
 (h63:n+m≤maxLen) (hbytes:(n+m)*bytes≤140737488355328) (hbase:base≤w.heap.size)
 (h:∀v' w',w'.ownsRow base e size v' (n+m) (xs++news)→Only (fun k=>some k=v.ownBlock) w w'→K (a.put o.dst v') w'):if Region.wanted o (yielded ops a.tmps)=true then o.wp P a w K Q else E:=by
 have hw:Region.wanted o (yielded ops a.tmps)=true:=by simp[Region.wanted,hgd]
 rw[if_pos hw]
 exact wp_append_reads w s x t ho base e i z size bytes ht hi hz hsize hby hzs hsz v n xs hs hown B A m c news hx hr h1 h63 hbytes hbase h
end Go.Proofs.Ytgflanlniejflaa
namespace Go.Proofs.Ytgflanlniejflaa
open Go.RowKit Go.Maps
open Go.Sort (grow)
set_option maxRecDepth 100000
def AuVf (w:World) (B:Nat) (vs:List Value) (i:Nat) (s:Drv.LSt):Prop:=
 ∃AA ac EA ec,vs[i*3]? =some (.int .i64 s.kind)∧vs[i*3+1]? =some (.slice AA s.alts.length ac)∧vs[i*3+2]? =some (.slice EA s.edges.length ec)∧Reads w B 1 AA s.alts.length (s.alts.map (Value.int .i64))∧Reads w B 2 EA s.edges.length (flat encLE s.edges)
def AutRf (w:World) (B:Nat) (A:Option Addr) (l:List Drv.LSt):Prop:=∃vs,Reads w B 3 A l.length vs∧∀i (h:i<l.length),AuVf w B vs i l[i]
theorem AutRf.below {w w':World}{B:Nat}{A:Option Addr}{l:List Drv.LSt}(h:AutRf w B A l) (hb:Below B w w'):AutRf w' B A l:=by
 obtain⟨vs,h1,h2⟩:=h
 refine⟨vs,h1.below hb,fun i hi=>?_⟩
 obtain⟨AA,ac,EA,ec,e0,e1,e2,r0,r1⟩:=h2 i hi
 exact⟨AA,ac,EA,ec,e0,e1,e2,r0.below hb,r1.below hb⟩
theorem AutRf.more {w:World}{B B':Nat}{A:Option Addr}{l:List Drv.LSt}(h:AutRf w B A l) (hb:B≤B'):AutRf w B' A l:=by
 obtain⟨vs,h1,h2⟩:=h
 refine⟨vs,h1.more hb,fun i hi=>?_⟩
 obtain⟨AA,ac,EA,ec,e0,e1,e2,r0,r1⟩:=h2 i hi
 exact⟨AA,ac,EA,ec,e0,e1,e2,r0.more hb,r1.more hb⟩
theorem AutRf.at {w:World}{B:Nat}{A:Option Addr}{l:List Drv.LSt}(h:AutRf w B A l){i:Nat}(hi:i<l.length):∃b off AA ac EA ec,A=some ⟨b,off,none⟩∧b<B∧
 w.cell? ⟨b,off+i*3,none⟩=some (.int .i64 l[i].kind)∧w.cell? ⟨b,off+i*3+1,none⟩=some (.slice AA l[i].alts.length ac)∧w.cell? ⟨b,off+i*3+2,none⟩=some (.slice EA l[i].edges.length ec)∧
 Reads w B 1 AA l[i].alts.length (l[i].alts.map (Value.int .i64))∧Reads w B 2 EA l[i].edges.length (flat encLE l[i].edges):=by
 obtain⟨vs,h1,h2⟩:=h
 obtain⟨b,off,rfl,hb,hc⟩:=h1.2 (by omega)
 obtain⟨AA,ac,EA,ec,e0,e1,e2,r0,r1⟩:=h2 i hi
 exact⟨b,off,AA,ac,EA,ec,rfl,hb,hc _ _ e0,by simpa[Nat.add_assoc]using hc _ _ e1,by simpa[Nat.add_assoc]using hc _ _ e2,r0,r1⟩
def RRunP (a:List Drv.LSt) (toks:List Int) (w:World) (e:Ending) (w':World):Prop:=
 ∃A c,e= .returned (.tuple #[.int .i64 (Drv.runA a toks).1,.slice A (Drv.runA a toks).2.1.length c,.int .i64 (Drv.runA a toks).2.2])∧
  w'.ownsRow w.heap.size 3 1 (.slice A (Drv.runA a toks).2.1.length c) (Drv.runA a toks).2.1.length ((Drv.runA a toks).2.1.map (Value.int .i64))∧Below w.heap.size w w'
theorem rrun_fail {a:List Drv.LSt}{toks:List Int}{w w':World}{pos:Int}(h:(2,[],pos)=Drv.runA a toks) (hb:Below w.heap.size w w'):RRunP a toks w (.returned (.tuple #[.int .i64 2,.slice none 0 0,.int .i64 pos])) w':=
 ⟨none,0,by rw[←h];rfl,by rw[←h];exact World.ownsRow_nil _ _ _ _,hb⟩
def edQ (tok:Int) (pos len:Nat) (e:Int×Int):Bool:=(e.1==tok) && (decide (0≤tok) || decide (pos=len))
theorem runL_step {a:List Drv.LSt}{toks:List Int}{m pos k:Nat}{x:Drv.LSt}(hk:k<a.length) (hget:a.getD ((k:Int)).toNat ⟨0,[],[]⟩=x) (h0:x.kind=0) (hp:pos≤toks.length):
 Drv.runL a toks (m+1) (k:Int) pos=match x.edges.find? (edQ (tokAt toks pos) pos toks.length)with
  | none=>(2,[],(pos:Int))
  | some e=>Drv.runL a toks m e.2 (pos+1):=by
 conv=>lhs;unfold Drv.runL
 rw[if_neg (by omega)]
 simp only[hget]
 rw[if_neg (by omega)]
 have:(if pos<toks.length then toks.getD pos 0 else -1)=tokAt toks pos:=rfl
 rw[this]
 generalize tokAt toks pos=tok
 by_cases hb:pos<toks.length∧tok<0
 ·have h1:∀e,edQ tok pos toks.length e=false:=fun e=>by
   unfold edQ
   rw[show decide (0≤tok)=false by rw[decide_eq_false_iff_not];omega,show decide (pos=toks.length)=false by rw[decide_eq_false_iff_not];omega]
   simp
  have h2:x.edges.find? (edQ tok pos toks.length)=none:=List.find?_eq_none.2 fun e _=>by rw[h1 e];decide
  rw[h2]
  cases x.edges.find? (fun e=>e.1==tok)with
  | none=>rfl
  | some e=>simp only;rw[if_pos (.inr hb)]
 ·have h1:edQ tok pos toks.length=fun e=>e.1==tok:=by
   funext e
   unfold edQ
   have:(decide (0≤tok) || decide (pos=toks.length))=true:=by
    rw[Bool.or_eq_true,decide_eq_true_eq,decide_eq_true_eq]
    omega
   rw[this,Bool.and_true]
  rw[h1]
  cases x.edges.find? (fun e=>e.1==tok)with
  | none=>rfl
  | some e=>simp only;rw[if_neg (by omega)]
theorem find_hit {α:Type}{q:α→Bool}{l:List α}{j:Nat}(hj:j<l.length) (h:∀i (hi:i<l.length),i<j→q l[i]=false) (hq:q l[j]=true):l.find? q=some l[j]:=by
 induction l generalizing j with
 | nil=>simp at hj
 | cons e l ih=>
  cases j with
  | zero=>rw[List.find?_cons_of_pos (by simpa using hq)];rfl
  | succ j=>
   rw[List.find?_cons_of_neg (by have:=h 0 (by simp) (by omega);simp only[List.getElem_cons_zero]at this;rw[this];decide)]
   exact ih (by simpa using hj) (fun i hi hij=>h (i+1) (by simpa using hi) (by omega)) hq
theorem find_miss {α:Type}{q:α→Bool}{l:List α}(h:∀i (hi:i<l.length),q l[i]=false):l.find? q=none:=
 List.find?_eq_none.2 fun e he=>by
  obtain⟨i,hi,rfl⟩:=List.mem_iff_getElem.1 he
  rw[h i hi];decide
set_option maxHeartbeats 6400000 in
theorem rrun_any (a:List Drv.LSt) (toks:List Int) (A WA:Option Addr) (c wcap B:Nat) (w:World) (hB:B≤w.heap.size) (ha:AutRf w B A a) (hw:Reads w B 1 WA toks.length (toks.map (Value.int .i64))) (hlw:toks.length≤1000000)
 (hal:∀s∈a,s.alts.length≤1000000∧s.edges.length≤1000000):
 Calls Try.prog 93 #[.agg #[.slice A a.length c],.slice WA toks.length wcap] w (RRunP a toks w):=by
 obtain⟨i0,hi0,hz0,hz1,hz2⟩:=info_of infoZ
 obtain⟨w1,hw1⟩:∃x,x=w.alloc (.cells #[.slice A a.length c] 89):=⟨_,rfl⟩
 have hb1:Below w.heap.size w w1:=by rw[hw1];exact below_new _ _
 have c0:w1.cell? ⟨w.heap.size,0,none⟩=some (.slice A a.length c):=by rw[hw1];exact cell_new w _ _ 0
 have hs1:w1.heap.size=w.heap.size+1:=by rw[hw1];simp
 have HW1:=hid hw1.symm
 have HA:=hid (ha.below (hb1.mono hB))
 have HWT:=hid (hw.below (hb1.mono hB))
 have HAL:=hid hal
 have HB1:=hid hb1
 obtain⟨na,hna⟩:∃n,a.length=n:=⟨_,rfl⟩
 obtain⟨nt,hnt⟩:∃n,toks.length=n:=⟨_,rfl⟩
 rw[hna]at c0 HW1⊢
 rw[hnt]at hlw⊢
 have HNA:=hid hna
 have HNT:=hid hnt
 clear ha hw hal hb1 hw1 hna hnt
 go_enter Try.func93,Try.ntmps93
 go_upto_region 1 with fail
 rw[HW1.out]
 clear HW1
 go_wp2_with fail
 go_loop [7,8] (fun s q=>∃(pos:Nat) (sv:Int),pos≤nt+1∧q= .int .i64 pos∧s= .int .i64 sv∧Hid (Drv.runL a toks (nt+2-pos) sv pos=Drv.runA a toks)) (fun _ q=>nt+2-(intOf q).toNat)
 case atStart=>exact⟨0,0,by omega,rfl,rfl,hid (by unfold Drv.runA;rw[HNT.out];rfl)⟩
 case round=>
  obtain⟨pos,sv,hp,rfl,rfl,HR⟩:=hrel
  obtain⟨m,hm⟩:∃m,nt+2-pos=m+1:=⟨nt+1-pos,by omega⟩
  have HR1:=hid (HR.out)
  rw[hm]at HR1
  clear HR
  have hpI:(pos:Int)≤(nt:Int)+1:=by omega
  by_cases h1:sv<0
  ·have hfin:Drv.runL a toks (m+1) sv pos=(2,[],(pos:Int)):=by unfold Drv.runL;rw[if_pos (.inl h1)]
   have HF:=hid (hfin.symm.trans HR1.out)
   have h1':decide (sv<0)=true:=by simpa using h1
   clear hfin HR1 h1
   go_wp2_with fail
   go_ret3
   exact rrun_fail HF.out HB1.out
  have h1':decide (sv<0)=false:=by simpa using h1
  by_cases h2:(a.length:Int)≤sv
  ·have hfin:Drv.runL a toks (m+1) sv pos=(2,[],(pos:Int)):=by unfold Drv.runL;rw[if_pos (.inr h2)]
   have HF:=hid (hfin.symm.trans HR1.out)
   rw[HNA.out]at h2
   have h2':decide ((na:Int)≤sv)=true:=by simpa using h2
   clear hfin HR1 h1 h2
   go_wp2_with fail
   go_ret3
   exact rrun_fail HF.out HB1.out
  obtain⟨k,rfl⟩:∃k:Nat,sv=k:=⟨sv.toNat,by omega⟩
  have hk:k<a.length:=by omega
  obtain⟨b,off,AA,ac,EA,ec,rfl,hbB,s0,s1,s2,r1,r2⟩:=HA.out.at hk
  have hal:=HAL.out a[k] (List.getElem_mem hk)
  obtain⟨x,hx⟩:∃x,a[k]=x:=⟨_,rfl⟩
  rw[hx]at s0 s1 s2 r1 r2 hal
  have HX:Hid (a.getD ((k:Int)).toNat ⟨0,[],[]⟩=x):=hid (by simp[List.getD,hk,hx])
  have HK:=hid hk
  have h2':decide ((na:Int)≤(k:Int))=false:=by rw[decide_eq_false_iff_not,←HNA.out];exact h2
  have hk2:k<na:=by rw[←HNA.out];exact hk
  have hkI:(k:Int)<(na:Int):=by omega
  clear h1 h2 hx hk h1'
  obtain⟨nx,hnx⟩:∃nx,x.alts.length=nx:=⟨_,rfl⟩
  obtain⟨ne,hne⟩:∃ne,x.edges.length=ne:=⟨_,rfl⟩
  rw[hnx]at s1 r1 hal
  rw[hne]at s2 r2 hal
  obtain⟨hax,hae⟩:=hal
  have HNX:=hid hnx
  have HNE:=hid hne
  have R1:=hid r1
  have R2:=hid r2
  clear hnx hne r1 r2
  by_cases hkind:x.kind=0
  ·have hkd2:(x.kind !=0)=false:=by rw[hkind];rfl
   have HKD:=hid hkind
   rw[hkind]at s0
   clear hkind hkd2
   by_cases hgt:pos=nt+1
   ·have hfin:Drv.runL a toks (m+1) (k:Int) pos=(2,[],(pos:Int)):=by
     have hget:=HX.out
     unfold Drv.runL
     rw[if_neg (by have:=HK.out;omega)]
     simp only[hget]
     rw[if_neg (by have:=HKD.out;omega)]
     generalize (if pos<toks.length then toks.getD pos 0 else -1)=tok
     cases x.edges.find? (fun e=>e.1==tok)with
     | none=>rfl
     | some e=>simp only;rw[if_pos (.inl (by have:=HNT.out;omega))]
    have HF:=hid (hfin.symm.trans HR1.out)
    have hgI:decide ((nt:Int)<(pos:Int))=true:=by rw[decide_eq_true_eq];omega
    have hgN:decide (nt<pos)=true:=by rw[decide_eq_true_eq];omega
    clear hfin HR1 hgt
    go_wp2_with fail
    go_ret3
    exact rrun_fail HF.out HB1.out
   ·have hpt:pos≤nt:=by omega
    have hst:=runL_step (m:=m) HK.out HX.out HKD.out (show pos≤toks.length by rw[HNT.out];exact hpt)
    rw[HR1.out,HNT.out]at hst
    obtain⟨tok,htok⟩:∃t,tokAt toks pos=t:=⟨_,rfl⟩
    rw[htok]at hst
    have HST:=hid hst
    have HTK:=hid htok
    have hgI:decide ((nt:Int)<(pos:Int))=false:=by rw[decide_eq_false_iff_not];omega
    have hgN:decide (nt<pos)=false:=by rw[decide_eq_false_iff_not];omega
    clear hst htok HR1 hgt
    go_upto_if 59 with fail
    clear hgI hgN
    go_cut[9]from 13 to 104 (fun t wc=>t= .int .i64 tok∧wc=w1)
    case first=>
     by_cases hlt:pos<nt
     ·have hltN:decide (pos<nt)=true:=by rw[decide_eq_true_eq];exact hlt
      have hltI:(pos:Int)<(nt:Int):=by omega
      obtain⟨bt,ot,rfl,hbt,ct⟩:=readsZ HWT.out (Below.refl _ _) pos (by rw[HNT.out];exact hlt)
      have HE:Hid (toks[pos]'(by rw[HNT.out];exact hlt)=tok):=hid (by
       have:=HTK.out
       unfold tokAt at this
       rw[if_pos (by rw[HNT.out];exact hlt),List.getD_eq_getElem?_getD,List.getElem?_eq_getElem (by rw[HNT.out];exact hlt)]at this
       exact this)
      rw[HE.out]at ct
      go_wp2_with fail
      go_meet
      case rel=>exact⟨rfl,rfl⟩
     ·have hltN:decide (pos<nt)=false:=by rw[decide_eq_false_iff_not];exact hlt
      have hltI:¬(pos:Int)<(nt:Int):=by omega
      have HE:Hid ((-1:Int)=tok):=hid (by
       have:=HTK.out
       unfold tokAt at this
       rw[if_neg (by rw[HNT.out];exact hlt)]at this
       exact this)
      go_wp2_with fail
      go_meet
      case rel=>exact⟨by rw[HE.out],rfl⟩
    case rest=>
     obtain⟨rfl,rfl⟩:=hcut
     clear HTK
     have h0I:decide ((0:Int)≤tok)=decide (0≤tok):=rfl
     go_wp2_with fail
     go_loop [7,10,12] (fun s h i=>∃(j:Nat) (hb:Bool) (sv:Int),j≤ne∧i= .int .i64 j∧h= .bool hb∧s= .int .i64 sv∧Hid ((hb=false→∀t (ht:t<x.edges.length),t<j→edQ tok pos nt x.edges[t]=false)∧(hb=true→∃e,x.edges.find? (edQ tok pos nt)=some e∧e.2=sv))) (fun _ _ i=>ne-(intOf i).toNat)
     case atStart=>exact⟨0,false,k,Nat.zero_le _,rfl,rfl,rfl,hid ⟨fun _ t _ h=>absurd h (Nat.not_lt_zero _),fun h=>by cases h⟩⟩
     case round=>
      obtain⟨j,hb,sv,hj,rfl,rfl,rfl,HJ⟩:=hrel
      clear s0 s1 s2 c0
      cases hb with
      | true=>
       obtain⟨e,he,hev⟩:=HJ.out.2 rfl
       have hfin:=HST.out
       rw[he]at hfin
       simp only at hfin
       rw[hev]at hfin
       have HF:=hid hfin
       clear he hev hfin HJ HST
       by_cases hjn:j<ne
       ·have hjI:(j:Int)<(ne:Int):=by omega
        go_wp2_with fail
        go_round
        case rel=>exact⟨pos+1,sv,by omega,by go_num,rfl,hid (by rw[show nt+2-(pos+1)=m by omega];exact HF.out.symm)⟩
        case measure=>simp[intOf];omega
       ·have hjI:¬(j:Int)<(ne:Int):=by omega
        go_wp2_with fail
        go_round
        case rel=>exact⟨pos+1,sv,by omega,by go_num,rfl,hid (by rw[show nt+2-(pos+1)=m by omega];exact HF.out.symm)⟩
        case measure=>simp[intOf];omega
      | false=>
       by_cases hjn:j<ne
       ·have hjI:(j:Int)<(ne:Int):=by omega
        have hjl:j<x.edges.length:=by rw[HNE.out];exact hjn
        obtain⟨be,oe,rfl,hbe,ce⟩:=R2.out.2 (by omega)
        have x0:=ce _ _ (flat_get encLE 2 (fun _=>rfl) x.edges j hjl 0 (by omega))
        have x1:=ce _ _ (flat_get encLE 2 (fun _=>rfl) x.edges j hjl 1 (by omega))
        have HITS:=hid fun hq=>find_hit (q:=edQ tok pos nt) hjl (fun i hi hij=>HJ.out.1 rfl i hi hij) hq
        have NEXT:=hid fun(hq:edQ tok pos nt x.edges[j]=false)=>(show∀t (ht:t<x.edges.length),t<j+1→edQ tok pos nt x.edges[t]=false from fun t ht htj=>by
         rcases Nat.lt_succ_iff_lt_or_eq.1 htj with h | rfl
         ·exact HJ.out.1 rfl t ht h
         ·exact hq)
        have x0:wc.cell? ⟨be,oe+(j*2+0),none⟩=some (.int .i64 x.edges[j].1):=x0
        have x1:wc.cell? ⟨be,oe+(j*2+1),none⟩=some (.int .i64 x.edges[j].2):=x1
        rw[Nat.add_zero]at x0
        rw[←Nat.add_assoc]at x1
        generalize x.edges[j]=e at x0 x1 HITS NEXT
        obtain⟨e1,e2⟩:=e
        simp only at x0 x1
        clear ce HJ HST R1
        have q0:decide (0≤tok)=true∨decide (0≤tok)=false:=by cases decide (0≤tok) <;> simp
        have FIN0:=hid fun(hq:edQ tok pos nt (e1,e2)=false)=>(show(false=false→∀t (ht:t<x.edges.length),t<j+1→edQ tok pos nt x.edges[t]=false)∧(false=true→∃e,x.edges.find? (edQ tok pos nt)=some e∧e.2=sv)from⟨fun _=>NEXT.out hq,fun h=>by cases h⟩)
        have FIN1:=hid fun(hq:edQ tok pos nt (e1,e2)=true)=>(show(true=false→∀t (ht:t<x.edges.length),t<j+1→edQ tok pos nt x.edges[t]=false)∧(true=true→∃e,x.edges.find? (edQ tok pos nt)=some e∧e.2=e2)from⟨fun h=>(by cases h),fun _=>⟨_,HITS.out hq,rfl⟩⟩)
        cases b1:(e1==tok)with
        | false=>
         have HF:=hid (FIN0.out (by unfold edQ;rw[b1];rfl))
         go_wp2_with fail
         go_round
         case rel=>exact⟨j+1,false,sv,by omega,by go_num,rfl,rfl,HF⟩
         case measure=>simp[intOf];omega
        | true=>
         rcases q0 with b2 | b2
         ·have HF:=hid (FIN1.out (by unfold edQ;rw[b1,b2];rfl))
          go_wp2_with fail
          go_round
          case rel=>exact⟨j+1,true,e2,by omega,by go_num,rfl,rfl,HF⟩
          case measure=>simp[intOf];omega
         ·by_cases b3:pos=nt
          ·have HF:=hid (FIN1.out (by unfold edQ;rw[b1,b2,show decide (pos=nt)=true from decide_eq_true b3];rfl))
           have b4:(pos==nt)=true:=by rw[beq_iff_eq];exact b3
           have b5:((pos:Int)==(nt:Int))=true:=by rw[beq_iff_eq];omega
           have b6:decide (pos=nt)=true:=decide_eq_true b3
           clear b3
           go_wp2_with fail
           go_round
           case rel=>exact⟨j+1,true,e2,by omega,by go_num,rfl,rfl,HF⟩
           case measure=>simp[intOf];omega
          ·have HF:=hid (FIN0.out (by unfold edQ;rw[b1,b2,show decide (pos=nt)=false from decide_eq_false b3];rfl))
           have b4:(pos==nt)=false:=by rw[beq_eq_false_iff_ne];exact b3
           have b5:((pos:Int)==(nt:Int))=false:=by rw[beq_eq_false_iff_ne];omega
           have b6:decide (pos=nt)=false:=decide_eq_false b3
           clear b3
           go_wp2_with fail
           go_round
           case rel=>exact⟨j+1,false,sv,by omega,by go_num,rfl,rfl,HF⟩
           case measure=>simp[intOf];omega
       ·have hjI:¬(j:Int)<(ne:Int):=by omega
        have hfm:=find_miss (q:=edQ tok pos nt) (l:=x.edges) fun t ht=>HJ.out.1 rfl t ht (by rw[HNE.out]at ht;omega)
        have hfin:=HST.out
        rw[hfm]at hfin
        have HF:=hid hfin.symm
        clear hfm hfin HJ HST
        go_wp2_with fail
        go_ret3
        exact rrun_fail HF.out HB1.out
  ·have hfin:Drv.runL a toks (m+1) (k:Int) pos=(x.kind,x.alts,(pos:Int)):=by
    unfold Drv.runL
    rw[if_neg (by have:=HK.out;omega)]
    simp only[HX.out]
    rw[if_pos hkind]
   have HF:=hid (hfin.symm.trans HR1.out)
   have hkd:(x.kind==0)=false:=by simpa using hkind
   have hkd2:(x.kind !=0)=true:=by simpa using hkind
   clear hfin HR1 hkind R2 s2
   generalize hkv:x.kind=kv at*
   go_upto_region 8 with fail
   have R6:=R1.out.below (w':=w1.drew) (show Below B w1 w1.drew from⟨rfl,rfl,rfl,Nat.le_refl _,fun _ _=>rfl⟩)
   have HBD:=hid (HB1.out.trans (show Below w.heap.size w1 w1.drew from⟨rfl,rfl,rfl,Nat.le_refl _,fun _ _=>rfl⟩))
   have hwd:w.heap.size≤w1.drew.heap.size:=HBD.out.size
   have hsd:∀b',b'<w.heap.size→b'<w1.drew.heap.size:=fun b' h=>Nat.lt_of_lt_of_le h hwd
   clear R1
   go_region_held3 (fun w'=>w'.cell? ⟨w.heap.size,0,none⟩=some (.slice (some ⟨b,off,none⟩) na c)∧w'.cell? ⟨b,off+k*3,none⟩=some (.int .i64 kv)∧w'.cell? ⟨b,off+k*3+1,none⟩=some (.slice AA nx ac)) (first | assumption | exact⟨c0,s0,s1⟩ | exact⟨(ho8.cell (o:=0) (show w.heap.size<w1.drew.heap.size by have:w1.drew.heap.size=w1.heap.size:=rfl;omega) (fun e=>by cases e)).trans c0,(ho8.cell (o:=off+k*3) (show b<w1.drew.heap.size from hsd b (by omega)) (fun e=>by cases e)).trans s0,(ho8.cell (o:=off+k*3+1) (show b<w1.drew.heap.size from hsd b (by omega)) (fun e=>by cases e)).trans s1⟩) (((refine step_append_reads _ rfl _ _ 23 rfl w.heap.size 3 i0 _ 1 8 Try.underlying23 hi0 hz0 hz1 hz2 rfl (by omega) _ 0 [] rfl (World.ownsRow_nil _ _ _ _) B AA nx ac _ rfl R6 (fun u hu=>by obtain⟨y,_,rfl⟩:=List.mem_map.1 hu;rfl) (by unfold maxLen;omega) (by omega) hwd ?_);intro v8 w8 hown8 ho8))
   have hown9:w8.ownsRow w.heap.size 3 1 v8 nx (x.alts.map (Value.int .i64)):=by simpa using hown8
   obtain⟨A',c',rfl⟩:=row_form hown9
   have HO:=hid hown9
   have HB8:=hid ((ho8.more (S':=fun _=>False) fun k _ e=>by cases e).below (fun _ e=>e.elim) HBD.out hwd)
   clear hown8 hown9 ho8 R6 hsd hwd s0 s1 c0
   go_wp2_with fail
   go_ret3
   refine⟨A',c',?_,?_,HB8.out⟩
   ·rw[←HF.out]
    show _=Ending.returned (.tuple #[.int .i64 kv,.slice A' x.alts.length c',.int .i64 (pos:Int)])
    rw[HNX.out]
    rfl
   ·rw[←HF.out]
    show w8.ownsRow _ _ _ (.slice A' x.alts.length c') x.alts.length _
    rw[HNX.out]
    exact HO.out
end Go.Proofs.Ytgflanlniejflaa
