/-
  Drivers: Par, Par2 (texts joined).
-/
import Derived.Deep.CutRange
import Derived.Test.YtgflanlniejflaaK06
namespace Go.Proofs.Ytgflanlniejflaa
open Go.RowKit Go.Maps
open Go.Sort (grow)
set_option maxRecDepth 100000
structure Pc where
 D:Nat
 WA:Option Addr
 wn:Nat
 wc:Nat
 M:Nat
 fuel:Int
 depth:Int
structure Pv where
 used:Int
 deep:Int
 spec:Int
 opn:Value
 pos:Int
 looks:Int
 rule:Int
 token:Int
 kind:Int
 bad:Bool
 subs:Value
 e:Int
 ended:Bool
def parCells (c:Pc) (v:Pv):Array Value:=
 #[.pointer (some ⟨c.D,0,none⟩),.slice c.WA c.wn c.wc,.pointer (some ⟨c.M,0,none⟩),.int .i64 v.used,.int .i64 v.deep,.int .i64 v.spec,.int .i64 c.fuel,.int .i64 c.depth,v.opn,.int .i64 v.pos,.int .i64 v.looks,
  .int .i64 v.rule,.int .i64 v.token,.int .i64 v.kind,.bool v.bad,v.subs,.int .i64 v.e,.bool v.ended]
def ParAt (w:World) (P:Nat) (c:Pc) (v:Pv):Prop:=w.heap[P]? =some (.cells (parCells c v) 112 (0,0))
theorem ParAt.cell {w:World}{P:Nat}{c:Pc}{v:Pv}(h:ParAt w P c v) (j:Nat):w.cell? ⟨P,j,none⟩=(parCells c v)[j]?∧w.frozen? ⟨P,j,none⟩=false:=
 ⟨Lib.cell_of_heap h j,Lib.frozen_of_heap h j⟩
theorem ParAt.next {w w':World}{P:Nat}{c:Pc}{v:Pv}{S:Nat→Prop}(h:ParAt w P c v) (ho:Only S w w') (hn:¬S P):ParAt w' P c v:=(ho.block P (heap_lt h) hn).trans h
theorem ParAt.set {w:World}{P:Nat}{c:Pc}{v v':Pv}(h:ParAt w P c v) (j:Nat) (u:Value) (hc:(parCells c v).setIfInBounds j u=parCells c v'):ParAt (w.setCell ⟨P,j,none⟩ u) P c v':=by
 have:=heap_setCell_same w P j _ _ u h
 rw[hc]at this
 exact this
theorem ParAt.lt {w:World}{P:Nat}{c:Pc}{v:Pv}(h:ParAt w P c v):P<w.heap.size:=heap_lt h
set_option maxHeartbeats 400000 in
theorem end_any (P:Nat) (c:Pc) (v:Pv) (e:Int) (w:World) (h:ParAt w P c v):
 Calls Try.prog 56 #[.pointer (some ⟨P,0,none⟩),.int .i64 e] w fun r w'=>r= .returned (.tuple #[])∧Only (fun k=>k=P) w w'∧ParAt w' P c {v with e:=e,ended:=true}:=by
 have c16:=(h.cell 16).1
 have c17:=(h.cell 17).1
 have z16:=(h.cell 16).2
 have z17:=(h.cell 17).2
 simp only[parCells,List.getElem?_toArray,List.getElem?_cons_succ,List.getElem?_cons_zero]at c16 c17
 have h1:=h.set (v':={v with e:=e}) 16 (.int .i64 e) rfl
 have h2:=h1.set (v':={v with e:=e,ended:=true}) 17 (.bool true) rfl
 have H2:=hid h2
 have HO:=hid (((Only.of_set w P 16 (.int .i64 e)).trans (Only.of_set _ P 17 (.bool true)) fun _ _ e=>e))
 clear h h1 h2
 go_enter Try.func56,Try.ntmps56
 go_wp2
 go_end0
 exact⟨rfl,HO.out,H2.out⟩
def PayPost (P:Nat) (c:Pc) (v:Pv) (n:Int) (w:World) (r:Ending) (w':World):Prop:=
 (c.fuel-v.used<n∧r= .returned (.bool false)∧Only (fun k=>k=P) w w'∧ParAt w' P c {v with e:=6,ended:=true})∨
 (¬c.fuel-v.used<n∧r= .returned (.bool true)∧Only (fun k=>k=P) w w'∧ParAt w' P c {v with used:=v.used+n})
set_option maxHeartbeats 800000 in
theorem pay_any (P:Nat) (c:Pc) (v:Pv) (n:Int) (w:World) (h:ParAt w P c v) (h0:0≤v.used) (h1:v.used≤c.fuel) (h2:c.fuel≤4000000000) (h3:0≤n) (h4:n≤4000000000):
 Calls Try.prog 88 #[.pointer (some ⟨P,0,none⟩),.int .i64 n] w (PayPost P c v n w):=by
 have c3:=(h.cell 3).1
 have c6:=(h.cell 6).1
 have z3:=(h.cell 3).2
 simp only[parCells,List.getElem?_toArray,List.getElem?_cons_succ,List.getElem?_cons_zero]at c3 c6
 have e1:IntKind.i64.wrap (c.fuel-v.used)=c.fuel-v.used:=w64 (by omega) (by omega)
 have e2:IntKind.i64.wrap (v.used+n)=v.used+n:=w64 (by omega) (by omega)
 have H:=hid h
 clear h
 go_enter Try.func88,Try.ntmps88
 go_wp2_with fail
 go_quiet (fail)
 have ho:=(Only.refl (fun _=>False) w).none_drew nq
 have H1:=hid (H.out.next ho (fun e=>e))
 have HO:=hid (ho.more (S':=fun k=>k=P) fun _ _ e=>e.elim)
 have c3:=(ho.cell (o:=3) H.out.lt (fun e=>e)).trans c3
 have z3:=(H1.out.cell 3).2
 clear c6 ho H
 generalize w.drewN nq=w1 at c3 z3 H1 HO⊢
 by_cases hlt:c.fuel-v.used<n
 ·go_wp2_with fail
  refine(end_any P c v 6 w1 H1.out).mono ?_
  rintro e w2 ⟨rfl,ho2,h2⟩
  have HO2:=hid (HO.out.trans ho2 fun _ _ e=>e)
  have H2:=hid h2
  clear ho2 h2 c3 z3
  go_wp2_with fail
  go_ret
  exact .inl ⟨hlt,rfl,HO2.out,H2.out⟩
 ·have H2:=hid (H1.out.set (v':={v with used:=v.used+n}) 3 (.int .i64 (v.used+n)) rfl)
  have HO2:=hid (HO.out.trans (Only.of_set w1 P 3 (.int .i64 (v.used+n))) fun _ _ e=>e)
  go_wp2
  go_ret
  exact .inr ⟨by omega,rfl,HO2.out,H2.out⟩
set_option maxHeartbeats 800000 in
theorem top_any (P:Nat) (c:Pc) (v:Pv) (ob n oc g:Nat) (w:World) (h:ParAt w P c v) (hv:v.opn= .slice (some ⟨ob,0,none⟩) (n+1) oc) (hn:n<4000000000) (hc:w.cell? ⟨ob,n,none⟩=some (.pointer (some ⟨g,0,none⟩))):
 Calls Try.prog 57 #[.pointer (some ⟨P,0,none⟩)] w fun r w'=>r= .returned (.pointer (some ⟨g,0,none⟩))∧Only (fun _=>False) w w':=by
 have c8:=(h.cell 8).1
 simp only[parCells,List.getElem?_toArray,List.getElem?_cons_succ,List.getElem?_cons_zero,hv]at c8
 have e1:IntKind.i64.wrap (((n+1:Nat):Int)-1)=(n:Int):=by rw[w64 (by omega) (by omega)];omega
 have e2:(0:Int)≤(n:Int):=by omega
 have e3:(n:Int).toNat=n:=by omega
 have e4:(n:Int)<((n+1:Nat):Int):=by omega
 clear h
 go_enter Try.func57,Try.ntmps57
 go_wp2_with fail
 go_quiet (fail)
 go_wp2
 go_ret
 exact⟨rfl,(Only.refl _ w).none_drew nq⟩
end Go.Proofs.Ytgflanlniejflaa
namespace Go.Proofs.Ytgflanlniejflaa
open Go.RowKit Go.Maps
open Go.Sort (grow)
set_option maxRecDepth 100000
theorem addr0 (b j:Nat):(⟨b,0,none⟩:Addr).add j=⟨b,j,none⟩:=by
 unfold Addr.add;by_cases h:j=0 <;> simp[h]
theorem run_push_full {P:Program}(w:World) (base:Nat) (t ty e:TypeId) (i:TypeInfo) (z:Value) (size bytes:Nat) (ht:P.underlying t=some (.slice e)) (hi:P.info? e=some i) (hz:i.zero=some z)
 (hsize:i.size=size) (hby:i.bytes=bytes) (hzs:z.cells.size=size) (g n:Nat) (xs:List Value) (hl:xs.length=n*size) (hg:∀j u,xs[j]? =some u→w.cell? ⟨g,j,none⟩=some u) (hgl:g<w.heap.size)
 (cs:List Value) (m:Nat) (hcs:cs.length=m*size) (hm:0<m) (h63:n+m≤maxLen) (hbytes:(n+m)*bytes≤140737488355328) (hbase:base≤w.heap.size):
 ∃c w',(Builtin.append_ #[t,t] ty #[.slice (some ⟨g,0,none⟩) n n,.slice (some ⟨w.heap.size,0,none⟩) m m]).run P (w.alloc (.cells cs.toArray e))= .ok (.slice (some ⟨w.heap.size+1,0,none⟩) (n+m) c) w'∧
  w'.ownsRow base e size (.slice (some ⟨w.heap.size+1,0,none⟩) (n+m) c) (n+m) (xs++cs)∧Only (fun _=>False) w w':=by
 subst hsize hby
 have hsz:(w.alloc (.cells cs.toArray e)).heap.size=w.heap.size+1:=by simp
 have hsmall:((n+m:Nat):Int)≤9223372036854775807:=by simp only[maxLen]at h63;omega
 have holds:∀j u,xs[j]? =some u→(w.alloc (.cells cs.toArray e)).cell? ((⟨g,0,none⟩:Addr).add j)=some u:=fun j u hu=>by
  rw[addr0]
  exact((below_new w _).cell (p:=⟨g,j,none⟩) hgl).trans (hg j u hu)
 have hnews:∀j u,cs[j]? =some u→(w.alloc (.cells cs.toArray e)).cell? ((⟨w.heap.size,0,none⟩:Addr).add j)=some u:=fun j u hu=>by
  rw[addr0,cell_new]
  simpa using hu
 have hr:=run_append_grow (P:=P) (w.alloc (.cells cs.toArray e)) t ty e i z ht hi hz ⟨g,0,none⟩ n n xs hl holds ⟨w.heap.size,0,none⟩ m m cs hcs hnews (by omega) hsmall (growslice_fits (by omega) hbytes)
 rw[hsz]at hr
 have hlen:(xs++cs).length=(n+m)*i.size:=by rw[List.length_append,hl,hcs,Nat.add_mul]
 have hge:=grownCap_ge (w.alloc (.cells cs.toArray e)) (n+m) n e
 have hcm:grownCap (w.alloc (.cells cs.toArray e)) (n+m) n e≤maxLen:=grownCap_le_maxLen _ (n+m) n e h63
 have hh:=heap_alloc_new (w.alloc (.cells cs.toArray e)).drew (.cells (xs.toArray++cs.toArray++Builtin.zeroCells z.cells (grownCap (w.alloc (.cells cs.toArray e)) (n+m) n e-(n+m))) e)
 have hd:(w.alloc (.cells cs.toArray e)).drew.heap.size=w.heap.size+1:=hsz
 rw[hd]at hh
 refine⟨_,_,hr,⟨hlen,.inr ⟨w.heap.size+1,_,_,rfl,by omega,hh,hge,hcm,?_,?_⟩⟩,?_⟩
 ·simp only[Array.size_append,List.size_toArray,size_zeroCells,hzs,hl,hcs,←Nat.add_mul]
  congr 1
  omega
 ·simp only[Array.toList_append,List.append_assoc]
  rw[←List.append_assoc,←hlen]
  exact List.take_left
 ·refine⟨rfl,rfl,rfl,by simp;omega,fun k hk _=>?_⟩
  rw[Below.heap_alloc _ _ _ (by show k<(w.alloc _).heap.size;simp;omega)]
  exact Below.heap_alloc w _ _ hk
def OwnO (w:World) (base:Nat) (e:TypeId) (size:Nat) (v:Value) (n:Nat) (xs:List Value):Prop:=
 w.ownsRow base e size v n xs∨∃g,v= .slice (some ⟨g,0,none⟩) n n∧xs.length=n*size∧base≤g∧g<w.heap.size∧∀j u,xs[j]? =some u→w.cell? ⟨g,j,none⟩=some u
theorem OwnO.only {w w':World}{base:Nat}{e:TypeId}{size:Nat}{v:Value}{n:Nat}{xs:List Value}{S:Nat→Prop}(h:OwnO w base e size v n xs) (ho:Only S w w') (hn:∀k,v.ownBlock=some k→¬S k):OwnO w' base e size v n xs:=by
 rcases h with h | ⟨g,rfl,h1,h2,h3,h4⟩
 ·exact .inl (ownsRow_only h ho hn)
 ·exact .inr ⟨g,rfl,h1,h2,Nat.lt_of_lt_of_le h3 ho.size,fun j u hu=>(ho.cell h3 (hn g rfl)).trans (h4 j u hu)⟩
theorem OwnO.lt {w:World}{base:Nat}{e:TypeId}{size:Nat}{v:Value}{n:Nat}{xs:List Value}(h:OwnO w base e size v n xs):∀k,v.ownBlock=some k→base≤k∧k<w.heap.size:=fun k e=>by
 rcases h with h | ⟨g,rfl,_,h2,h3,_⟩
 ·exact h.lt k e
 ·have e:some g=some k:=e
  injection e with e
  omega
theorem wpList_pushO {P:Program}(w:World){ops:Array Oper}{rest:List Oper}{o:Oper}{a:Act}{Q:Exit→Act→World→Prop}(hgd:o.guard=none) (s x:Operand) (t:TypeId)
 (ho:o.op= .call {callee:=.builtin .append,args:=#[s,x],argTypes:=#[t,t]})
 (base:Nat) (e:TypeId) (i:TypeInfo) (z:Value) (size bytes:Nat) (ht:P.underlying t=some (.slice e)) (hi:P.info? e=some i) (hz:i.zero=some z)
 (hsize:i.size=size) (hby:i.bytes=bytes) (hzs:z.cells.size=size) (hsz:0<size)
 (v:Value) (n:Nat) (xs:List Value) (hs:a.eval s=v) (hown:OwnO w base e size v n xs)
 (cs:List Value) (m:Nat) (b:Nat) (hx:a.eval x= .slice (some ⟨b,0,none⟩) m m) (hbs:b=w.heap.size) (hl:cs.length=m*size) (h1:∀u∈cs,u.oneCell'=true) (hm:0<m)
 (h63:n+m≤maxLen) (hbytes:(n+m)*bytes≤140737488355328) (hbase:base≤w.heap.size)
 (h:∀g c w',w'.ownsRow base e size (.slice (some ⟨g,0,none⟩) (n+m) c) (n+m) (xs++cs)→(v.ownBlock=some g∨w.heap.size<g)→Only (fun k=>v.ownBlock=some k) w w'→wpList P ops Q rest (a.put o.dst (.slice (some ⟨g,0,none⟩) (n+m) c)) w'):
 wpList P ops Q (o ::rest) a (w.alloc (.cells cs.toArray e)):=by
 rcases hown with hown | ⟨g,rfl,q1,q2,q3,q4⟩
 ·exact wpList_push4 w hgd s x t ho base e i z size bytes ht hi hz hsize hby hzs hsz v n xs hs hown cs m b hx hbs hl h1 hm h63 hbytes hbase h
 ·rw[hbs]at hx
  refine wpList_plain hgd fun K hK=>?_
  obtain⟨c,w',hr,h2,h3⟩:=run_push_full (P:=P) w base t o.type e i z size bytes ht hi hz hsize hby hzs g n xs q1 q4 q3 cs m hl hm h63 hbytes hbase
  unfold Oper.wp execOp
  simp only[ho,resolve,invoke,builtin,Sem.run_bind,Sem.run_pure,Result.andThen_ok,List.map_toArray,List.map_cons,List.map_nil,hs,hx,hr]
  exact hK _ _ (h (w.heap.size+1) c w' h2 (.inr (by omega)) (h3.more fun _ _ e=>e.elim))
set_option maxHeartbeats 800000 in
theorem pop_any (P:Nat) (c:Pc) (v:Pv) (ob n oc g:Nat) (so:Int) (w:World) (h:ParAt w P c v) (hv:v.opn= .slice (some ⟨ob,0,none⟩) (n+1) oc) (hn:n<4000000000) (hoc:n+1≤oc) (hc:w.cell? ⟨ob,n,none⟩=some (.pointer (some ⟨g,0,none⟩)))
 (hgs:w.cell? ⟨g,0,none⟩=some (.int .i64 so)) (hgP:g≠P) (hl0:-4000000000≤v.looks) (hl1:v.looks≤4000000000):
 Calls Try.prog 81 #[.pointer (some ⟨P,0,none⟩)] w fun r w'=>r= .returned (.pointer (some ⟨g,0,none⟩))∧Only (fun k=>k=P) w w'∧
  ParAt w' P c {v with opn:=.slice (some ⟨ob,0,none⟩) n n,looks:=if so=0 then v.looks else v.looks-1}:=by
 have H:=hid h
 have HV:=hid hv
 have HC:=hid hc
 clear h hv hc
 go_enter Try.func81,Try.ntmps81
 go_wp2_with fail
 refine(top_any P c v ob n oc g w H.out HV.out hn HC.out).mono ?_
 rintro e w1 ⟨rfl,ho1⟩
 have h1:=H.out.next ho1 (fun e=>e)
 have c8:=(h1.cell 8).1
 have z8:=(h1.cell 8).2
 simp only[parCells,List.getElem?_toArray,List.getElem?_cons_succ,List.getElem?_cons_zero,HV.out]at c8
 have hgs:=(ho1.cell (o:=0) (World.block_lt_of_cell? w _ hgs) (fun e=>e)).trans hgs
 have e1:IntKind.i64.wrap (((n+1:Nat):Int)-1)=(n:Int):=by rw[w64 (by omega) (by omega)];omega
 have e2:(0:Int)≤(n:Int):=by omega
 have e3:(n:Int).toNat=n:=by omega
 have e4:(n:Int)≤(oc:Int):=by omega
 have e5:¬oc<n:=by omega
 have h2:=h1.set (v':={v with opn:=.slice (some ⟨ob,0,none⟩) n n}) 8 (.slice (some ⟨ob,0,none⟩) n n) rfl
 have ho2:=Only.of_set w1 P 8 (.slice (some ⟨ob,0,none⟩) n n)
 have HO2:=hid ((ho1.more (S':=fun k=>k=P) fun _ _ e=>e.elim).trans ho2 fun _ _ e=>e)
 have H2:=hid h2
 have hgs2:=(ho2.cell (o:=0) (World.block_lt_of_cell? w1 _ hgs) hgP).trans hgs
 have c10:=(h1.cell 10).1
 have z10:=(h1.cell 10).2
 simp only[parCells,List.getElem?_toArray,List.getElem?_cons_succ,List.getElem?_cons_zero]at c10
 have e6:IntKind.i64.wrap (v.looks-1)=v.looks-1:=w64 (by omega) (by omega)
 have H3:=hid (h2.set (v':={v with opn:=.slice (some ⟨ob,0,none⟩) n n,looks:=v.looks-1}) 10 (.int .i64 (v.looks-1)) rfl)
 have HO3:=hid (HO2.out.trans (Only.of_set _ P 10 (.int .i64 (v.looks-1))) fun _ _ e=>e)
 clear h1 h2 ho1 ho2 hgs2 H HV HC
 by_cases hso:so=0
 ·subst hso
  go_wp2
  go_ret
  exact⟨rfl,HO2.out,H2.out⟩
 ·have hso2:=hid hso
  go_wp2
  go_ret
  exact⟨rfl,HO3.out,H3.out⟩
theorem infoWp:(Try.prog.info? 152).map (fun i=>(i.zero,i.size,i.bytes))=some (some (.pointer none),1,8):=by kernel_rfl
def walkCells (so what start state over:Int) (sv av:Value):Array Value:=#[.int .i64 so,.int .i64 what,.int .i64 start,.int .i64 state,.int .i64 over,sv,av]
def BeginPost (P:Nat) (c:Pc) (v:Pv) (base n:Nat) (xs:List Value) (so what state over:Int) (sv av:Value) (w:World) (r:Ending) (w':World):Prop:=
 r= .returned (.tuple #[])∧((c.depth≤n∧Only (fun k=>k=P) w w'∧ParAt w' P c {v with e:=7,ended:=true})∨
 (¬c.depth≤n∧∃g ob oc,w.heap.size≤g∧(v.opn.ownBlock=some ob∨w.heap.size<ob)∧Only (fun k=>k=P∨v.opn.ownBlock=some k) w w'∧
  w'.heap[g]? =some (.cells (walkCells so what v.pos state over sv av) 116 (0,0))∧
  w'.ownsRow base 152 1 (.slice (some ⟨ob,0,none⟩) (n+1) oc) (n+1) (xs++ [.pointer (some ⟨g,0,none⟩)])∧
  ParAt w' P c {v with opn:=.slice (some ⟨ob,0,none⟩) (n+1) oc,deep:=max v.deep (n+1:Int),looks:=if so=0 then v.looks else v.looks+1,spec:=if 1<so then v.spec+1 else v.spec}))
set_option maxHeartbeats 3200000 in
theorem begin_any (P:Nat) (c:Pc) (v:Pv) (base n oc:Nat) (A:Option Addr) (xs:List Value) (so what start state over:Int) (sv av:Value) (w:World) (h:ParAt w P c v) (hv:v.opn= .slice A n oc) (hrow:OwnO w base 152 1 v.opn n xs)
 (hn:n<1000000) (hbase:base≤w.heap.size) (hPr:v.opn.ownBlock≠some P) (hl0:0≤v.looks) (hl1:v.looks≤4000000000) (hsp0:0≤v.spec) (hsp1:v.spec≤4000000000):
 Calls Try.prog 33 #[.pointer (some ⟨P,0,none⟩),.agg (walkCells so what start state over sv av)] w (BeginPost P c v base n xs so what state over sv av w):=by
 obtain⟨w1,hw1⟩:∃w1,Hid (w.alloc (.cells (walkCells so what start state over sv av) 116)=w1):=⟨_,hid rfl⟩
 have hb1:Below w.heap.size w w1:=by rw[←hw1.out];exact below_new _ _
 have g1:w1.heap[w.heap.size]? =some (.cells (walkCells so what start state over sv av) 116 (0,0)):=by rw[←hw1.out];exact heap_alloc_new _ _
 have ho1:=Only.of_below (S:=fun _=>False) hb1
 have H1:=hid (h.next ho1 (fun e=>e))
 have HR1:=hid (hrow.only ho1 (fun _ _ e=>e))
 have HO1:=hid ho1
 have G1:=hid g1
 have hs1:w.heap.size<w1.heap.size:=heap_lt g1
 have c8:=(H1.out.cell 8).1
 have c7:=(H1.out.cell 7).1
 simp only[parCells,List.getElem?_toArray,List.getElem?_cons_succ,List.getElem?_cons_zero,hv]at c8 c7
 have hPlt:=h.lt
 have HLT:=hid hrow.lt
 clear h hb1 ho1 g1 hrow
 unfold walkCells at hw1
 obtain⟨bd,hbd⟩:∃bd,decide (c.depth≤(n:Int))=bd:=⟨_,rfl⟩
 go_enter Try.func33,Try.ntmps33
 unfold walkCells
 go_wp2_with fail
 rw[hw1.out]
 clear hw1
 go_quiet (fail)
 have ho2:=(Only.refl (fun _=>False) w1).none_drew nq
 have H2:=hid (H1.out.next ho2 (fun e=>e))
 have HR2:=hid (HR1.out.only ho2 (fun _ _ e=>e))
 have HO2:=hid (HO1.out.trans ho2 fun _ _ e=>e)
 have G2:=hid ((ho2.block _ hs1 (fun e=>e)).trans G1.out)
 have hs2:=Nat.lt_of_lt_of_le hs1 ho2.size
 clear ho2 H1 HR1 HO1 G1 c8 c7
 generalize w1.drewN nq=w2 at H2 HR2 HO2 G2 hs2⊢
 have hgP:w.heap.size≠P:=by omega
 have i0:=infoWp
 obtain⟨i0,hi,hz0,hz1,hz2⟩:=info_parts infoWp
 cases bd with
 | true=>
  have hD:=hid (of_decide_eq_true hbd)
  clear hbd
  go_wp2_with fail
  refine(end_any P c v 7 w2 H2.out).mono ?_
  rintro e w3 ⟨rfl,ho3,h3⟩
  have HO3:=hid ((HO2.out.more (S':=fun k=>k=P) fun _ _ e=>e.elim).trans ho3 fun _ _ e=>e)
  have H3:=hid h3
  clear ho3 h3
  go_wp2_with fail
  go_end0
  exact⟨rfl,.inl ⟨hD.out,HO3.out,H3.out⟩⟩
 | false=>
  have hD:=hid (of_decide_eq_false hbd)
  clear hbd
  have c9:=(H2.out.cell 9).1
  have c8:=(H2.out.cell 8).1
  simp only[parCells,List.getElem?_toArray,List.getElem?_cons_succ,List.getElem?_cons_zero,hv]at c9 c8
  have s2:w2.cell? ⟨w.heap.size,2,none⟩=some (.int .i64 start):=by rw[Lib.cell_of_heap G2.out];rfl
  have z2:=Lib.frozen_of_heap G2.out 2
  have ho3:=Only.of_set w2 w.heap.size 2 (.int .i64 v.pos)
  have g3:(w2.setCell ⟨w.heap.size,2,none⟩ (.int .i64 v.pos)).heap[w.heap.size]? =some (.cells (walkCells so what v.pos state over sv av) 116 (0,0)):=heap_setCell_same w2 _ 2 _ _ _ G2.out
  have H3:=hid (H2.out.next ho3 (fun e=>hgP e.symm))
  have HR3:=hid (HR2.out.only ho3 (fun k e e2=>by
   have e2:k=w.heap.size:=e2
   have:=(HLT.out k e).2
   omega))
  have G3:=hid g3
  have HO3:=hid ((HO2.out.more (S':=fun k=>k=w.heap.size) fun _ _ e=>e.elim).trans ho3 fun _ _ e=>e)
  have hs3:w.heap.size<(w2.setCell ⟨w.heap.size,2,none⟩ (.int .i64 v.pos)).heap.size:=Nat.lt_of_lt_of_le hs2 ho3.size
  go_upto_region 4 with fail
  clear ho3 g3 s2 z2 c9 c8 H2 HR2 HO2 G2
  generalize w2.setCell ⟨w.heap.size,2,none⟩ (.int .i64 v.pos)=w3 at H3 HR3 G3 HO3 hs3⊢
  have c8:=(H3.out.cell 8).1
  simp only[parCells,List.getElem?_toArray,List.getElem?_cons_succ,List.getElem?_cons_zero,hv]at c8
  have HR3':OwnO w3 base 152 1 (.slice A n oc) n xs:=by rw[←hv];exact HR3.out
  have hPr':(Value.slice A n oc).ownBlock≠some P:=by rw[←hv];exact hPr
  have hmx:n+1≤maxLen:=by simp only[maxLen];omega
  have hbase3:base≤w3.heap.size:=by omega
  go_wp2_with (at_builtin;refine wpList_pushO w3 rfl _ _ 110 rfl base 152 i0 _ 1 8 Try.underlying110 hi hz0 hz1 hz2 rfl (by omega) (.slice A n oc) n xs rfl HR3' [.pointer (some ⟨w.heap.size,0,none⟩)] 1 _ rfl rfl rfl (by simp[Value.oneCell']) Nat.zero_lt_one hmx (by omega) hbase3 ?_;intro ob oc' w4 hown4 hg4 ho4;have h4:=H3.out.next ho4 hPr';have c84:=(h4.cell 8).1;have z84:=(h4.cell 8).2;simp only[parCells,List.getElem?_toArray,List.getElem?_cons_succ,List.getElem?_cons_zero,hv]at c84)
  have h5:=h4.set (v':={v with opn:=.slice (some ⟨ob,0,none⟩) (n+1) oc'}) 8 (.slice (some ⟨ob,0,none⟩) (n+1) oc') rfl
  have ho5:=Only.of_set w4 P 8 (.slice (some ⟨ob,0,none⟩) (n+1) oc')
  have hobP:ob≠P:=fun e=>by
   rcases hg4 with hg4 | hg4
   ·exact hPr' (by rw[hg4,e])
   ·omega
  have hobg:ob≠w.heap.size:=fun e=>by
   rcases hg4 with hg4 | hg4
   ·have:=(HLT.out ob (by rw[hv];exact hg4)).2;omega
   ·omega
  have HOW5:=hid (ownsRow_only hown4 ho5 (fun k e e2=>by
   have e:some ob=some k:=e
   injection e with e
   exact hobP (e.trans e2)))
  have hgA:(Value.slice A n oc).ownBlock≠some w.heap.size:=fun e=>by have:=(HLT.out _ (by rw[hv];exact e)).2;omega
  have G5:=hid ((ho5.block _ (Nat.lt_of_lt_of_le hs3 ho4.size) hgP).trans ((ho4.block _ hs3 hgA).trans G3.out))
  have HO5:=hid (((HO3.out.more (S':=fun k=>k=P∨v.opn.ownBlock=some k∨k=w.heap.size) fun _ _ e=>.inr (.inr e)).trans ho4 fun k _ e=>.inr (.inl (by rw[hv];exact e))).trans ho5 fun k _ e=>.inl e)
  have HG:=hid hg4
  have hs5:w.heap.size<(w4.setCell ⟨P,8,none⟩ (.slice (some ⟨ob,0,none⟩) (n+1) oc')).heap.size:=Nat.lt_of_lt_of_le hs3 (Nat.le_trans ho4.size ho5.size)
  have H5:=hid h5
  have hgl3:w.heap.size≤w3.heap.size:=by omega
  clear h4 h5 ho4 ho5 c84 z84 hown4 c8 HR3' H3 HR3 G3 HO3 hg4
  generalize w4.setCell ⟨P,8,none⟩ (.slice (some ⟨ob,0,none⟩) (n+1) oc')=w5 at H5 G5 HO5 HOW5 hs5⊢
  refine still_tail 15 (by kernel_rfl) (by kernel_rfl) ?_
  intro w6 HW6
  have ho6:Only (fun _=>False) w5 w6:=by rw[HW6.out];exact⟨rfl,rfl,rfl,Nat.le_refl _,fun _ _ _=>rfl⟩
  clear HW6
  have H6:=hid (H5.out.next ho6 (fun e=>e))
  have G6:=hid ((ho6.block _ hs5 (fun e=>e)).trans G5.out)
  have HOW6:=hid (ownsRow_only HOW5.out ho6 (fun _ _ e=>e))
  have HO6:=hid (HO5.out.trans ho6 fun _ _ e=>e.elim)
  clear H5 G5 HOW5 HO5 hs5 ho6
  have c4:=(H6.out.cell 4).1
  have z4:=(H6.out.cell 4).2
  have c8:=(H6.out.cell 8).1
  simp only[parCells,List.getElem?_toArray,List.getElem?_cons_succ,List.getElem?_cons_zero]at c4 c8
  simp only[List.take_succ_cons,List.take_zero,List.drop_succ_cons,List.drop_zero]
  repeat still_step
  refine wpStill_nil ?_
  have hmaxe:(if v.deep<(n:Int)+1 then(n:Int)+1 else v.deep)=max v.deep (n+1:Int):=by omega
  rw[hmaxe]
  clear hmaxe c8
  generalize hmxd:max v.deep (n+1:Int)=mx
  have HMX:=hid hmxd
  clear hmxd
  go_upto_region 6 with fail
  have h7:=H6.out.set (v':={v with opn:=.slice (some ⟨ob,0,none⟩) (n+1) oc',deep:=mx}) 4 (.int .i64 mx) rfl
  have ho7:=Only.of_set w6 P 4 (.int .i64 mx)
  have h7o:=ownsRow_only HOW6.out ho7 (fun k e e2=>by
   have e:some ob=some k:=e
   injection e with e
   exact hobP (e.trans e2))
  have g7:=(ho7.block _ (heap_lt G6.out) hgP).trans G6.out
  have o7:=HO6.out.trans ho7 fun k _ e=>.inl e
  clear c4 z4 ho7 H6 G6 HOW6 HO6
  generalize w6.setCell ⟨P,4,none⟩ (.int .i64 mx)=w7 at h7 h7o g7 o7⊢
  have c10:=(h7.cell 10).1
  have z10:=(h7.cell 10).2
  have c5:=(h7.cell 5).1
  have z5:=(h7.cell 5).2
  simp only[parCells,List.getElem?_toArray,List.getElem?_cons_succ,List.getElem?_cons_zero]at c10 c5
  have s0:w7.cell? ⟨w.heap.size,0,none⟩=some (.int .i64 so):=by rw[Lib.cell_of_heap g7];rfl
  have e1:IntKind.i64.wrap (v.looks+1)=v.looks+1:=w64 (by omega) (by omega)
  have e2:IntKind.i64.wrap (v.spec+1)=v.spec+1:=w64 (by omega) (by omega)
  have h8:=h7.set (v':={v with opn:=.slice (some ⟨ob,0,none⟩) (n+1) oc',deep:=mx,looks:=v.looks+1}) 10 (.int .i64 (v.looks+1)) rfl
  have h9:=h8.set (v':={v with opn:=.slice (some ⟨ob,0,none⟩) (n+1) oc',deep:=mx,looks:=v.looks+1,spec:=v.spec+1}) 5 (.int .i64 (v.spec+1)) rfl
  have ho8:=Only.of_set w7 P 10 (.int .i64 (v.looks+1))
  have ho9:=Only.of_set (w7.setCell ⟨P,10,none⟩ (.int .i64 (v.looks+1))) P 5 (.int .i64 (v.spec+1))
  have hnb:∀k,(Value.slice (some ⟨ob,0,none⟩) (n+1) oc').ownBlock=some k→¬k=P:=fun k e e2=>by
   have e:some ob=some k:=e
   injection e with e
   exact hobP (e.trans e2)
  have fin:∀w9,Only (fun k=>k=P) w7 w9→ParAt w9 P c {v with opn:=.slice (some ⟨ob,0,none⟩) (n+1) oc',deep:=max v.deep (n+1:Int),looks:=if so=0 then v.looks else v.looks+1,spec:=if 1<so then v.spec+1 else v.spec}→
   BeginPost P c v base n xs so what state over sv av w (.returned (.tuple #[])) w9:=fun w9 ho hp=>by
   have ho9:=(o7.trans ho fun k _ e=>.inl e).more (S':=fun k=>k=P∨v.opn.ownBlock=some k) fun k hk e=>by
    rcases e with e | e | e
    ·exact .inl e
    ·exact .inr e
    ·omega
   refine⟨rfl,.inr ⟨by have:=hD.out;omega,w.heap.size,ob,oc',Nat.le_refl _,?_,ho9,(ho.block _ (heap_lt g7) hgP).trans g7,ownsRow_only h7o ho hnb,hp⟩⟩
   rcases HG.out with e | e
   ·exact .inl (by rw[hv];exact e)
   ·exact .inr (by omega)
  have FIN:=hid fin
  have H7:=hid h7
  have H8:=hid h8
  have H9:=hid h9
  have O8:=hid ho8
  have O9:=hid (ho8.trans ho9 fun _ _ e=>e)
  clear fin h7 h8 h9 ho8 ho9 hnb h7o g7 o7
  by_cases h0:so=0
  ·subst h0
   go_wp2
   go_end0
   refine FIN.out _ (Only.refl _ _) ?_
   rw[HMX.out]
   exact H7.out
  ·by_cases h1:1<so
   ·have K0:=hid h0
    have K1:=hid h1
    go_wp2
    go_end0
    refine FIN.out _ O9.out ?_
    rw[HMX.out,if_neg K0.out,if_pos K1.out]
    exact H9.out
   ·have K0:=hid h0
    have K1:=hid h1
    go_wp2
    go_end0
    refine FIN.out _ O8.out ?_
    rw[HMX.out,if_neg K0.out,if_neg (show¬1<so by have:=K1.out;omega)]
    exact H8.out
end Go.Proofs.Ytgflanlniejflaa
