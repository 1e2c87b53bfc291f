/-
  Drivers: Que, Rchd (texts joined).
-/
import Derived.ArgAppend
import Derived.Test.YtgflanlniejflaaK05
import Derived.Test.YtgflanlniejflaaK29
import Derived.Test.YtgflanlniejflaaK33
namespace Go.Proofs.Ytgflanlniejflaa
open Go Go.RowKit
set_option maxRecDepth 100000
def QueAt (w:World) (base:Nat) (e:TypeId) (v:Value) (g:Nat) (xs:List Value):Prop:=
 ∃off c cur,v= .slice (some ⟨g,off,none⟩) xs.length c∧base≤g∧w.heap[g]? =some (.cells cur e (0,0))∧off+c≤cur.size∧xs.length≤c∧c≤maxLen∧∀j u,xs[j]? =some u→cur[off+j]? =some u
theorem QueAt.only {w w':World}{base:Nat}{e:TypeId}{v:Value}{g:Nat}{xs:List Value}{S:Nat→Prop}(h:QueAt w base e v g xs) (ho:Only S w w') (hn:¬S g):QueAt w' base e v g xs:=by
 obtain⟨off,c,cur,h1,h2,h3,h4⟩:=h
 exact⟨off,c,cur,h1,h2,(ho.block g (heap_lt h3) hn).trans h3,h4⟩
theorem QueAt.lt {w:World}{base:Nat}{e:TypeId}{v:Value}{g:Nat}{xs:List Value}(h:QueAt w base e v g xs):base≤g∧g<w.heap.size:=by
 obtain⟨off,c,cur,_,h2,h3,_⟩:=h
 exact⟨h2,heap_lt h3⟩
theorem QueAt.rest {w:World}{base:Nat}{e:TypeId}{g off n c:Nat}{x:Value}{xs:List Value}(h:QueAt w base e (.slice (some ⟨g,off,none⟩) n c) g (x ::xs)):
 QueAt w base e (.slice (if c=1 then some ⟨g,off,none⟩else some ⟨g,off+1,none⟩) xs.length (c-1)) g xs:=by
 obtain⟨off',c',cur,h1,h2,h3,h4,h5,h6,h7⟩:=h
 simp only[Value.slice.injEq,Option.some.injEq,Addr.mk.injEq,true_and,and_true,List.length_cons]at h1 h5
 obtain⟨rfl,rfl,rfl⟩:=h1
 by_cases hc:c=1
 ·rw[if_pos hc]
  have hx:xs= []:=List.eq_nil_of_length_eq_zero (by omega)
  subst hx
  exact⟨off,c-1,cur,rfl,h2,h3,by omega,Nat.zero_le _,by omega,fun j u hu=>by cases hu⟩
 ·rw[if_neg hc]
  refine⟨off+1,c-1,cur,rfl,h2,h3,by omega,by omega,by omega,fun j u hu=>?_⟩
  have:=h7 (j+1) u (by simpa using hu)
  rw[←this]
  congr 1
  omega
theorem QueAt.tail {w:World}{base:Nat}{e:TypeId}{g off n c:Nat}{x:Value}{xs:List Value}(h:QueAt w base e (.slice (some ⟨g,off,none⟩) n c) g (x ::xs)):n=xs.length+1∧1≤c∧w.cell? ⟨g,off,none⟩=some x∧QueAt w base e (.slice (some ⟨g,off+1,none⟩) xs.length (c-1)) g xs:=by
 obtain⟨off',c',cur,h1,h2,h3,h4,h5,h6,h7⟩:=h
 simp only[Value.slice.injEq,Option.some.injEq,Addr.mk.injEq,true_and,and_true,List.length_cons]at h1 h5
 obtain⟨rfl,rfl,rfl⟩:=h1
 refine⟨rfl,by omega,?_,off+1,c-1,cur,rfl,h2,h3,by omega,by omega,by omega,fun j u hu=>?_⟩
 ·rw[Lib.cell_of_heap h3]
  exact h7 0 x rfl
 ·have:=h7 (j+1) u (by simpa using hu)
  rw[←this]
  congr 1
  omega
theorem wpList_pushQ {P:Program}(w:World){ops:Array Oper}{rest:List Oper}{o:Oper}{a:Act}{Q:Exit→Act→World→Prop}(hgd:o.guard=none) (s x:Operand) (t:TypeId)
 (ho:o.op= .call {callee:=.builtin .append,args:=#[s,x],argTypes:=#[t,t]})
 (base:Nat) (e:TypeId) (i:TypeInfo) (z:Value) (bytes:Nat) (ht:P.underlying t=some (.slice e)) (hi:P.info? e=some i) (hz:i.zero=some z)
 (hsize:i.size=1) (hby:i.bytes=bytes) (hzs:z.cells.size=1)
 (v:Value) (g:Nat) (xs:List Value) (hs:a.eval s=v) (hq:QueAt w base e v g xs)
 (u:Value) (b:Nat) (hx:a.eval x= .slice (some ⟨b,0,none⟩) 1 1) (hbs:b=w.heap.size) (h1:u.oneCell'=true)
 (h63:xs.length+1≤maxLen) (hbytes:(xs.length+1)*bytes≤140737488355328)
 (h:∀v' g' w',QueAt w' base e v' g' (xs++ [u])→(g'=g∨w.heap.size<g')→Only (fun k=>k=g) w w'→wpList P ops Q rest (a.put o.dst v') w'):wpList P ops Q (o ::rest) a (w.alloc (.cells #[u] e)):=by
 obtain⟨off,c,cur,rfl,hbg,hg,hoc,hxc,hcm,hcells⟩:=hq
 rw[hbs]at hx
 have hgl:=heap_lt hg
 have hgW:(w.alloc (.cells #[u] e)).heap[g]? =some (.cells cur e (0,0)):=(Below.heap_alloc w _ _ hgl).trans hg
 refine wpList_append_arg (P:=P) (w.alloc (.cells #[u] e)) hgd s x t ho e i z 1 bytes ht hi hz hsize hby hzs Nat.zero_lt_one g off xs.length c xs hs (by omega)
  (fun j y hy=>by rw[Lib.cell_of_heap hgW];exact hcells j y hy) ⟨w.heap.size,0,none⟩ 1 1 [u] hx rfl (fun j y hy=>?_) (fun y hy=>by rw[List.mem_singleton]at hy;rw[hy];exact h1)
  (fun hroom j hj=>?_) h63 hbytes (fun hroom=>?_) (fun hgrow v' w' hown hgr=>?_)
 ·have hj:j<1:=(List.getElem?_eq_some_iff.1 hy).1
  have:j=0:=by omega
  subst this
  rw[addr_off,cell_new]
  simpa using hy
 ·have hj0:j=0:=by simpa using hj
  subst hj0
  refine⟨?_,Lib.frozen_of_heap hgW _⟩
  rw[Lib.cell_of_heap hgW,Array.getElem?_eq_getElem (by omega)]
  rfl
 ·have hset:(w.alloc (.cells #[u] e)).setCells g (off+xs.length*1) [u]=(w.alloc (.cells #[u] e)).setCell ⟨g,off+xs.length,none⟩ u:=by
   rw[Nat.mul_one];rfl
  rw[hset]
  refine h _ g _ ⟨off,c,cur.setIfInBounds (off+xs.length) u,by simp,hbg,heap_setCell_same _ g _ _ _ _ hgW,by simp;omega,by simp;omega,hcm,fun j y hy=>?_⟩ (.inl rfl) ?_
  ·rw[Array.getElem?_setIfInBounds]
   rcases Nat.lt_or_ge j xs.length with hj | hj
   ·rw[List.getElem?_append_left hj]at hy
    rw[if_neg (by omega)]
    exact hcells j y hy
   ·rw[List.getElem?_append_right hj]at hy
    have hj1:j-xs.length<1:=(List.getElem?_eq_some_iff.1 hy).1
    have:j=xs.length:=by omega
    subst this
    rw[if_pos rfl,if_pos (by omega)]
    simpa using hy
  ·exact((Only.of_below (S:=fun k=>k=g) (below_new w (.cells #[u] e)))).trans (Only.of_set _ g _ u) fun _ _ e=>e
 ·obtain⟨hl,hv⟩:=hown
  rcases hv with⟨_,h0⟩ | ⟨g',c',cur',rfl,hb',hh,hc',hm',hsz',htk⟩
  ·omega
  ·have hsz:(w.alloc (.cells #[u] e)).heap.size=w.heap.size+1:=by simp
   refine h _ g' _ ⟨0,c',cur',by simp,by omega,hh,by omega,by simp;omega,hm',fun j y hy=>?_⟩ (.inr (by omega)) ⟨hgr.os,hgr.tape,hgr.output,by have:=hgr.size;omega,fun k hk _=>?_⟩
   ·have hjl:j<(xs++ [u]).length:=(List.getElem?_eq_some_iff.1 hy).1
    rw[←htk,List.getElem?_take]at hy
    rw[Nat.zero_add]
    split at hy
    ·simpa using hy
    ·cases hy
   ·rw[hgr.block k (by omega) (by simp)]
    exact Below.heap_alloc w _ _ hk
end Go.Proofs.Ytgflanlniejflaa
namespace Go.Proofs.Ytgflanlniejflaa
open Go.RowKit
set_option maxRecDepth 100000
theorem infoB:(Try.prog.info? 4).map (fun i=>(i.zero,i.size,i.bytes))=some (some (.bool false),1,1):=by kernel_rfl
theorem made_boolZ (n:Nat):madeCells #[Value.bool false] n=(List.replicate n (Value.bool false)).toArray:=by
 apply Array.ext
 ·simp[madeCells]
 ·intro i h1 h2
  simp[madeCells,Nat.mod_one]
theorem mkBools (n:Nat) (hn:n≤1000000) (u:World):(Instr.makeSlice 136 (.int .i64 (n:Int)) (.int .i64 (n:Int))).run Try.prog u=
 .ok (.slice (some ⟨u.heap.size,0,none⟩) n n) (u.alloc (.cells (Array.replicate n (Value.bool false)) 4)):=by
 obtain⟨i2,hi2,hz2,hs2,hy2⟩:=info_of infoB
 have h:=run_make (P:=Try.prog) u 136 4 i2 (.bool false) Try.underlying136 hi2 hz2 .i64 .i64 (n:Int) (n:Int) (by omega) (Int.le_refl _) (by rw[hy2];omega) (by omega)
 have e:(n:Int).toNat=n:=by omega
 rw[e]at h
 rw[show Array.replicate n (Value.bool false)=madeCells #[Value.bool false] n by rw[made_boolZ];simp]
 simpa[hs2,Value.cells]using h
def KnR (w:World) (B:Nat) (A:Option Addr) (R:Nat) (kn:List (List Bool×Bool)):Prop:=
 kn.length=R∧∃vs,Reads w B 2 A R vs∧∀i (h:i<kn.length),(kn[i].1.length=0∨kn[i].1.length=R)∧∃Ai ci,vs[i*2]? =some (.slice Ai kn[i].1.length ci)∧vs[i*2+1]? =some (.bool kn[i].2)∧Reads w B 1 Ai kn[i].1.length (kn[i].1.map Value.bool)
def RchM (w:World) (X:Array Value) (nT:Nat) (wr:World) (v:Value) (gq:Nat) (nx:List Int) (vs os:List Bool) (oe:Bool):Prop:=
 Below w.heap.size w wr∧wr.heap[w.heap.size]? =some (.cells X 25 (0,0))∧wr.heap[w.heap.size+1]? =some (.cells #[.slice none 0 0,.bool false] 138 (0,0))∧
  wr.heap[w.heap.size+1+1]? =some (.cells (os.map Value.bool).toArray 4 (0,0))∧wr.heap[w.heap.size+1+1+1]? =some (.cells #[.slice (some ⟨w.heap.size+1+1,0,none⟩) nT nT,.bool oe] 138 (0,0))∧
  wr.heap[w.heap.size+1+1+1+1]? =some (.cells (vs.map Value.bool).toArray 4 (0,0))∧QueAt wr w.heap.size 3 v gq (nx.map (Value.int .i64))
def RchI (w:World) (X:Array Value) (n:Drv.NNet) (kn:List (List Bool×Bool)) (r:Int) (m:Nat) (v:Value) (wr:World):Prop:=
 ∃gq nx vs os oe,RchM w X n.starts.length wr v gq nx vs os oe∧Drv.WI n (Drv.toK kn) r (Drv.edgesAt n) vs nx oe os∧nx.length+Drv.todo1 n.states vs≤m∧nx.length+Drv.todo1 n.states vs≤2000000000000
theorem RchM.setOut {w wr:World}{X:Array Value}{nT gq:Nat}{v:Value}{nx:List Int}{vs os:List Bool}{oe:Bool}(h:RchM w X nT wr v gq nx vs os oe) (x:Bool):RchM w X nT (wr.setCell ⟨w.heap.size+1+1+1,1,none⟩ (.bool x)) v gq nx vs os x:=by
 obtain⟨hb,t0,t1,t2,t3,t4,hq⟩:=h
 have hO:=Only.of_set wr (w.heap.size+1+1+1) 1 (.bool x)
 have hne:gq≠w.heap.size+1+1+1:=fun e=>by
  obtain⟨_,_,_,_,_,h9,_⟩:=hq
  rw[e,t3]at h9
  injection h9 with h9
  injection h9 with _ h9
  cases h9
 exact⟨hO.below (fun j e=>by rw[e];omega) hb hb.size,(hO.block _ (heap_lt t0) (by omega)).trans t0,(hO.block _ (heap_lt t1) (by omega)).trans t1,(hO.block _ (heap_lt t2) (by omega)).trans t2,heap_setCell_same wr _ 1 _ _ (.bool x) t3,(hO.block _ (heap_lt t4) (by omega)).trans t4,hq.only hO hne⟩
theorem RchM.setRule {w wr:World}{X:Array Value}{nT gq:Nat}{v:Value}{nx:List Int}{vs os:List Bool}{oe:Bool}(h:RchM w X nT wr v gq nx vs os oe) (q:Nat) (x:Bool):RchM w X nT (wr.setCell ⟨w.heap.size+1+1,q,none⟩ (.bool x)) v gq nx vs (os.set q x) oe:=by
 obtain⟨hb,t0,t1,t2,t3,t4,hq⟩:=h
 have hO:=Only.of_set wr (w.heap.size+1+1) q (.bool x)
 have hne:gq≠w.heap.size+1+1:=fun e=>by
  obtain⟨_,_,_,_,_,h9,_⟩:=hq
  rw[e,t2]at h9
  injection h9 with h9
  injection h9 with _ h9
  cases h9
 refine⟨hO.below (fun j e=>by rw[e];omega) hb hb.size,(hO.block _ (heap_lt t0) (by omega)).trans t0,(hO.block _ (heap_lt t1) (by omega)).trans t1,?_,(hO.block _ (heap_lt t3) (by omega)).trans t3,(hO.block _ (heap_lt t4) (by omega)).trans t4,hq.only hO hne⟩
 rw[heap_setCell_same wr _ q _ _ (.bool x) t2,List.setIfInBounds_toArray,List.map_set]
theorem RchM.still {w wr w':World}{X:Array Value}{nT gq:Nat}{v:Value}{nx:List Int}{vs os:List Bool}{oe:Bool}(h:RchM w X nT wr v gq nx vs os oe) (ho:Only (fun _=>False) wr w'):RchM w X nT w' v gq nx vs os oe:=by
 obtain⟨hb,t0,t1,t2,t3,t4,hq⟩:=h
 exact⟨ho.below (fun _ e=>e.elim) hb hb.size,(ho.block _ (heap_lt t0) id).trans t0,(ho.block _ (heap_lt t1) id).trans t1,(ho.block _ (heap_lt t2) id).trans t2,(ho.block _ (heap_lt t3) id).trans t3,(ho.block _ (heap_lt t4) id).trans t4,hq.only ho id⟩
theorem R0out_len {w:World}{B n:Nat}{A:Option Addr}{l:List Drv.Ed}(h:l.length=n) (g:Reads w B 3 A n (flat encEd l)):Reads w B 3 A l.length (flat encEd l):=by rw[h];exact g
theorem RchM.push {w wr w':World}{X:Array Value}{nT gq g':Nat}{v v':Value}{nx nx':List Int}{vs os:List Bool}{oe:Bool}(h:RchM w X nT wr v gq nx vs os oe) (hq':QueAt w' w.heap.size 3 v' g' (nx'.map (Value.int .i64))) (ho:Only (fun k=>k=gq) wr w'):RchM w X nT w' v' g' nx' vs os oe:=by
 obtain⟨hb,t0,t1,t2,t3,t4,hq⟩:=h
 have hqg:=hq.lt
 obtain⟨_,_,_,_,_,h9,_⟩:=hq
 have ne:∀{k:Nat}{cs:Array Value}{T:TypeId},wr.heap[k]? =some (.cells cs T (0,0))→T≠3→¬k=gq:=fun hk hT e=>by
  rw[e,h9]at hk
  injection hk with hk
  injection hk with _ hk
  exact hT hk.symm
 exact⟨ho.below (fun j e=>by rw[e];exact hqg.1) hb hb.size,(ho.block _ (heap_lt t0) (ne t0 (by decide))).trans t0,(ho.block _ (heap_lt t1) (ne t1 (by decide))).trans t1,(ho.block _ (heap_lt t2) (ne t2 (by decide))).trans t2,(ho.block _ (heap_lt t3) (ne t3 (by decide))).trans t3,(ho.block _ (heap_lt t4) (ne t4 (by decide))).trans t4,hq'⟩
theorem infoReachP:(Try.prog.info? 138).map (·.size)=some 2:=by kernel_rfl
theorem rchd_end {n:Drv.NNet}{kn:List (List Bool×Bool)}{r:Int}{w wr wF:World}{X:Array Value}{v:Value}{gq:Nat}{vs os:List Bool}{oe:Bool}(h:RchM w X n.starts.length wr v gq [] vs os oe) (hW:Drv.WI n (Drv.toK kn) r (Drv.edgesAt n) vs [] oe os)
 (lT:n.starts.length≤1000000) (hw:w.heap.size+1+1<wr.heap.size) (ho:Only (fun j=>j=w.heap.size+1) wr wF):
 ∃(A:Option Addr) (c:Nat) (os:List Bool) (oe':Bool),(Ending.returned (.agg #[.slice (some ⟨w.heap.size+1+1,0,none⟩) n.starts.length n.starts.length,.bool oe]))= .returned (.agg #[.slice A n.starts.length c,.bool oe'])∧wF.ownsRow w.heap.size 4 1 (.slice A n.starts.length c) n.starts.length (os.map Value.bool)∧Below w.heap.size w wF∧
 (oe'=true↔Drv.InK n (Drv.toK kn) r (Drv.at0 n.stops r))∧∀q:Nat,q<n.starts.length→(os[q]? =some true↔Drv.RulK n (Drv.toK kn) r q):=by
 obtain⟨hb,t0,t1,t2,t3,t4,hq⟩:=h
 have hd:=hW.done fun _=>rfl
 have hol:=hW.olen
 refine⟨_,_,os,oe,rfl,⟨by rw[List.length_map,hol,Nat.mul_one],.inr ⟨_,_,_,rfl,by omega,(ho.block _ hw (by omega)).trans t2,Nat.le_refl _,by simp only[maxLen];omega,by simp[hol],by rw[List.take_of_length_le (by rw[List.length_map,hol,Nat.mul_one];exact Nat.le_refl _)]⟩⟩,ho.below (fun j e=>by rw[e];omega) hb hb.size,hd⟩
def RchdP (n:Drv.NNet) (kn:List (List Bool×Bool)) (r:Int) (w:World) (e:Ending) (w':World):Prop:=
 ∃(A:Option Addr) (c:Nat) (os:List Bool) (oe:Bool),e= .returned (.agg #[.slice A n.starts.length c,.bool oe])∧w'.ownsRow w.heap.size 4 1 (.slice A n.starts.length c) n.starts.length (os.map Value.bool)∧Below w.heap.size w w'∧
  (oe=true↔Drv.InK n (Drv.toK kn) r (Drv.at0 n.stops r))∧∀q:Nat,q<n.starts.length→(os[q]? =some true↔Drv.RulK n (Drv.toK kn) r q)
set_option maxHeartbeats 12800000 in
theorem reached_any (w:World) (n:Drv.NNet) (SA TA UA QA DA KA:Option Addr) (sc tc uc qc dc kc r:Nat) (kn:List (List Bool×Bool)) (h:NetR w w.heap.size SA TA UA QA DA n) (hs:NetS n) (hm:Drv.mayNet n=true) (hr:r<n.starts.length) (hK:KnR w w.heap.size KA n.starts.length kn):
 Calls Try.prog 74 #[netAgg SA TA UA QA DA sc tc uc qc dc n,.int .i64 r,.slice KA n.starts.length kc] w (RchdP n kn r w):=by
 obtain⟨nS,hnS⟩:∃m,n.states.length=m:=⟨_,rfl⟩
 obtain⟨nT,hnT⟩:∃m,n.starts.length=m:=⟨_,rfl⟩
 obtain⟨nU,hnU⟩:∃m,n.stops.length=m:=⟨_,rfl⟩
 obtain⟨nQ,hnQ⟩:∃m,n.preds.length=m:=⟨_,rfl⟩
 obtain⟨nD,hnD⟩:∃m,n.decs.length=m:=⟨_,rfl⟩
 have hms:=Drv.may_start hm hr
 have lS:=hs.states
 have lT:=hs.starts
 have c0:=h.starts
 obtain⟨tb,to',rfl,htb,hcs⟩:=c0.2 (by omega)
 have s0:=hcs r _ (by rw[List.getElem?_map,List.getElem?_eq_getElem hr];rfl)
 have hUl:0<n.stops.length:=by omega
 obtain⟨ub,uo,rfl,hub,hcu⟩:=h.stops.2 hUl
 have u0:=hcu r _ (by rw[List.getElem?_map,List.getElem?_eq_getElem (show r<n.stops.length by omega)];rfl)
 have hnT2:=hnT
 have hUT:nU=nT:=by omega
 have H:=hid h
 have HS:=hid hs
 have HM:=hid hm
 have HK:=hid hK
 unfold netAgg
 rw[hnS,hnT,hnU,hnQ,hnD]
 rw[hnS]at lS
 rw[hnT]at lT hr
 have hmk1:=mkBools nT lT
 have hmk2:=mkBools nS lS
 have HNS:=hid hnS
 have HNT:=hid hnT
 have HNU:=hid hnU
 have HMS:=hid hms
 have HSTR:=hid hms.1
 have hst:Drv.at0 n.starts r=n.starts[r]:=by unfold Drv.at0;rw[List.getD_eq_getElem?_getD,Int.toNat_natCast,List.getElem?_eq_getElem];rfl
 have hsp:Drv.at0 n.stops r=n.stops[r]'(by omega):=by unfold Drv.at0;rw[List.getD_eq_getElem?_getD,Int.toNat_natCast,List.getElem?_eq_getElem];rfl
 rw[←hst]at s0
 rw[←hsp]at u0
 have HST:=hid hst
 clear h hs hm hK hcs hcu hst hsp HST hms hnT2 hUl c0 hnS hnT hnU hnQ hnD
 generalize hstv:Drv.at0 n.starts r=st at s0
 generalize hspv:Drv.at0 n.stops r=sp at u0
 subst hUT
 have hrI:(r:Int)<(nU:Int):=by omega
 obtain⟨w1,hw1⟩:∃x,x=w.alloc (.cells #[.slice SA nS sc,.slice (some ⟨tb,to',none⟩) nU tc,.slice (some ⟨ub,uo,none⟩) nU uc,.slice QA nQ qc,.slice DA nD dc] 25):=⟨_,rfl⟩
 obtain⟨w2,hw2⟩:∃x,x=w1.alloc (.cells #[.slice none 0 0,.bool false] 138):=⟨_,rfl⟩
 obtain⟨w3,hw3⟩:∃x,x=w2.alloc (.cells (Array.replicate nU (Value.bool false)) 4):=⟨_,rfl⟩
 obtain⟨w4,hw4⟩:∃x,x=w3.alloc (.cells #[.slice (some ⟨w.heap.size+1+1,0,none⟩) nU nU,.bool false] 138):=⟨_,rfl⟩
 obtain⟨w5,hw5⟩:∃x,x=w4.alloc (.cells (Array.replicate nS (Value.bool false)) 4):=⟨_,rfl⟩
 obtain⟨w6,hw6⟩:∃x,x=w5.alloc (.cells #[.int .i64 st] 3):=⟨_,rfl⟩
 have HW:=hid (show(((((w.alloc (.cells #[.slice SA nS sc,.slice (some ⟨tb,to',none⟩) nU tc,.slice (some ⟨ub,uo,none⟩) nU uc,.slice QA nQ qc,.slice DA nD dc] 25)).alloc (.cells #[.slice none 0 0,.bool false] 138)).alloc (.cells (Array.replicate nU (Value.bool false)) 4)).alloc (.cells #[.slice (some ⟨w.heap.size+1+1,0,none⟩) nU nU,.bool false] 138)).alloc (.cells (Array.replicate nS (Value.bool false)) 4))=w5 by rw[hw5,hw4,hw3,hw2,hw1])
 have HW6:=hid (show w5.alloc (.cells #[.int .i64 st] 3)=w6 from hw6.symm)
 have z1:w1.heap.size=w.heap.size+1:=by rw[hw1];simp
 have z2:w2.heap.size=w.heap.size+1+1:=by rw[hw2];simp[z1]
 have z3:w3.heap.size=w.heap.size+1+1+1:=by rw[hw3];simp[z2]
 have z4:w4.heap.size=w.heap.size+1+1+1+1:=by rw[hw4];simp[z3]
 have z5:w5.heap.size=w.heap.size+1+1+1+1+1:=by rw[hw5];simp[z4]
 have z6:w6.heap.size=w.heap.size+1+1+1+1+1+1:=by rw[hw6];simp[z5]
 have b1:Below w.heap.size w w1:=by rw[hw1];exact below_new _ _
 have b2:Below w.heap.size w w2:=by rw[hw2];exact b1.alloc (by omega) _
 have b3:Below w.heap.size w w3:=by rw[hw3];exact b2.alloc (by omega) _
 have b4:Below w.heap.size w w4:=by rw[hw4];exact b3.alloc (by omega) _
 have b5:Below w.heap.size w w5:=by rw[hw5];exact b4.alloc (by omega) _
 have b6:Below w.heap.size w w6:=by rw[hw6];exact b5.alloc (by omega) _
 have T1h:w6.heap[w.heap.size]? =some (.cells #[.slice SA nS sc,.slice (some ⟨tb,to',none⟩) nU tc,.slice (some ⟨ub,uo,none⟩) nU uc,.slice QA nQ qc,.slice DA nD dc] 25 (0,0)):=by
  rw[hw6,Below.heap_alloc _ _ _ (by omega),hw5,Below.heap_alloc _ _ _ (by omega),hw4,Below.heap_alloc _ _ _ (by omega),hw3,Below.heap_alloc _ _ _ (by omega),hw2,Below.heap_alloc _ _ _ (by omega),hw1];exact heap_alloc_new _ _
 have T2h:w6.heap[w.heap.size+1]? =some (.cells #[.slice none 0 0,.bool false] 138 (0,0)):=by
  rw[hw6,Below.heap_alloc _ _ _ (by omega),hw5,Below.heap_alloc _ _ _ (by omega),hw4,Below.heap_alloc _ _ _ (by omega),hw3,Below.heap_alloc _ _ _ (by omega),hw2,←z1];exact heap_alloc_new _ _
 have T3h:w6.heap[w.heap.size+1+1]? =some (.cells (Array.replicate nU (Value.bool false)) 4 (0,0)):=by
  rw[hw6,Below.heap_alloc _ _ _ (by omega),hw5,Below.heap_alloc _ _ _ (by omega),hw4,Below.heap_alloc _ _ _ (by omega),hw3,←z2];exact heap_alloc_new _ _
 have T4h:w6.heap[w.heap.size+1+1+1]? =some (.cells #[.slice (some ⟨w.heap.size+1+1,0,none⟩) nU nU,.bool false] 138 (0,0)):=by
  rw[hw6,Below.heap_alloc _ _ _ (by omega),hw5,Below.heap_alloc _ _ _ (by omega),hw4,←z3];exact heap_alloc_new _ _
 have T5h:w6.heap[w.heap.size+1+1+1+1]? =some (.cells (Array.replicate nS (Value.bool false)) 4 (0,0)):=by
  rw[hw6,Below.heap_alloc _ _ _ (by omega),hw5,←z4];exact heap_alloc_new _ _
 have T6h:w6.heap[w.heap.size+1+1+1+1+1]? =some (.cells #[.int .i64 st] 3 (0,0)):=by
  rw[hw6,←z5];exact heap_alloc_new _ _
 have HB6:=hid b6
 have HB5:=hid b5
 have HT1:=hid T1h
 have HT2:=hid T2h
 have HT3:=hid T3h
 have HT4:=hid T4h
 have HT5:=hid T5h
 have HT6:=hid T6h
 have hb6l:=heap_lt T6h
 have hz5a:w.heap.size<w5.heap.size:=by omega
 have HZ5:=hid z5
 clear hw1 hw2 hw3 hw4 hw5 hw6 z1 z2 z3 z4 z5 z6 b1 b2 b3 b4 b5 b6 T1h T2h T3h T4h T5h T6h
 go_enter Try.func74,Try.ntmps74
 go_upto_region 3 with fail
 rw[HW.out]
 clear HW
 have q1:w5.cell? ⟨w.heap.size,1,none⟩=some (.slice (some ⟨tb,to',none⟩) nU tc):=by
  have h1:w6.cell? ⟨w.heap.size,1,none⟩=some (.slice (some ⟨tb,to',none⟩) nU tc):=by rw[Lib.cell_of_heap HT1.out];rfl
  rw[←HW6.out,World.cell?_alloc_lt _ _ _ hz5a]at h1
  exact h1
 have s5:=(HB5.out.cell (p:=⟨tb,to'+r,none⟩) htb).trans s0
 go_upto_region 4 with fail
 rw[HZ5.out,HW6.out]
 clear HW6 q1 s5
 have hX:∃X:Array Value,X=#[.slice SA nS sc,.slice (some ⟨tb,to',none⟩) nU tc,.slice (some ⟨ub,uo,none⟩) nU uc,.slice QA nQ qc,.slice DA nD dc]:=⟨_,rfl⟩
 have hI0:RchI w #[.slice SA nS sc,.slice (some ⟨tb,to',none⟩) nU tc,.slice (some ⟨ub,uo,none⟩) nU uc,.slice QA nQ qc,.slice DA nD dc] n kn r (1+Drv.todo1 n.states (List.replicate nS false)) (.slice (some ⟨w.heap.size+1+1+1+1+1,0,none⟩) 1 1) w6:=by
  refine⟨w.heap.size+1+1+1+1+1,[st],List.replicate nS false,List.replicate nU false,false,⟨HB6.out,HT1.out,HT2.out,?_,?_,?_,?_⟩,?_,?_,?_⟩
  ·rw[HT3.out];simp
  ·rw[HNT.out];exact HT4.out
  ·rw[HT5.out];simp
  ·exact⟨0,1,#[.int .i64 st],rfl,by omega,HT6.out,by simp,Nat.le_refl _,by decide,fun j u hu=>by rw[Nat.zero_add];simpa using hu⟩
  ·have h1:=Drv.WI.start0 (k:=Drv.toK kn) HSTR.out
   rw[hstv,HNS.out,HNT.out]at h1
   exact h1
  ·simp
  ·have h1:=Drv.todo_le (M:=1000000) n.states (List.replicate nS false) (fun x hx=>(HS.out.st x hx).1)
   rw[HNS.out]at h1
   have h2:nS*(1000000+1)≤1000000*(1000000+1):=Nat.mul_le_mul_right _ lS
   simp only[List.length_singleton]
   omega
 have HI0:=hid hI0
 clear hI0 hX
 go_wp2_with fail
 go_loopg [9] (1+Drv.todo1 n.states (List.replicate nS false)) (fun m v wr=>Hid (RchI w #[.slice SA nS sc,.slice (some ⟨tb,to',none⟩) nU tc,.slice (some ⟨ub,uo,none⟩) nU uc,.slice QA nQ qc,.slice DA nD dc] n kn r m v wr))
 case atStart=>exact HI0
 case round=>
  clear HI0
  obtain⟨gq,nx,vs,os,oe,⟨hb,t0,t1,t2,t3,t4,hq⟩,hW,hmm,hmb⟩:=hrel.out
  have hlw:=heap_lt t2
  have hlw3:=heap_lt t3
  have hlw4:=heap_lt t4
  cases nx with
  | nil=>
   obtain⟨off,c,cur,rfl,hq2⟩:=id hq
   have k0:wr.cell? ⟨w.heap.size+1+1+1,0,none⟩=some (.slice (some ⟨w.heap.size+1+1,0,none⟩) nU nU):=by rw[Lib.cell_of_heap t3,HNT.out];rfl
   have k1:wr.cell? ⟨w.heap.size+1+1+1,1,none⟩=some (.bool oe):=by rw[Lib.cell_of_heap t3];rfl
   have z0:wr.cell? ⟨w.heap.size+1,0,none⟩=some (.slice none 0 0):=by rw[Lib.cell_of_heap t1];rfl
   have z1:wr.cell? ⟨w.heap.size+1,1,none⟩=some (.bool false):=by rw[Lib.cell_of_heap t1];rfl
   have zz:=fun i=>Lib.frozen_of_heap t1 i
   have g1:=heap_setCell_same wr (w.heap.size+1) 0 _ _ (.slice (some ⟨w.heap.size+1+1,0,none⟩) nU nU) t1
   have g2:=heap_setCell_same _ (w.heap.size+1) 1 _ _ (.bool oe) g1
   have oF:=(Only.of_set wr (w.heap.size+1) 0 (.slice (some ⟨w.heap.size+1+1,0,none⟩) nU nU)).trans (Only.of_set _ (w.heap.size+1) 1 (.bool oe)) fun _ _ e=>e
   have hE:=rchd_end ⟨hb,t0,t1,t2,t3,t4,hq⟩ hW (by rw[HNT.out];exact lT) hlw oF
   have HE:=hid hE
   have HG:=hid g2
   clear hE g1 g2 oF hb t0 t1 t2 t3 t4 hq hW hmm hmb hrel hq2
   go_wp2_with fail
   refine bodyPost_ret (results_cell_row rfl _ _ (w.heap.size+1) 138 _ _ _ rfl HG.out Try.underlying138 rfl infoReachP) rfl ?_
   have h9:=HE.out
   rw[HNT.out]at h9
   unfold RchdP
   rw[HNT.out]
   exact h9
  | cons s nx=>
   obtain⟨hin,hs0,hs1⟩:=hW.sound s (.inl (by simp))
   obtain⟨a,rfl⟩:∃a:Nat,s=a:=⟨s.toNat,by omega⟩
   have hal:a<nS:=by rw[HNS.out]at hs1;omega
   obtain⟨off,c,cur,rfl,hq2⟩:=id hq
   obtain⟨hql,hqc,hqx,_⟩:=QueAt.tail (x:=.int .i64 a) (xs:=nx.map (Value.int .i64)) hq
   have hqt:=hq.rest
   rw[List.length_map]at hqt
   have hql2:(((a:Int) ::nx).map (Value.int .i64)).length=nx.length+1:=by simp
   rw[hql2]
   have hlen:nx.length+1≤2000000000000:=by rw[List.length_cons]at hmb;omega
   obtain⟨ln,hln⟩:∃m,nx.length=m:=⟨_,rfl⟩
   rw[hln]at hlen hql2 hqt⊢
   have hcl:ln+1≤c:=by
    have:=hq2.2.2.2.1
    rw[hql2]at this
    exact this
   have HQ:=hid hq
   have HQT:=hid hqt
   have HLN:=hid hln
   have HWW:=hid hW
   have hv0:=hW.vlen
   rw[HNS.out]at hv0
   have hbv:∃bv,vs[a]? =some bv:=⟨vs[a]'(by omega),List.getElem?_eq_getElem (by omega)⟩
   obtain⟨bv,hbv⟩:=hbv
   have hav:wr.cell? ⟨w.heap.size+1+1+1+1,a,none⟩=some (.bool bv):=by
    rw[Lib.cell_of_heap t4,List.getElem?_toArray,List.getElem?_map,hbv];rfl
   have HB:=hid hb
   have HT0:=hid t0
   have HT1':=hid t1
   have HT2':=hid t2
   have HT3':=hid t3
   have HT4':=hid t4
   have HMM:=hid hmm
   have HMB:=hid hmb
   clear hq hqt hln hW hb t0 t1 t2 t3 t4 hq2 hmm hmb hrel hql2 hqc hql
   have halI:(a:Int)<(nS:Int):=by omega
   go_upto_region 7 with fail
   generalize hvq:Value.slice (if c=1 then some ⟨gq,off,none⟩else some ⟨gq,off+1,none⟩) ln (c-1)=vq at HQT⊢
   clear hvq
   cases bv with
   | true=>
    have HFIN:Hid (RchI w #[.slice SA nS sc,.slice (some ⟨tb,to',none⟩) nU tc,.slice (some ⟨ub,uo,none⟩) nU uc,.slice QA nQ qc,.slice DA nD dc] n kn r (ln+Drv.todo1 n.states vs) vq wr):=
     hid ⟨gq,nx,vs,os,oe,⟨HB.out,HT0.out,HT1'.out,HT2'.out,HT3'.out,HT4'.out,HQT.out⟩,HWW.out.seen ⟨by omega,by rw[Int.toNat_natCast];exact hbv⟩,by rw[HLN.out];exact Nat.le_refl _,by have:=HMB.out;rw[List.length_cons]at this;omega⟩
    have hlt9:ln+Drv.todo1 n.states vs<gk:=by have:=HMM.out;rw[List.length_cons,HLN.out]at this;omega
    clear hbv
    go_wp2_with fail
    go_roundg (ln+Drv.todo1 n.states vs)
    case measure=>exact hlt9
    case rel=>exact HFIN
   | false=>
    have zf:=Lib.frozen_of_heap HT4'.out a
    go_upto_region 9 with fail
    have hO8:=Only.of_set wr (w.heap.size+1+1+1+1) a (.bool true)
    have t4n:(wr.setCell ⟨w.heap.size+1+1+1+1,a,none⟩ (.bool true)).heap[w.heap.size+1+1+1+1]? =some (.cells ((vs.set a true).map Value.bool).toArray 4 (0,0)):=by
     rw[heap_setCell_same wr _ a _ _ (.bool true) HT4'.out,List.setIfInBounds_toArray,List.map_set]
    generalize wr.setCell ⟨w.heap.size+1+1+1+1,a,none⟩ (.bool true)=w8 at hO8 t4n⊢
    have hlk:=HQT.out.lt
    have hgq4:gq≠w.heap.size+1+1+1+1:=fun e=>by
     obtain⟨_,_,_,_,_,h9,_⟩:=HQT.out
     rw[e,HT4'.out]at h9
     injection h9 with h9
     injection h9 with _ h9
     cases h9
    have M8:RchM w #[.slice SA nS sc,.slice (some ⟨tb,to',none⟩) nU tc,.slice (some ⟨ub,uo,none⟩) nU uc,.slice QA nQ qc,.slice DA nD dc] n.starts.length w8 vq gq nx (vs.set a true) os oe:=by
     refine⟨hO8.below (fun j e=>by rw[e];omega) HB.out HB.out.size,(hO8.block _ (heap_lt HT0.out) (by omega)).trans HT0.out,(hO8.block _ (heap_lt HT1'.out) (by omega)).trans HT1'.out,(hO8.block _ (heap_lt HT2'.out) (by omega)).trans HT2'.out,(hO8.block _ (heap_lt HT3'.out) (by omega)).trans HT3'.out,t4n,HQT.out.only hO8 hgq4⟩
    have HM8:=hid M8
    clear M8 t4n hO8 HB HT0 HT1' HT2' HT3' HT4' HQT HQ zf hav hgq4 hlk
    go_cut[9,10]from 30 to 116 (fun v s wx=>v=vq∧s= .int .i64 a∧Hid (RchM w #[.slice SA nS sc,.slice (some ⟨tb,to',none⟩) nU tc,.slice (some ⟨ub,uo,none⟩) nU uc,.slice QA nQ qc,.slice DA nD dc] n.starts.length wx vq gq nx (vs.set a true) os (oe || decide ((a:Int)=sp))))
    case first=>
     have M8:=HM8.out
     obtain⟨hb8,t80,_,_,t83,_,_⟩:=M8
     have k1:w8.cell? ⟨w.heap.size+1+1+1,1,none⟩=some (.bool oe):=by rw[Lib.cell_of_heap t83];rfl
     have kz:=Lib.frozen_of_heap t83 1
     have k2:w8.cell? ⟨w.heap.size,2,none⟩=some (.slice (some ⟨ub,uo,none⟩) nU uc):=by rw[Lib.cell_of_heap t80];rfl
     have k3:=(hb8.cell (p:=⟨ub,uo+r,none⟩) hub).trans u0
     clear hb8 t80 t83
     cases oe with
     | true=>
      have HF:=hid (HM8.out.setOut true)
      go_wp2_with fail
      go_meet
      exact⟨rfl,rfl,hid HF.out⟩
     | false=>
      by_cases he:(a:Int)=sp
      ·have hd:((a:Int)==sp)=true:=by rw[beq_iff_eq];exact he
       have HF:=hid (HM8.out.setOut true)
       have HD:=hid (show decide ((a:Int)=sp)=true from decide_eq_true he)
       clear he
       go_wp2_with fail
       go_meet
       exact⟨rfl,rfl,hid (by rw[HD.out];exact HF.out)⟩
      ·have hd:((a:Int)==sp)=false:=by rw[beq_eq_false_iff_ne];exact he
       have HF:=hid (HM8.out.setOut false)
       have HD:=hid (show decide ((a:Int)=sp)=false from decide_eq_false he)
       clear he
       go_wp2_with fail
       go_meet
       exact⟨rfl,rfl,hid (by rw[HD.out];exact HF.out)⟩
    case rest=>
     obtain⟨rfl,rfl,HM9⟩:=hcut
     clear HM8
     have hstA:=H.out.sts
     obtain⟨xb,xo,EA,ec,XA,xc,hSA,hxb,e0,e1,e2,r0,r1⟩:=hstA.at (show a<n.states.length by rw[HNS.out];exact hal)
     subst hSA
     have hed:Drv.edgesAt n (a:Int)=n.states[a].edges:=Drv.edgesAt_mem (by rw[HNS.out];exact hal)
     have hsz:=HS.out.st n.states[a] (List.getElem_mem _)
     have hme:∀e∈n.states[a].edges,_:=fun e he=>Drv.may_edge HM.out (List.getElem_mem _) he
     have hWN:=HWW.out.new (dn':=Drv.dnAt n a 0) (fun hv=>by have:=hv.2;rw[Int.toNat_natCast,hbv]at this;cases this) (fun t ht=>Drv.dnAt_ne n 0 ht) (Drv.dnAt_zero n a)
     have htd:=Drv.todo_set n.states vs a (by rw[HNS.out];exact hal) hbv
     generalize n.states[a]=sx at e0 e1 e2 r0 r1 hed hsz hme htd
     obtain⟨nE,hnE⟩:∃m,sx.edges.length=m:=⟨_,rfl⟩
     rw[hnE]at e1 r0
     have e1:=(HM9.out.1.cell (p:=⟨xb,xo+a*3+1,none⟩) hxb).trans e1
     have hsz1:=hsz.1
     rw[hnE]at hsz1
     rw[hspv]at hWN
     generalize (oe || decide ((a:Int)=sp))=oe9 at hWN HM9
     rw[hnE]at htd
     have HTD:=hid htd
     have HNE:=hid hnE
     have HED:=hid hed
     have HME:=hid hme
     have R0:=hid r0
     have HW0:=hid hWN
     have t90:=HM9.out.2.1
     have k0:wc.cell? ⟨w.heap.size,0,none⟩=some (.slice (some ⟨xb,xo,none⟩) nS sc):=by rw[Lib.cell_of_heap t90];rfl
     clear htd hstA e0 e2 r0 r1 hed hsz hme hnE hWN t90
     go_wp2_with fail
     go_loopw[9,64] (fun v i wr=>∃j:Nat,j≤nE∧i= .int .i64 j∧Hid (∃gq nx os,RchM w #[.slice (some ⟨xb,xo,none⟩) nS sc,.slice (some ⟨tb,to',none⟩) nU tc,.slice (some ⟨ub,uo,none⟩) nU uc,.slice QA nQ qc,.slice DA nD dc] n.starts.length wr v gq nx (vs.set a true) os oe9∧Drv.WI n (Drv.toK kn) r (Drv.dnAt n a j) (vs.set a true) nx oe9 os∧nx.length≤ln+j)) (fun _ i _=>nE-(intOf i).toNat)
     case atStart=>exact⟨0,by omega,rfl,hid ⟨gq,nx,os,HM9.out,HW0.out,by rw[HLN.out];omega⟩⟩
     case round=>
      obtain⟨j,hj,rfl,hJ⟩:=hrel
      obtain⟨gj,nj,oj,hMj,hWj,hlj⟩:=hJ.out
      clear HM9 HW0 k0 e1
      by_cases hlt:j<nE
      ·have hje:j<sx.edges.length:=by rw[HNE.out];exact hlt
       obtain⟨eb,eo,rfl,heb,f0,f1,f2⟩:=Reads.getE ((R0out_len HNE.out R0.out).below hMj.1) hje
       have hex:(Drv.edgesAt n (a:Int))[j]? =some sx.edges[j]:=by rw[HED.out,List.getElem?_eq_getElem hje]
       have hwf:=HME.out _ (List.getElem_mem hje)
       have hds:=Drv.dnAt_succ n (a:Int) hex
       have hmem:sx.edges[j]∈Drv.edgesAt n (a:Int):=by rw[HED.out];exact List.getElem_mem hje
       have hva:Drv.vis (vs.set a true) (a:Int):=⟨by omega,by rw[Int.toNat_natCast,List.getElem?_set_self (by have:=HWW.out.vlen;rw[HNS.out]at this;omega)]⟩
       generalize sx.edges[j]=ex at f0 f1 f2 hex hwf hds hmem
       obtain⟨ek,ew,et⟩:=ex
       simp only at f0 f1 f2 hwf
       obtain⟨⟨w1a,w1b⟩,w2a,w2b,w3a,w4a⟩:=hwf
       have HMJ:=hid hMj
       have HWJ:=hid hWj
       have HDS:=hid hds
       have HMEM:=hid hmem
       have HVA:=hid hva
       have HLJ:=hid hlj
       clear hMj hWj hJ hex hds hmem hva hlj hbv
       have NEXT:=hid (fun(nx':List Int) (os':List Bool) (h1:(Drv.pas (Drv.toK kn) ⟨ek,ew,et⟩∧nx'=nj++ [et])∨(¬Drv.pas (Drv.toK kn) ⟨ek,ew,et⟩∧nx'=nj)) (h2:os'.length=oj.length)
        (h3:∀q:Nat,q<n.starts.length→(os'[q]? =some true↔(oj[q]? =some true∨(ek=2∧(ew=q∨(Drv.toK kn).rul ew q=true)))))=>(show Drv.WI n (Drv.toK kn) r (Drv.dnAt n a (j+1)) (vs.set a true) nx' oe9 os' from
        HWJ.out.edge HVA.out HMEM.out (fun t ht=>by rw[Drv.dnAt_ne n _ ht,Drv.dnAt_ne n _ ht]) HDS.out ⟨w1a,w1b⟩ h1 h2 h3))
       by_cases hk1:ek=1
       ·subst hk1
        have HF:=hid (NEXT.out nj oj (.inr ⟨fun hp=>hp.1 rfl,rfl⟩) rfl (fun q _=>⟨fun h=>.inl h,fun h=>h.elim id fun h=>by cases h.1⟩))
        have HMA:=hid (fun o=>HMJ.out.still (Only.of_below (below_new wr o)))
        go_wp2_with fail
        go_roundw
        case rel=>exact⟨j+1,by omega,by go_num,hid ⟨gj,nj,oj,HMA.out _,HF.out,by have:=HLJ.out;omega⟩⟩
        case measure=>simp[intOf];omega
       ·have g1:(ek==1)=false:=by rw[beq_eq_false_iff_ne];exact hk1
        by_cases hk2:ek=2
        ·subst hk2
         have hwl:=w4a rfl
         obtain⟨en,rfl⟩:∃en:Nat,ew=en:=⟨ew.toNat,by omega⟩
         have hen:en<nU:=by rw[HNT.out]at hwl;omega
         have henI:(en:Int)<(nU:Int):=by omega
         have hol:=HWJ.out.olen
         rw[HNT.out]at hol
         obtain⟨hkl,vsK,hkr,hkv⟩:=HK.out
         rw[HNT.out]at hkl hkr hkv
         obtain⟨hks0,Ai,ci,v0,v1,rK⟩:=hkv en (by omega)
         obtain⟨kb,ko,hKA,hkb,hkc⟩:=hkr.2 (by omega)
         have c0:=hkc _ _ v0
         have c1:=hkc _ _ v1
         rw[←Nat.add_assoc]at c1
         have hkn:kn[en]? =some (kn[en].1,kn[en].2):=List.getElem?_eq_getElem (by omega)
         generalize kn[en].1=ks at hks0 v0 rK c0 hkn
         generalize kn[en].2=kb2 at v1 c1 hkn
         obtain⟨kl,hksl⟩:∃m,ks.length=m:=⟨_,rfl⟩
         rw[hksl]at c0 hks0 rK
         have HKN:=hid hkn
         have HKL:=hid hkl
         have HKS:=hid hks0
         have HKSL:=hid hksl
         have RK:=hid rK
         have C0:=hid c0
         have C1:=hid c1
         subst hKA
         clear hkn hkl hks0 hksl rK v0 v1 hkr hkv hkc c0 c1
         have HMA:=hid (fun o=>HMJ.out.still (Only.of_below (below_new wr o)))
         have hgr:∀o:Obj,(wr.alloc o).cell? ⟨w.heap.size+1+1+1,0,none⟩=some (.slice (some ⟨w.heap.size+1+1,0,none⟩) nU nU):=fun o=>by
          have h9:=(HMA.out o).2.2.2.2.1
          rw[Lib.cell_of_heap h9,HNT.out];rfl
         have hgz:∀o:Obj,(wr.alloc o).frozen? ⟨w.heap.size+1+1,en,none⟩=false:=fun o=>Lib.frozen_of_heap (HMA.out o).2.2.2.1 en
         obtain⟨bq,hbq⟩:∃bq,oj[en]? =some bq:=⟨oj[en]'(by omega),List.getElem?_eq_getElem (by omega)⟩
         have hgc:∀o:Obj,(wr.alloc o).cell? ⟨w.heap.size+1+1,en,none⟩=some (.bool bq):=fun o=>by
          rw[Lib.cell_of_heap (HMA.out o).2.2.2.1,List.getElem?_toArray,List.getElem?_map,hbq];rfl
         clear hbq
         go_upto_region 17 with fail
         have T12:(wr.alloc (.cells #[.int .u8 2,.int .i64 (en:Int),.int .i64 et] 60)).heap[wr.heap.size]? =some (.cells #[.int .u8 2,.int .i64 (en:Int),.int .i64 et] 60 (0,0)):=heap_alloc_new _ _
         have hMb:=(HMA.out (.cells #[.int .u8 2,.int .i64 (en:Int),.int .i64 et] 60)).setRule en true
         have hszr:=heap_lt HMJ.out.2.2.2.1
         have T12b:((wr.alloc (.cells #[.int .u8 2,.int .i64 (en:Int),.int .i64 et] 60)).setCell ⟨w.heap.size+1+1,en,none⟩ (.bool true)).heap[wr.heap.size]? =some (.cells #[.int .u8 2,.int .i64 (en:Int),.int .i64 et] 60 (0,0)):=
          ((Only.of_set _ (w.heap.size+1+1) en (.bool true)).block _ (heap_lt T12) (by omega)).trans T12
         clear T12 hgr hgz hgc
         have hg12:w.heap.size+1+1<wr.heap.size:=hszr
         generalize (wr.alloc (.cells #[.int .u8 2,.int .i64 (en:Int),.int .i64 et] 60)).setCell ⟨w.heap.size+1+1,en,none⟩ (.bool true)=wb at hMb T12b⊢
         have hltr:=heap_lt HMJ.out.2.2.2.2.2.1
         generalize hg12e:wr.heap.size=g12 at T12b hg12 hltr⊢
         have x1:wb.cell? ⟨g12,1,none⟩=some (.int .i64 (en:Int)):=by rw[Lib.cell_of_heap T12b];rfl
         have c0:=(hMb.1.cell (p:=⟨kb,ko+en*2,none⟩) hkb).trans C0.out
         have HMB2:=hid hMb
         have HT12:=hid T12b
         clear hMb T12b HMA hszr
         go_wp2_with fail
         go_loopw[86] (fun i wx=>∃q:Nat,q≤kl∧i= .int .i64 q∧Hid (RchM w #[.slice (some ⟨xb,xo,none⟩) nS sc,.slice (some ⟨tb,to',none⟩) nU tc,.slice (some ⟨ub,uo,none⟩) nU uc,.slice QA nQ qc,.slice DA nD dc] n.starts.length wx u9 gj nj (vs.set a true) (Drv.orTo (oj.set en true) ks q) oe9∧wx.heap[g12]? =some (.cells #[.int .u8 2,.int .i64 (en:Int),.int .i64 et] 60 (0,0)))) (fun i _=>kl-(intOf i).toNat)
         case atStart=>exact⟨0,by omega,rfl,hid ⟨HMB2.out,HT12.out⟩⟩
         case round=>
          rename World=>w3
          clear x1 c0 HMB2 HT12
          obtain⟨q,hq,rfl,hL⟩:=hrel
          by_cases hlq:q<kl
          ·obtain⟨hMl,hT12⟩:=hL.out
           have hqU:q<nU:=by have:=HKS.out;omega
           have hqUI:(q:Int)<(nU:Int):=by omega
           have hqkI:(q:Int)<(kl:Int):=by omega
           have holn:(Drv.orTo (oj.set en true) ks q).length=nU:=by rw[Drv.orTo_len,List.length_set];exact hol
           obtain⟨bo,hbo⟩:∃b,(Drv.orTo (oj.set en true) ks q)[q]? =some b:=⟨_,List.getElem?_eq_getElem (by omega)⟩
           obtain⟨bk,hbk⟩:∃b,ks[q]? =some b:=⟨_,List.getElem?_eq_getElem (by have:=HKSL.out;omega)⟩
           obtain⟨ab,ao,hAi,hab,hac⟩:=RK.out.2 (by omega)
           have x3:=(hMl.1.cell (p:=⟨ab,ao+q,none⟩) hab).trans (hac q (.bool bk) (by rw[List.getElem?_map,hbk];rfl))
           subst hAi
           have k1:w3.cell? ⟨w.heap.size+1+1+1,0,none⟩=some (.slice (some ⟨w.heap.size+1+1,0,none⟩) nU nU):=by rw[Lib.cell_of_heap hMl.2.2.2.2.1,HNT.out];rfl
           have k2:w3.cell? ⟨w.heap.size+1+1,q,none⟩=some (.bool bo):=by rw[Lib.cell_of_heap hMl.2.2.2.1,List.getElem?_toArray,List.getElem?_map,hbo];rfl
           have kz:w3.frozen? ⟨w.heap.size+1+1,q,none⟩=false:=Lib.frozen_of_heap hMl.2.2.2.1 q
           have HML:=hid hMl
           have HT:=hid hT12
           have HBO:=hid hbo
           have HBK:=hid hbk
           clear hL hMl hT12 hbo hbk hac
           go_upto_region 20 with fail
           have hlx:=heap_lt HML.out.2.2.2.1
           have hlx3:=heap_lt HML.out.2.2.2.2.1
           refine wp_region_last (l:=12) (S:=(fun w'=>w'.cell? ⟨w.heap.size+1+1+1,0,none⟩=some (.slice (some ⟨w.heap.size+1+1,0,none⟩) nU nU)∧w'.cell? ⟨w.heap.size+1+1,q,none⟩=some (.bool bo))) (by kernel_rfl) ⟨k1,k2⟩ (fun hHeld=>?_)
           clear k1 k2
           have HMD:=hid (HML.out.still (Only.of_below (show Below w3.heap.size w3 w3.drew from⟨rfl,rfl,rfl,Nat.le_refl _,fun _ _=>rfl⟩)))
           have HTD:Hid (w3.drew.heap[g12]? =some (.cells #[.int .u8 2,.int .i64 (en:Int),.int .i64 et] 60 (0,0))):=HT
           have kzd:w3.drew.frozen? ⟨w.heap.size+1+1,q,none⟩=false:=kz
           clear kz
           generalize w3.drew=wd at hHeld HMD HTD kzd⊢
           refine wpAnyE_take (i:=0) (.pointer (some ⟨w.heap.size+1+1+1,0,none⟩)) rfl (by kernel_rfl) (by kernel_rfl) (by kernel_rfl) (by kernel_rfl) (fun _ _ _ h=>h) hHeld (by rfl) (fun w' hSw=>?_) ?_
           ·obtain⟨k1,k2⟩:=hSw;go_simp
           simp only[Act.put,List.getElem_toArray,List.getElem_cons_zero,List.setIfInBounds_toArray,List.set_cons_zero,List.set_cons_succ]
           refine wpAnyE_take (i:=1) (.slice (some ⟨w.heap.size+1+1,0,none⟩) nU nU) rfl (by kernel_rfl) (by kernel_rfl) (by kernel_rfl) (by kernel_rfl) (fun _ _ _ h=>h) hHeld (by rfl) (fun w' hSw=>?_) ?_
           ·obtain⟨k1,k2⟩:=hSw;go_simp
           simp only[Act.put,List.getElem_toArray,List.getElem_cons_zero,List.getElem_cons_succ,List.setIfInBounds_toArray,List.set_cons_zero,List.set_cons_succ]
           refine wpAnyE_take (i:=2) (.int .i64 q) rfl (by kernel_rfl) (by kernel_rfl) (by kernel_rfl) (by kernel_rfl) (fun _ _ _ h=>h) hHeld (by rfl) (fun w' hSw=>?_) ?_
           ·obtain⟨k1,k2⟩:=hSw;go_simp
           simp only[Act.put,List.getElem_toArray,List.getElem_cons_zero,List.getElem_cons_succ,List.setIfInBounds_toArray,List.set_cons_zero,List.set_cons_succ]
           refine wpAnyE_take (i:=3) (.pointer (some ⟨w.heap.size+1+1+1,0,none⟩)) rfl (by kernel_rfl) (by kernel_rfl) (by kernel_rfl) (by kernel_rfl) (fun _ _ _ h=>h) hHeld (by rfl) (fun w' hSw=>?_) ?_
           ·obtain⟨k1,k2⟩:=hSw;go_simp
           simp only[Act.put,List.getElem_toArray,List.getElem_cons_zero,List.getElem_cons_succ,List.setIfInBounds_toArray,List.set_cons_zero,List.set_cons_succ]
           refine wpAnyE_take (i:=4) (.slice (some ⟨w.heap.size+1+1,0,none⟩) nU nU) rfl (by kernel_rfl) (by kernel_rfl) (by kernel_rfl) (by kernel_rfl) (fun _ _ _ h=>h) hHeld (by rfl) (fun w' hSw=>?_) ?_
           ·obtain⟨k1,k2⟩:=hSw;go_simp
           simp only[Act.put,List.getElem_toArray,List.getElem_cons_zero,List.getElem_cons_succ,List.setIfInBounds_toArray,List.set_cons_zero,List.set_cons_succ]
           refine wpAnyE_take (i:=5) (.int .i64 q) rfl (by kernel_rfl) (by kernel_rfl) (by kernel_rfl) (by kernel_rfl) (fun _ _ _ h=>h) hHeld (by rfl) (fun w' hSw=>?_) ?_
           ·obtain⟨k1,k2⟩:=hSw;go_simp
           simp only[Act.put,List.getElem_toArray,List.getElem_cons_zero,List.getElem_cons_succ,List.setIfInBounds_toArray,List.set_cons_zero,List.set_cons_succ]
           refine wpAnyE_take (i:=6) (.pointer (some ⟨w.heap.size+1+1,q,none⟩)) rfl (by kernel_rfl) (by kernel_rfl) (by kernel_rfl) (by kernel_rfl) (fun _ _ _ h=>h) hHeld (by rfl) (fun w' hSw=>?_) ?_
           ·obtain⟨k1,k2⟩:=hSw;go_simp
           simp only[Act.put,List.getElem_toArray,List.getElem_cons_zero,List.getElem_cons_succ,List.setIfInBounds_toArray,List.set_cons_zero,List.set_cons_succ]
           refine wpAnyE_take (i:=7) (.bool bo) rfl (by kernel_rfl) (by kernel_rfl) (by kernel_rfl) (by kernel_rfl) (fun _ _ _ h=>h) hHeld (by rfl) (fun w' hSw=>?_) ?_
           ·obtain⟨k1,k2⟩:=hSw;go_simp
           simp only[Act.put,List.getElem_toArray,List.getElem_cons_zero,List.getElem_cons_succ,List.setIfInBounds_toArray,List.set_cons_zero,List.set_cons_succ]
           refine wpAnyE_take (i:=8) (.bool bo) rfl (by kernel_rfl) (by kernel_rfl) (by kernel_rfl) (by kernel_rfl) (fun _ _ _ h=>h) hHeld (by rfl) (fun w' hSw=>?_) ?_
           ·obtain⟨k1,k2⟩:=hSw;go_simp
           simp only[Act.put,List.getElem_toArray,List.getElem_cons_zero,List.getElem_cons_succ,List.setIfInBounds_toArray,List.set_cons_zero,List.set_cons_succ]
           cases bo with
           | true=>
            refine wpAnyE_step 9 (by kernel_rfl) rfl (fun K hK=>?_)
            go_simp
            refine hK.out _ _ hHeld (fun _=>?_)
            clear hK K
            try simp only[Act.put,List.getElem_toArray,List.getElem_cons_zero,List.getElem_cons_succ,List.setIfInBounds_toArray,List.set_cons_zero,List.set_cons_succ]
            refine wpAnyE_take (i:=10) (.bool true) rfl (by kernel_rfl) (by kernel_rfl) (by kernel_rfl) (by kernel_rfl) (fun _ _ _ h=>h) hHeld (by rfl) (fun w' hSw=>?_) ?_
            ·obtain⟨k1,k2⟩:=hSw;go_simp
            simp only[Act.put,List.getElem_toArray,List.getElem_cons_zero,List.getElem_cons_succ,List.setIfInBounds_toArray,List.set_cons_zero,List.set_cons_succ]
            refine wpAnyE_take (i:=11) (.pointer (some ⟨w.heap.size+1+1,q,none⟩)) rfl (by kernel_rfl) (by kernel_rfl) (by kernel_rfl) (by kernel_rfl) (fun _ _ _ h=>h) hHeld (by rfl) (fun w' hSw=>?_) ?_
            ·obtain⟨k1,k2⟩:=hSw;go_simp
            simp only[Act.put,List.getElem_toArray,List.getElem_cons_zero,List.getElem_cons_succ,List.setIfInBounds_toArray,List.set_cons_zero,List.set_cons_succ]
            refine wpAnyE_end (by kernel_rfl) rfl (by kernel_rfl) (fun K hK=>?_)
            go_simp
            refine hK.out _ _ ?_
            clear hK K hHeld
            try simp only[Act.put,List.getElem_toArray,List.getElem_cons_zero,List.getElem_cons_succ,List.setIfInBounds_toArray,List.set_cons_zero,List.set_cons_succ]
            have HF:=hid (HMD.out.setRule q true)
            have heq:(Drv.orTo (oj.set en true) ks q).set q true=Drv.orTo (oj.set en true) ks (q+1):=by
             have e1:(Drv.orTo (oj.set en true) ks q).getD q false=true:=by rw[List.getD_eq_getElem?_getD,HBO.out];rfl
             have e2:ks.getD q false=bk:=by rw[List.getD_eq_getElem?_getD,HBK.out];rfl
             rw[show Drv.orTo (oj.set en true) ks (q+1)=(Drv.orTo (oj.set en true) ks q).set q ((Drv.orTo (oj.set en true) ks q).getD q false || ks.getD q false)from rfl,e1,e2]
             rfl
            rw[heq]at HF
            have HT2:=((Only.of_set wd (w.heap.size+1+1) q (.bool true)).block _ (heap_lt HTD.out) (by omega)).trans HTD.out
            clear heq HMD HTD HBO HBK HML HT
            generalize wd.setCell ⟨w.heap.size+1+1,q,none⟩ (.bool true)=w9 at HF HT2⊢
            have HF9:=hid (And.intro HF.out HT2)
            clear HF HT2
            go_wp2_with fail
            go_roundw
            case rel=>exact⟨q+1,by omega,by go_num,HF9⟩
            case measure=>simp[intOf];omega
           | false=>
            refine wpAnyE_take (i:=9) (.bool bk) rfl (by kernel_rfl) (by kernel_rfl) (by kernel_rfl) (by kernel_rfl) (fun _ _ _ h=>h) hHeld (by rfl) (fun w' hSw=>?_) ?_
            ·obtain⟨k1,k2⟩:=hSw;go_simp
            simp only[Act.put,List.getElem_toArray,List.getElem_cons_zero,List.getElem_cons_succ,List.setIfInBounds_toArray,List.set_cons_zero,List.set_cons_succ]
            refine wpAnyE_take (i:=10) (.bool bk) rfl (by kernel_rfl) (by kernel_rfl) (by kernel_rfl) (by kernel_rfl) (fun _ _ _ h=>h) hHeld (by rfl) (fun w' hSw=>?_) ?_
            ·obtain⟨k1,k2⟩:=hSw;go_simp
            simp only[Act.put,List.getElem_toArray,List.getElem_cons_zero,List.getElem_cons_succ,List.setIfInBounds_toArray,List.set_cons_zero,List.set_cons_succ]
            refine wpAnyE_take (i:=11) (.pointer (some ⟨w.heap.size+1+1,q,none⟩)) rfl (by kernel_rfl) (by kernel_rfl) (by kernel_rfl) (by kernel_rfl) (fun _ _ _ h=>h) hHeld (by rfl) (fun w' hSw=>?_) ?_
            ·obtain⟨k1,k2⟩:=hSw;go_simp
            simp only[Act.put,List.getElem_toArray,List.getElem_cons_zero,List.getElem_cons_succ,List.setIfInBounds_toArray,List.set_cons_zero,List.set_cons_succ]
            refine wpAnyE_end (by kernel_rfl) rfl (by kernel_rfl) (fun K hK=>?_)
            go_simp
            refine hK.out _ _ ?_
            clear hK K hHeld
            try simp only[Act.put,List.getElem_toArray,List.getElem_cons_zero,List.getElem_cons_succ,List.setIfInBounds_toArray,List.set_cons_zero,List.set_cons_succ]
            have HF:=hid (HMD.out.setRule q bk)
            have heq:(Drv.orTo (oj.set en true) ks q).set q bk=Drv.orTo (oj.set en true) ks (q+1):=by
             have e1:(Drv.orTo (oj.set en true) ks q).getD q false=false:=by rw[List.getD_eq_getElem?_getD,HBO.out];rfl
             have e2:ks.getD q false=bk:=by rw[List.getD_eq_getElem?_getD,HBK.out];rfl
             rw[show Drv.orTo (oj.set en true) ks (q+1)=(Drv.orTo (oj.set en true) ks q).set q ((Drv.orTo (oj.set en true) ks q).getD q false || ks.getD q false)from rfl,e1,e2]
             rfl
            rw[heq]at HF
            have HT2:=((Only.of_set wd (w.heap.size+1+1) q (.bool bk)).block _ (heap_lt HTD.out) (by omega)).trans HTD.out
            clear heq HMD HTD HBO HBK HML HT
            generalize wd.setCell ⟨w.heap.size+1+1,q,none⟩ (.bool bk)=w9 at HF HT2⊢
            have HF9:=hid (And.intro HF.out HT2)
            clear HF HT2
            go_wp2_with fail
            go_roundw
            case rel=>exact⟨q+1,by omega,by go_num,HF9⟩
            case measure=>simp[intOf];omega
          ·have hqk:q=kl:=by omega
           subst hqk
           obtain⟨hMl,hT12⟩:=hL.out
           have x1:w3.cell? ⟨g12,1,none⟩=some (.int .i64 (en:Int)):=by rw[Lib.cell_of_heap hT12];rfl
           have x2:w3.cell? ⟨g12,2,none⟩=some (.int .i64 et):=by rw[Lib.cell_of_heap hT12];rfl
           have c1:=(hMl.1.cell (p:=⟨kb,ko+en*2+1,none⟩) hkb).trans C1.out
           have hemp:(Drv.toK kn).emp (en:Int)=kb2:=by
            unfold Drv.toK
            simp only[Int.toNat_natCast]
            rw[show kn.getD en ([],false)=(ks,kb2) by rw[List.getD_eq_getElem?_getD,HKN.out];rfl]
            simp
           have hor:∀t:Nat,t<n.starts.length→((Drv.orTo (oj.set en true) ks q)[t]? =some true↔(oj[t]? =some true∨((2:Int)=2∧((en:Int)=t∨(Drv.toK kn).rul en t=true)))):=fun t ht=>by
            have h9:=Drv.orTo_rule (b:=kb2) hol hen HKL.out HKN.out (by rw[HKSL.out];exact HKS.out) t (by rw[←HNT.out];exact ht)
            rw[HKSL.out]at h9
            rw[h9]
            simp
           have holn:(Drv.orTo (oj.set en true) ks q).length=oj.length:=by rw[Drv.orTo_len,List.length_set]
           have HML:=hid hMl
           have hqa:=hMl.2.2.2.2.2.2
           have HEMP:=hid hemp
           have HOR:=hid hor
           have HOLN:=hid holn
           clear hL hMl hT12 hemp hor holn
           cases kb2 with
           | false=>
            have HF:=hid (NEXT.out nj (Drv.orTo (oj.set en true) ks q) (.inr ⟨fun hp=>(by have h9:=hp.2 rfl;rw[HEMP.out]at h9;cases h9),rfl⟩) HOLN.out (fun t ht=>by have h9:=HOR.out t ht;simp only[true_and]at h9⊢;exact h9))
            clear hqa
            go_wp2_with fail
            go_roundw
            case rel=>exact⟨j+1,by omega,by go_num,hid ⟨gj,nj,_,HML.out,HF.out,by have:=HLJ.out;omega⟩⟩
            case measure=>simp[intOf];omega
           | true=>
            have HF:=hid (NEXT.out (nj++ [et]) (Drv.orTo (oj.set en true) ks q) (.inl ⟨⟨(by show(2:Int)≠1;decide),fun _=>HEMP.out⟩,rfl⟩) HOLN.out (fun t ht=>by have h9:=HOR.out t ht;simp only[true_and]at h9⊢;exact h9))
            obtain⟨i0,hi,hz0,hz1,hz2⟩:=info_of infoZ
            have hnl2:(nj.map (Value.int .i64)).length+1≤maxLen:=by rw[List.length_map];simp only[maxLen];have:=HLJ.out;omega
            have hnl3:((nj.map (Value.int .i64)).length+1)*8≤140737488355328:=by rw[List.length_map];have:=HLJ.out;omega
            go_wp2_with (at_builtin;go_must (refine wpList_pushQ w3 rfl _ _ 23 rfl w.heap.size 3 i0 _ 8 Try.underlying23 hi hz0 hz1 hz2 rfl u9 gj (nj.map (Value.int .i64)) rfl hqa (.int .i64 et) _ rfl rfl rfl hnl2 hnl3 ?_);intro v' g' w' hq' hg' ho')
            go_roundw
            case rel=>exact⟨j+1,by omega,by go_num,hid ⟨g',nj++ [et],_,HML.out.push (by rw[List.map_append];exact hq') ho',HF.out,by rw[List.length_append,List.length_singleton];have:=HLJ.out;omega⟩⟩
            case measure=>simp[intOf];omega
        ·have g2:(ek==2)=false:=by rw[beq_eq_false_iff_ne];exact hk2
         have HF:=hid (NEXT.out (nj++ [et]) oj (.inl ⟨⟨hk1,fun e=>absurd e hk2⟩,rfl⟩) rfl (fun q _=>⟨fun h=>.inl h,fun h=>h.elim id fun h=>absurd h.1 hk2⟩))
         have HMA:=hid (fun o=>HMJ.out.still (Only.of_below (below_new wr o)))
         obtain⟨i0,hi,hz0,hz1,hz2⟩:=info_of infoZ
         have hnl:nj.length≤2000001000000:=by have:=HLJ.out;omega
         have HQA:=hid (fun o=>(HMA.out o).2.2.2.2.2.2)
         have hwz:∀o:Obj,(wr.alloc o).heap.size=wr.heap.size+1:=fun o=>by simp
         clear hnl
         go_upto_region 23 with fail
         have hnl:nj.length≤2000001000000:=by have:=HLJ.out;omega
         have hMa:=HMA.out (.cells #[.int .u8 ek,.int .i64 ew,.int .i64 et] 60)
         have T12:(wr.alloc (.cells #[.int .u8 ek,.int .i64 ew,.int .i64 et] 60)).heap[wr.heap.size]? =some (.cells #[.int .u8 ek,.int .i64 ew,.int .i64 et] 60 (0,0)):=heap_alloc_new _ _
         clear hwz
         generalize wr.alloc (.cells #[.int .u8 ek,.int .i64 ew,.int .i64 et] 60)=wa at hMa T12⊢
         generalize wr.heap.size=g12 at T12⊢
         have x2:wa.cell? ⟨g12,2,none⟩=some (.int .i64 et):=by rw[Lib.cell_of_heap T12];rfl
         have hqa:=hMa.2.2.2.2.2.2
         have HMW:=hid hMa
         have hnl2:(nj.map (Value.int .i64)).length+1≤maxLen:=by rw[List.length_map];simp only[maxLen];omega
         have hnl3:((nj.map (Value.int .i64)).length+1)*8≤140737488355328:=by rw[List.length_map];omega
         clear hMa T12 HMA HQA hnl
         go_wp2_with (at_builtin;go_must (refine wpList_pushQ wa rfl _ _ 23 rfl w.heap.size 3 i0 _ 8 Try.underlying23 hi hz0 hz1 hz2 rfl u9 gj (nj.map (Value.int .i64)) rfl hqa (.int .i64 et) _ rfl rfl rfl hnl2 hnl3 ?_);intro v' g' w' hq' hg' ho')
         go_roundw
         case rel=>exact⟨j+1,by omega,by go_num,hid ⟨g',nj++ [et],oj,HMW.out.push (by rw[List.map_append];exact hq') ho',HF.out,by rw[List.length_append,List.length_singleton];have:=HLJ.out;omega⟩⟩
         case measure=>simp[intOf];omega
      ·have hjn:j=nE:=by omega
       subst hjn
       have hdn:=Drv.dnAt_all n (a:Int) (j:=j) (by rw[HED.out,HNE.out];exact Nat.le_refl _)
       have hWf:Drv.WI n (Drv.toK kn) r (Drv.edgesAt n) (vs.set a true) nj oe9 oj:=by
        rw[show Drv.edgesAt n=Drv.dnAt n a j from funext fun t=>(hdn t).symm]
        exact hWj
       have h1:=HTD.out
       have h2:=HMM.out
       have h3:=HMB.out
       rw[List.length_cons,HLN.out]at h2 h3
       have HFIN:Hid (RchI w #[.slice (some ⟨xb,xo,none⟩) nS sc,.slice (some ⟨tb,to',none⟩) nU tc,.slice (some ⟨ub,uo,none⟩) nU uc,.slice QA nQ qc,.slice DA nD dc] n kn r (nj.length+Drv.todo1 n.states (vs.set a true)) u9 wr):=
        hid ⟨gj,nj,vs.set a true,oj,oe9,hMj,hWf,Nat.le_refl _,by omega⟩
       have hlt9:nj.length+Drv.todo1 n.states (vs.set a true)<gk:=by omega
       clear hMj hWj hJ hWf h1 h2 h3 hdn hbv
       go_wp2_with fail
       go_roundg (nj.length+Drv.todo1 n.states (vs.set a true))
       case measure=>exact hlt9
       case rel=>exact HFIN
end Go.Proofs.Ytgflanlniejflaa
