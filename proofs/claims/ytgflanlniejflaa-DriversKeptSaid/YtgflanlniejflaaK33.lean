/-
  Drivers: a net in new memory: the walk.
-/
import Derived.Test.YtgflanlniejflaaK32
namespace Go.Proofs.Ytgflanlniejflaa
open Go.RowKit
set_option maxRecDepth 100000
def StVO (w:World) (S:Nat→Prop) (vs:List Value) (i:Nat) (s:Drv.NSt):Prop:=
 ∃EA ec XA xc,vs[i*3]? =some (.int .i64 s.rule)∧vs[i*3+1]? =some (.slice EA s.edges.length ec)∧vs[i*3+2]? =some (.slice XA s.ends.length xc)∧RO w S 3 EA s.edges.length (flat encEd s.edges)∧RO w S 1 XA s.ends.length (s.ends.map (Value.int .i64))
theorem StVO.only {w w':World}{S S':Nat→Prop}{vs:List Value}{i:Nat}{s:Drv.NSt}(h:StVO w S vs i s) (ho:Only S w w') (hS:∀b,b<w.heap.size→S' b→S b) (vs':List Value):StVO w' S' (vs++vs') i s:=by
 obtain⟨AA,ac,EA,ec,e0,e1,e2,r0,r1⟩:=h
 have hl:∀{j:Nat}{v:Value},vs[j]? =some v→(vs++vs')[j]? =some v:=fun {j v} h=>by
  rw[List.getElem?_append_left (List.getElem?_eq_some_iff.1 h).1];exact h
 exact⟨AA,ac,EA,ec,hl e0,hl e1,hl e2,r0.only ho hS,r1.only ho hS⟩
theorem infoAS:(Try.prog.info? 47).map (fun i=>(i.zero,i.size,i.bytes))=some (some (.agg #[.int .i64 0,.slice none 0 0,.slice none 0 0]),3,56):=by kernel_rfl
theorem infoNetP:(Try.prog.info? 25).map (·.size)=some 5:=by kernel_rfl
theorem cellsEd (l:List Drv.Ed):∀u∈flat encEd l,u.oneCell'=true:=by
 intro u hu
 unfold flat at hu
 obtain⟨x,_,hx⟩:=List.mem_flatMap.1 hu
 simp only[encEd,List.mem_cons,List.mem_nil_iff,or_false]at hx
 rcases hx with rfl | rfl | rfl <;> rfl
def NT (base b3:Nat) (v:Value) (j:Nat):Prop:=j<base+2∨j=b3∨v.ownBlock=some j
def zeroNet:Array Value:=#[.slice none 0 0,.slice none 0 0,.slice none 0 0,.slice none 0 0,.slice none 0 0]
def NofI (w:World) (X:Array Value) (n:Drv.NNet) (b3 k:Nat) (wr:World):Prop:=
 Below w.heap.size w wr∧w.heap.size+1<b3∧wr.heap[w.heap.size]? =some (.cells X 25 (0,0))∧wr.heap[w.heap.size+1]? =some (.cells zeroNet 25 (0,0))∧∃v vs TA tc UA uc QA qc DA dc,
  wr.heap[b3]? =some (.cells #[v,.slice TA n.starts.length tc,.slice UA n.stops.length uc,.slice QA n.preds.length qc,.slice DA n.decs.length dc] 25 (0,0))∧wr.ownsRow w.heap.size 47 3 v k vs∧
  (∀i (h:i<n.states.length),i<k→StVO wr (NT w.heap.size b3 v) vs i n.states[i])∧
  RO wr (NT w.heap.size b3 v) 1 TA n.starts.length (n.starts.map (Value.int .i64))∧RO wr (NT w.heap.size b3 v) 1 UA n.stops.length (n.stops.map (Value.int .i64))∧RO wr (NT w.heap.size b3 v) 1 QA n.preds.length (n.preds.map (Value.int .i64))∧RO wr (NT w.heap.size b3 v) 1 DA n.decs.length (n.decs.map (Value.int .i64))
theorem cells5n {w:World}{b:Nat}{T:TypeId}(h:w.heap[b]? =some (.cells #[.slice none 0 0,.slice none 0 0,.slice none 0 0,.slice none 0 0,.slice none 0 0] T (0,0))):
 w.cell? ⟨b,0,none⟩=some (.slice none 0 0)∧w.cell? ⟨b,1,none⟩=some (.slice none 0 0)∧w.cell? ⟨b,2,none⟩=some (.slice none 0 0)∧w.cell? ⟨b,3,none⟩=some (.slice none 0 0)∧w.cell? ⟨b,4,none⟩=some (.slice none 0 0)∧∀i,w.frozen? ⟨b,i,none⟩=false:=
 ⟨by rw[Lib.cell_of_heap h];rfl,by rw[Lib.cell_of_heap h];rfl,by rw[Lib.cell_of_heap h];rfl,by rw[Lib.cell_of_heap h];rfl,by rw[Lib.cell_of_heap h];rfl,fun i=>Lib.frozen_of_heap h i⟩
theorem nof_start {w w2 wu:World}{X:Array Value}{n:Drv.NNet}{nT nU nQ nD b3 t1 u1 q1 d1:Nat}{T1 U1 Q1 D1:Option Addr}(hb2:Below w.heap.size w w2) (hl2:w.heap.size+1<w2.heap.size) (hlen:n.starts.length=nT∧n.stops.length=nU∧n.preds.length=nQ∧n.decs.length=nD)
 (t1h:w2.heap[w.heap.size]? =some (.cells X 25 (0,0))) (t2:w2.heap[w.heap.size+1]? =some (.cells zeroNet 25 (0,0))) (hL:Below w2.heap.size w2 wu) (t3:wu.heap[b3]? =some (.cells #[.slice none 0 0,.slice none 0 0,.slice none 0 0,.slice none 0 0,.slice none 0 0] 25 (0,0))) (_:b3<wu.heap.size) (hg3:w2.heap.size≤b3)
 (rT:RO wu (fun j=>j<w2.heap.size∨j=b3) 1 T1 nT (n.starts.map (Value.int .i64))) (rU:RO wu (fun j=>j<w2.heap.size∨j=b3) 1 U1 nU (n.stops.map (Value.int .i64))) (rQ:RO wu (fun j=>j<w2.heap.size∨j=b3) 1 Q1 nQ (n.preds.map (Value.int .i64))) (rD:RO wu (fun j=>j<w2.heap.size∨j=b3) 1 D1 nD (n.decs.map (Value.int .i64))):
 NofI w X n b3 0 (((((wu.setCell ⟨b3,0,none⟩ (.slice none 0 0)).setCell ⟨b3,1,none⟩ (.slice T1 nT t1)).setCell ⟨b3,2,none⟩ (.slice U1 nU u1)).setCell ⟨b3,3,none⟩ (.slice Q1 nQ q1)).setCell ⟨b3,4,none⟩ (.slice D1 nD d1)):=by
 obtain⟨g3,o3⟩:=set_five t3 (.slice none 0 0) (.slice T1 nT t1) (.slice U1 nU u1) (.slice Q1 nQ q1) (.slice D1 nD d1)
 obtain⟨e1,e2,e3,e4⟩:=hlen
 have hbu:Below w.heap.size w wu:=hb2.trans (hL.mono hb2.size)
 have hS:∀b,b<wu.heap.size→NT w.heap.size b3 (.slice none 0 0) b→(b<w2.heap.size∨b=b3):=fun b _ e=>by
  rcases e with e | e | e
  ·exact .inl (by omega)
  ·exact .inr e
  ·cases e
 have ho:=o3.more (S':=fun j=>j<w2.heap.size∨j=b3) fun _ _ e=>.inr e
 rw[←e1]at rT g3
 rw[←e2]at rU g3
 rw[←e3]at rQ g3
 rw[←e4]at rD g3
 rw[←e1,←e2,←e3,←e4]at ho o3⊢
 refine⟨o3.below (fun j e=>by rw[e];omega) hbu hbu.size,by omega,?_,?_,_,[],_,_,_,_,_,_,_,_,g3,World.ownsRow_nil _ _ _ _,fun _ _ h=>absurd h (Nat.not_lt_zero _),rT.only ho hS,rU.only ho hS,rQ.only ho hS,rD.only ho hS⟩
 ·rw[o3.block _ (Nat.lt_of_lt_of_le (by omega) hL.size) (by omega),hL.block _ (by omega)]
  exact t1h
 ·rw[o3.block _ (Nat.lt_of_lt_of_le hl2 hL.size) (by omega),hL.block _ hl2]
  exact t2
theorem nof_push {w w6 wn:World}{X:Array Value}{n:Drv.NNet}{b3 k vc gn cn nA nE t1 u1 q1 d1:Nat}{VA A1 A2 T1 U1 Q1 D1:Option Addr}{c1 c2:Nat}{x:Drv.NSt}{vs:List Value}(hb:Below w.heap.size w w6) (hb3:w.heap.size+1<b3) (h1:w6.heap[w.heap.size]? =some (.cells X 25 (0,0))) (h2:w6.heap[w.heap.size+1]? =some (.cells zeroNet 25 (0,0)))
 (hO6:w6.ownsRow w.heap.size 47 3 (.slice VA k vc) k vs) (t3:w6.heap[b3]? =some (.cells #[.slice VA k vc,.slice T1 n.starts.length t1,.slice U1 n.stops.length u1,.slice Q1 n.preds.length q1,.slice D1 n.decs.length d1] 25 (0,0)))
 (rT:RO w6 (NT w.heap.size b3 (.slice VA k vc)) 1 T1 n.starts.length (n.starts.map (Value.int .i64))) (rU:RO w6 (NT w.heap.size b3 (.slice VA k vc)) 1 U1 n.stops.length (n.stops.map (Value.int .i64))) (rQ:RO w6 (NT w.heap.size b3 (.slice VA k vc)) 1 Q1 n.preds.length (n.preds.map (Value.int .i64))) (rD:RO w6 (NT w.heap.size b3 (.slice VA k vc)) 1 D1 n.decs.length (n.decs.map (Value.int .i64)))
 (rA:RO w6 (NT w.heap.size b3 (.slice VA k vc)) 1 A1 nA (x.ends.map (Value.int .i64))) (rE:RO w6 (NT w.heap.size b3 (.slice VA k vc)) 3 A2 nE (flat encEd x.edges))
 (hown:wn.ownsRow w.heap.size 47 3 (.slice (some ⟨gn,0,none⟩) (k+1) cn) (k+1) (vs++ [.int .i64 x.rule,.slice A2 nE c2,.slice A1 nA c1])) (hgN:(Value.slice VA k vc).ownBlock=some gn∨w6.heap.size<gn) (hoN:Only (fun j=>(Value.slice VA k vc).ownBlock=some j) w6 wn)
 (hst:∀i (h:i<n.states.length),i<k→StVO w6 (NT w.heap.size b3 (.slice VA k vc)) vs i n.states[i]) (hk:k<n.states.length) (hx:n.states[k]=x) (hA:x.ends.length=nA) (hE:x.edges.length=nE):
 NofI w X n b3 (k+1) (wn.setCell ⟨b3,0,none⟩ (.slice (some ⟨gn,0,none⟩) (k+1) cn)):=by
 have hne:∀{c:Nat}{cs:Array Value},w6.heap[c]? =some (.cells cs 25 (0,0))→(Value.slice VA k vc).ownBlock≠some c:=fun h=>row_not hO6 h (by decide)
 have t3n:=(hoN.block b3 (heap_lt t3) (hne t3)).trans t3
 have h1n:=(hoN.block _ (heap_lt h1) (hne h1)).trans h1
 have h2n:=(hoN.block _ (heap_lt h2) (hne h2)).trans h2
 have hset:=Only.of_set wn b3 0 (.slice (some ⟨gn,0,none⟩) (k+1) cn)
 have hoF:Only (NT w.heap.size b3 (.slice VA k vc)) w6 (wn.setCell ⟨b3,0,none⟩ (.slice (some ⟨gn,0,none⟩) (k+1) cn)):=
  (hoN.more fun _ _ e=>.inr (.inr e)).trans hset fun _ _ e=>.inr (.inl e)
 have hoB:Only (fun j=>j=b3∨(Value.slice VA k vc).ownBlock=some j) w6 (wn.setCell ⟨b3,0,none⟩ (.slice (some ⟨gn,0,none⟩) (k+1) cn)):=
  (hoN.more fun _ _ e=>.inr e).trans hset fun _ _ e=>.inl e
 have hS:∀b,b<w6.heap.size→NT w.heap.size b3 (.slice (some ⟨gn,0,none⟩) (k+1) cn) b→NT w.heap.size b3 (.slice VA k vc) b:=fun b hbl e=>by
  rcases e with e | e | e
  ·exact .inl e
  ·exact .inr (.inl e)
  ·have e:some gn=some b:=e
   injection e with e
   subst e
   rcases hgN with h | h
   ·exact .inr (.inr h)
   ·omega
 refine⟨hoB.below (fun j e=>?_) hb hb.size,hb3,(hset.block _ (heap_lt h1n) (by omega)).trans h1n,(hset.block _ (heap_lt h2n) (by omega)).trans h2n,.slice (some ⟨gn,0,none⟩) (k+1) cn,vs++ [.int .i64 x.rule,.slice A2 nE c2,.slice A1 nA c1],T1,t1,U1,u1,Q1,q1,D1,d1,heap_setCell_same wn b3 0 _ _ _ t3n,own_setTb hown t3n (by decide),fun i hi hik=>?_,rT.only hoF hS,rU.only hoF hS,rQ.only hoF hS,rD.only hoF hS⟩
 ·rcases e with e | e
  ·omega
  ·exact(World.ownsRow.lt hO6 j e).1
 ·rcases Nat.lt_succ_iff_lt_or_eq.1 hik with h | rfl
  ·exact(hst i hi h).only hoF hS _
  ·have hvl:vs.length=i*3:=hO6.1
   rw[hx]
   refine⟨A2,c2,A1,c1,?_,?_,?_,?_,?_⟩
   ·rw[List.getElem?_append_right (by omega),hvl];simp
   ·rw[List.getElem?_append_right (by omega),hvl,hE,show i*3+1-i*3=1 by omega];rfl
   ·rw[List.getElem?_append_right (by omega),hvl,hA,show i*3+2-i*3=2 by omega];rfl
   ·rw[hE];exact rE.only hoF hS
   ·rw[hA];exact rA.only hoF hS
set_option maxHeartbeats 12800000 in
theorem netOf_any (w:World) (n:Drv.NNet) (SA TA UA QA DA:Option Addr) (sc tc uc qc dc:Nat) (h:NetR w w.heap.size SA TA UA QA DA n) (hs:NetS n):
 Calls Try.prog 27 #[netAgg SA TA UA QA DA sc tc uc qc dc n] w fun e w'=>∃SA' TA' UA' QA' DA' sc' tc' uc' qc' dc',e= .returned (netAgg SA' TA' UA' QA' DA' sc' tc' uc' qc' dc' n)∧Below w.heap.size w w'∧∀u,Up w.heap.size w' u→NetR u u.heap.size SA' TA' UA' QA' DA' n:=by
 obtain⟨nS,hnS⟩:∃m,n.states.length=m:=⟨_,rfl⟩
 obtain⟨nT,hnT⟩:∃m,n.starts.length=m:=⟨_,rfl⟩
 obtain⟨nU,hnU⟩:∃m,n.stops.length=m:=⟨_,rfl⟩
 obtain⟨nQ,hnQ⟩:∃m,n.preds.length=m:=⟨_,rfl⟩
 obtain⟨nD,hnD⟩:∃m,n.decs.length=m:=⟨_,rfl⟩
 have H:=hid h
 have HS:=hid hs
 have lS:=hs.states
 have lT:=hs.starts
 have lU:=hs.stops
 have lQ:=hs.preds
 have lD:=hs.decs
 unfold netAgg
 rw[hnS,hnT,hnU,hnQ,hnD]
 rw[hnS]at lS
 rw[hnT]at lT
 rw[hnU]at lU
 rw[hnQ]at lQ
 rw[hnD]at lD
 have HNS:=hid hnS
 have HLOW:=hid (And.intro hnT (And.intro hnU (And.intro hnQ hnD)))
 obtain⟨w1,hw1⟩:∃w1,w1=w.alloc (.cells #[.slice SA nS sc,.slice TA nT tc,.slice UA nU uc,.slice QA nQ qc,.slice DA nD dc] 25):=⟨_,rfl⟩
 obtain⟨w2,hw2⟩:∃w2,w2=w1.alloc (.cells zeroNet 25):=⟨_,rfl⟩
 have HW:=hid (show(w.alloc (.cells #[.slice SA nS sc,.slice TA nT tc,.slice UA nU uc,.slice QA nQ qc,.slice DA nD dc] 25)).alloc (.cells #[.slice none 0 0,.slice none 0 0,.slice none 0 0,.slice none 0 0,.slice none 0 0] 25)=w2 by rw[hw2,hw1];rfl)
 have z1:w1.heap.size=w.heap.size+1:=by rw[hw1];simp
 have b1:Below w.heap.size w w1:=by rw[hw1];exact below_new _ _
 have b2:Below w.heap.size w w2:=by rw[hw2];exact b1.alloc (by omega) _
 have T1h:w2.heap[w.heap.size]? =some (.cells #[.slice SA nS sc,.slice TA nT tc,.slice UA nU uc,.slice QA nQ qc,.slice DA nD dc] 25 (0,0)):=by
  rw[hw2,Below.heap_alloc _ _ _ (by omega),hw1];exact heap_alloc_new _ _
 have T2h:w2.heap[w.heap.size+1]? =some (.cells zeroNet 25 (0,0)):=by
  rw[hw2,←z1];exact heap_alloc_new _ _
 have hb2l:=heap_lt T2h
 have hb1l:=heap_lt T1h
 have p0:w2.cell? ⟨w.heap.size,0,none⟩=some (.slice SA nS sc):=by rw[Lib.cell_of_heap T1h];rfl
 have p1:w2.cell? ⟨w.heap.size,1,none⟩=some (.slice TA nT tc):=by rw[Lib.cell_of_heap T1h];rfl
 have p2:w2.cell? ⟨w.heap.size,2,none⟩=some (.slice UA nU uc):=by rw[Lib.cell_of_heap T1h];rfl
 have p3:w2.cell? ⟨w.heap.size,3,none⟩=some (.slice QA nQ qc):=by rw[Lib.cell_of_heap T1h];rfl
 have p4:w2.cell? ⟨w.heap.size,4,none⟩=some (.slice DA nD dc):=by rw[Lib.cell_of_heap T1h];rfl
 have HB2:=hid b2
 have T2r:=hid T2h
 have T1r:=hid T1h
 have H2:=H.out.below b2
 have CT:=hid (fun(u:World) (hb:Below w2.heap.size w2 u)=>cloneZ_any TA nT tc w.heap.size (n.starts.map (Value.int .i64)) u (by omega) (by have:=H2.starts;rw[hnT]at this;exact this.below (hb.mono b2.size)) (cellsZ n.starts))
 have CU:=hid (fun(u:World) (hb:Below w2.heap.size w2 u)=>cloneZ_any UA nU uc w.heap.size (n.stops.map (Value.int .i64)) u (by omega) (by have:=H2.stops;rw[hnU]at this;exact this.below (hb.mono b2.size)) (cellsZ n.stops))
 have CQ:=hid (fun(u:World) (hb:Below w2.heap.size w2 u)=>cloneZ_any QA nQ qc w.heap.size (n.preds.map (Value.int .i64)) u (by omega) (by have:=H2.preds;rw[hnQ]at this;exact this.below (hb.mono b2.size)) (cellsZ n.preds))
 have CD:=hid (fun(u:World) (hb:Below w2.heap.size w2 u)=>cloneZ_any DA nD dc w.heap.size (n.decs.map (Value.int .i64)) u (by omega) (by have:=H2.decs;rw[hnD]at this;exact this.below (hb.mono b2.size)) (cellsZ n.decs))
 clear hw1 hw2 b1 b2 T1h T2h z1 h hs hnS hnT hnU hnQ hnD H2
 go_enter Try.func27,Try.ntmps27
 go_upto_region 1 with fail
 rw[HW.out]
 clear HW
 generalize hbn:w.heap.size=bn at hb1l p0 p1 p2 p3 p4⊢
 have ST:=hid (fun(u:World) (hb:Below w2.heap.size w2 u)=>(show u.cell? ⟨bn,1,none⟩=some (.slice TA nT tc)∧u.cell? ⟨bn,2,none⟩=some (.slice UA nU uc)∧u.cell? ⟨bn,3,none⟩=some (.slice QA nQ qc)∧u.cell? ⟨bn,4,none⟩=some (.slice DA nD dc)from
  ⟨(hb.cell (p:=⟨bn,1,none⟩) hb1l).trans p1,(hb.cell (p:=⟨bn,2,none⟩) hb1l).trans p2,(hb.cell (p:=⟨bn,3,none⟩) hb1l).trans p3,(hb.cell (p:=⟨bn,4,none⟩) hb1l).trans p4⟩))
 go_cut[3]from 6 (fun v wx=>∃b3,v= .pointer (some ⟨b3,0,none⟩)∧Hid (NofI w #[.slice SA nS sc,.slice TA nT tc,.slice UA nU uc,.slice QA nQ qc,.slice DA nD dc] n b3 0 wx))
 case first=>
  refine wp_region_late (l:=14) (S:=(fun w'=>w'.cell? ⟨bn,1,none⟩=some (.slice TA nT tc)∧w'.cell? ⟨bn,2,none⟩=some (.slice UA nU uc)∧w'.cell? ⟨bn,3,none⟩=some (.slice QA nQ qc)∧w'.cell? ⟨bn,4,none⟩=some (.slice DA nD dc))) (by kernel_rfl) ⟨p1,p2,p3,p4⟩ (fun hHeld=>?_)
  have HLwd:Below w2.heap.size w2 w2.drew:=⟨rfl,rfl,rfl,Nat.le_refl _,fun _ _=>rfl⟩
  generalize w2.drew=wd at hHeld HLwd⊢
  clear p1 p2 p3 p4
  refine wpAnyF_take2 (i:=0) (.pointer (some ⟨bn,1,none⟩)) (by kernel_rfl) rfl (by decide) (by kernel_rfl) (by kernel_rfl) (by kernel_rfl) (by kernel_rfl) (fun _ _ _ h=>h) hHeld (by rfl) (fun w' hSw=>?_) ?_
  ·obtain⟨p1,p2,p3,p4⟩:=hSw;go_simp
  simp only[Act.put]
  refine wpAnyF_take2 (i:=1) (.slice TA nT tc) (by kernel_rfl) rfl (by decide) (by kernel_rfl) (by kernel_rfl) (by kernel_rfl) (by kernel_rfl) (fun _ _ _ h=>h) hHeld (by rfl) (fun w' hSw=>?_) ?_
  ·obtain⟨p1,p2,p3,p4⟩:=hSw;go_simp
  simp only[Act.put]
  refine wpAnyF_take2 (i:=3) (.pointer (some ⟨bn,2,none⟩)) (by kernel_rfl) rfl (by decide) (by kernel_rfl) (by kernel_rfl) (by kernel_rfl) (by kernel_rfl) (fun _ _ _ h=>h) hHeld (by rfl) (fun w' hSw=>?_) ?_
  ·obtain⟨p1,p2,p3,p4⟩:=hSw;go_simp
  simp only[Act.put]
  refine wpAnyF_take2 (i:=4) (.slice UA nU uc) (by kernel_rfl) rfl (by decide) (by kernel_rfl) (by kernel_rfl) (by kernel_rfl) (by kernel_rfl) (fun _ _ _ h=>h) hHeld (by rfl) (fun w' hSw=>?_) ?_
  ·obtain⟨p1,p2,p3,p4⟩:=hSw;go_simp
  simp only[Act.put]
  refine wpAnyF_take2 (i:=6) (.pointer (some ⟨bn,3,none⟩)) (by kernel_rfl) rfl (by decide) (by kernel_rfl) (by kernel_rfl) (by kernel_rfl) (by kernel_rfl) (fun _ _ _ h=>h) hHeld (by rfl) (fun w' hSw=>?_) ?_
  ·obtain⟨p1,p2,p3,p4⟩:=hSw;go_simp
  simp only[Act.put]
  refine wpAnyF_take2 (i:=7) (.slice QA nQ qc) (by kernel_rfl) rfl (by decide) (by kernel_rfl) (by kernel_rfl) (by kernel_rfl) (by kernel_rfl) (fun _ _ _ h=>h) hHeld (by rfl) (fun w' hSw=>?_) ?_
  ·obtain⟨p1,p2,p3,p4⟩:=hSw;go_simp
  simp only[Act.put]
  refine wpAnyF_take2 (i:=9) (.pointer (some ⟨bn,4,none⟩)) (by kernel_rfl) rfl (by decide) (by kernel_rfl) (by kernel_rfl) (by kernel_rfl) (by kernel_rfl) (fun _ _ _ h=>h) hHeld (by rfl) (fun w' hSw=>?_) ?_
  ·obtain⟨p1,p2,p3,p4⟩:=hSw;go_simp
  simp only[Act.put]
  refine wpAnyF_take2 (i:=10) (.slice DA nD dc) (by kernel_rfl) rfl (by decide) (by kernel_rfl) (by kernel_rfl) (by kernel_rfl) (by kernel_rfl) (fun _ _ _ h=>h) hHeld (by rfl) (fun w' hSw=>?_) ?_
  ·obtain⟨p1,p2,p3,p4⟩:=hSw;go_simp
  simp only[Act.put]
  refine wpAnyF_two 2 13 (by kernel_rfl) rfl rfl (fun K hK=>?_) (fun K hK=>?_)
  ·go_simp
   go_at_call 47
   refine(CT.out wd HLwd).mono ?_
   rintro e wx1 ⟨T1,t1,rfl,hown,hbwx1⟩
   dsimp only
   have HLwx1:=HLwd.trans (hbwx1.mono HLwd.size)
   have hSwx1:=ST.out wx1 HLwx1
   have rT:RO wx1 (fun j=>j<w2.heap.size) 1 T1 nT (n.starts.map (Value.int .i64)):=roOwn hown (Nat.le_refl _) (fun j hj e=>by have:=HLwd.size;omega)
   refine hK _ _ ⟨hSwx1.1,hSwx1.2.1,hSwx1.2.2.1,hSwx1.2.2.2⟩ (fun hHeld=>?_)
   clear hK hown hbwx1 hSwx1
   clear K
   refine wpAnyF_two 5 13 (by kernel_rfl) rfl rfl (fun K hK=>?_) (fun K hK=>?_)
   ·go_simp
    go_at_call 47
    refine(CU.out wx1 HLwx1).mono ?_
    rintro e wx3 ⟨U1,u1,rfl,hown,hbwx3⟩
    dsimp only
    have HLwx3:=HLwx1.trans (hbwx3.mono HLwx1.size)
    have hSwx3:=ST.out wx3 HLwx3
    have rT:=rT.only (S':=(fun j=>j<w2.heap.size)) (Only.of_below hbwx3) (fun _ _ e=>e)
    have rU:RO wx3 (fun j=>j<w2.heap.size) 1 U1 nU (n.stops.map (Value.int .i64)):=roOwn hown (Nat.le_refl _) (fun j hj e=>by have:=HLwx1.size;omega)
    refine hK _ _ ⟨hSwx3.1,hSwx3.2.1,hSwx3.2.2.1,hSwx3.2.2.2⟩ (fun hHeld=>?_)
    clear hK hown hbwx3 hSwx3
    clear K
    refine wpAnyF_two 8 13 (by kernel_rfl) rfl rfl (fun K hK=>?_) (fun K hK=>?_)
    ·go_simp
     go_at_call 47
     refine(CQ.out wx3 HLwx3).mono ?_
     rintro e wx5 ⟨Q1,q1,rfl,hown,hbwx5⟩
     dsimp only
     have HLwx5:=HLwx3.trans (hbwx5.mono HLwx3.size)
     have hSwx5:=ST.out wx5 HLwx5
     have rT:=rT.only (S':=(fun j=>j<w2.heap.size)) (Only.of_below hbwx5) (fun _ _ e=>e)
     have rU:=rU.only (S':=(fun j=>j<w2.heap.size)) (Only.of_below hbwx5) (fun _ _ e=>e)
     have rQ:RO wx5 (fun j=>j<w2.heap.size) 1 Q1 nQ (n.preds.map (Value.int .i64)):=roOwn hown (Nat.le_refl _) (fun j hj e=>by have:=HLwx3.size;omega)
     refine hK _ _ ⟨hSwx5.1,hSwx5.2.1,hSwx5.2.2.1,hSwx5.2.2.2⟩ (fun hHeld=>?_)
     clear hK hown hbwx5 hSwx5
     clear K
     refine wpAnyF_two 11 13 (by kernel_rfl) rfl rfl (fun K hK=>?_) (fun K hK=>?_)
     ·go_simp
      go_at_call 47
      refine(CD.out wx5 HLwx5).mono ?_
      rintro e wx7 ⟨D1,d1,rfl,hown,hbwx7⟩
      dsimp only
      have HLwx7:=HLwx5.trans (hbwx7.mono HLwx5.size)
      have hSwx7:=ST.out wx7 HLwx7
      have rT:=rT.only (S':=(fun j=>j<w2.heap.size)) (Only.of_below hbwx7) (fun _ _ e=>e)
      have rU:=rU.only (S':=(fun j=>j<w2.heap.size)) (Only.of_below hbwx7) (fun _ _ e=>e)
      have rQ:=rQ.only (S':=(fun j=>j<w2.heap.size)) (Only.of_below hbwx7) (fun _ _ e=>e)
      have rD:RO wx7 (fun j=>j<w2.heap.size) 1 D1 nD (n.decs.map (Value.int .i64)):=roOwn hown (Nat.le_refl _) (fun j hj e=>by have:=HLwx5.size;omega)
      refine hK _ _ ⟨hSwx7.1,hSwx7.2.1,hSwx7.2.2.1,hSwx7.2.2.2⟩ (fun hHeld=>?_)
      clear hK hown hbwx7 hSwx7
      clear K
      refine wpAnyF_take2 (i:=12) (.agg #[.slice none 0 0,.slice T1 nT t1,.slice U1 nU u1,.slice Q1 nQ q1,.slice D1 nD d1]) (by kernel_rfl) rfl (by decide) (by kernel_rfl) (by kernel_rfl) (by kernel_rfl) (by kernel_rfl) (fun _ _ _ h=>h) hHeld (by rfl) (fun w' hSw=>?_) ?_
      ·obtain⟨p1,p2,p3,p4⟩:=hSw;go_simp
      simp only[Act.put]
      refine wpAnyF_step 13 (by kernel_rfl) rfl (fun K hK=>?_)
      go_simp
      have hbwx9:Below wx7.heap.size wx7 (wx7.alloc (.cells #[.slice none 0 0,.slice none 0 0,.slice none 0 0,.slice none 0 0,.slice none 0 0] 25)):=below_new _ _
      have t3:(wx7.alloc (.cells #[.slice none 0 0,.slice none 0 0,.slice none 0 0,.slice none 0 0,.slice none 0 0] 25)).heap[wx7.heap.size]? =some (.cells #[.slice none 0 0,.slice none 0 0,.slice none 0 0,.slice none 0 0,.slice none 0 0] 25 (0,0)):=heap_alloc_new _ _
      have hl3:=heap_lt t3
      have hg3:w2.heap.size≤wx7.heap.size:=HLwx7.size
      have HLn:=HLwx7.trans (hbwx9.mono HLwx7.size)
      have hSn:=ST.out _ HLn
      refine hK _ _ ⟨hSn.1,hSn.2.1,hSn.2.2.1,hSn.2.2.2⟩ (fun hHeld=>?_)
      clear hK hSn
      clear K
      have rT:=rT.only (S':=fun j=>j<w2.heap.size∨j=wx7.heap.size) (Only.of_below hbwx9) (fun b hb e=>by rcases e with e | e;exact e;omega)
      have rU:=rU.only (S':=fun j=>j<w2.heap.size∨j=wx7.heap.size) (Only.of_below hbwx9) (fun b hb e=>by rcases e with e | e;exact e;omega)
      have rQ:=rQ.only (S':=fun j=>j<w2.heap.size∨j=wx7.heap.size) (Only.of_below hbwx9) (fun b hb e=>by rcases e with e | e;exact e;omega)
      have rD:=rD.only (S':=fun j=>j<w2.heap.size∨j=wx7.heap.size) (Only.of_below hbwx9) (fun b hb e=>by rcases e with e | e;exact e;omega)
      generalize wx7.alloc (.cells #[.slice none 0 0,.slice none 0 0,.slice none 0 0,.slice none 0 0,.slice none 0 0] 25)=wx9 at*
      generalize hb3e:wx7.heap.size=b3 at*
      have HLwx9:=HLn
      obtain⟨y0,y1,y2,y3,y4,yz⟩:=cells5n t3
      refine wpAnyF_turn 14 (by kernel_rfl) rfl (by decide) (by decide) (fun K hK=>?_)
      go_simp
      refine hK _ _ (wpAny_done (by kernel_rfl) ?_ _)
      clear hK
      clear K
      have HFIN:=hid (nof_start (t1:=t1) (u1:=u1) (q1:=q1) (d1:=d1) HB2.out hb2l HLOW.out T1r.out T2r.out HLwx9 t3 hl3 hg3 rT rU rQ rD)
      clear y0 y1 y2 y3 y4 yz t3 rT rU rQ rD
      go_wp2_with fail
      go_meet
      exact⟨_,rfl,HFIN⟩
     ·go_simp
      have hbwx8:Below wx5.heap.size wx5 (wx5.alloc (.cells #[.slice none 0 0,.slice none 0 0,.slice none 0 0,.slice none 0 0,.slice none 0 0] 25)):=below_new _ _
      have t3:(wx5.alloc (.cells #[.slice none 0 0,.slice none 0 0,.slice none 0 0,.slice none 0 0,.slice none 0 0] 25)).heap[wx5.heap.size]? =some (.cells #[.slice none 0 0,.slice none 0 0,.slice none 0 0,.slice none 0 0,.slice none 0 0] 25 (0,0)):=heap_alloc_new _ _
      have hl3:=heap_lt t3
      have hg3:w2.heap.size≤wx5.heap.size:=HLwx5.size
      have HLn:=HLwx5.trans (hbwx8.mono HLwx5.size)
      have hSn:=ST.out _ HLn
      refine hK _ _ ⟨hSn.1,hSn.2.1,hSn.2.2.1,hSn.2.2.2⟩ (fun hHeld=>?_)
      clear hK hSn
      clear K
      have rT:=rT.only (S':=fun j=>j<w2.heap.size∨j=wx5.heap.size) (Only.of_below hbwx8) (fun b hb e=>by rcases e with e | e;exact e;omega)
      have rU:=rU.only (S':=fun j=>j<w2.heap.size∨j=wx5.heap.size) (Only.of_below hbwx8) (fun b hb e=>by rcases e with e | e;exact e;omega)
      have rQ:=rQ.only (S':=fun j=>j<w2.heap.size∨j=wx5.heap.size) (Only.of_below hbwx8) (fun b hb e=>by rcases e with e | e;exact e;omega)
      generalize wx5.alloc (.cells #[.slice none 0 0,.slice none 0 0,.slice none 0 0,.slice none 0 0,.slice none 0 0] 25)=wx8 at*
      generalize hb3e:wx5.heap.size=b3 at*
      have HLwx8:=HLn
      refine wpAnyF_step 11 (by kernel_rfl) rfl (fun K hK=>?_)
      go_simp
      go_at_call 47
      refine(CD.out wx8 HLwx8).mono ?_
      rintro e wx10 ⟨D1,d1,rfl,hown,hbwx10⟩
      dsimp only
      have HLwx10:=HLwx8.trans (hbwx10.mono HLwx8.size)
      have hSwx10:=ST.out wx10 HLwx10
      have rT:=rT.only (S':=(fun j=>j<w2.heap.size∨j=b3)) (Only.of_below hbwx10) (fun _ _ e=>e)
      have rU:=rU.only (S':=(fun j=>j<w2.heap.size∨j=b3)) (Only.of_below hbwx10) (fun _ _ e=>e)
      have rQ:=rQ.only (S':=(fun j=>j<w2.heap.size∨j=b3)) (Only.of_below hbwx10) (fun _ _ e=>e)
      have t3:=(hbwx10.block b3 (heap_lt t3)).trans t3
      have rD:RO wx10 (fun j=>j<w2.heap.size∨j=b3) 1 D1 nD (n.decs.map (Value.int .i64)):=roOwn hown (Nat.le_refl _) (fun j hj e=>by have:=HLwx8.size;rcases e with e | e <;> omega)
      have hl3:=Nat.lt_of_lt_of_le hl3 hbwx10.size
      refine hK _ _ ⟨hSwx10.1,hSwx10.2.1,hSwx10.2.2.1,hSwx10.2.2.2⟩ (fun hHeld=>?_)
      clear hK hown hbwx10 hSwx10
      clear K
      refine wpAnyF_take2 (i:=12) (.agg #[.slice none 0 0,.slice T1 nT t1,.slice U1 nU u1,.slice Q1 nQ q1,.slice D1 nD d1]) (by kernel_rfl) rfl (by decide) (by kernel_rfl) (by kernel_rfl) (by kernel_rfl) (by kernel_rfl) (fun _ _ _ h=>h) hHeld (by rfl) (fun w' hSw=>?_) ?_
      ·obtain⟨p1,p2,p3,p4⟩:=hSw;go_simp
      simp only[Act.put]
      obtain⟨y0,y1,y2,y3,y4,yz⟩:=cells5n t3
      refine wpAnyF_turn 14 (by kernel_rfl) rfl (by decide) (by decide) (fun K hK=>?_)
      go_simp
      refine hK _ _ (wpAny_done (by kernel_rfl) ?_ _)
      clear hK
      clear K
      have HFIN:=hid (nof_start (t1:=t1) (u1:=u1) (q1:=q1) (d1:=d1) HB2.out hb2l HLOW.out T1r.out T2r.out HLwx10 t3 hl3 hg3 rT rU rQ rD)
      clear y0 y1 y2 y3 y4 yz t3 rT rU rQ rD
      go_wp2_with fail
      go_meet
      exact⟨_,rfl,HFIN⟩
    ·go_simp
     have hbwx6:Below wx3.heap.size wx3 (wx3.alloc (.cells #[.slice none 0 0,.slice none 0 0,.slice none 0 0,.slice none 0 0,.slice none 0 0] 25)):=below_new _ _
     have t3:(wx3.alloc (.cells #[.slice none 0 0,.slice none 0 0,.slice none 0 0,.slice none 0 0,.slice none 0 0] 25)).heap[wx3.heap.size]? =some (.cells #[.slice none 0 0,.slice none 0 0,.slice none 0 0,.slice none 0 0,.slice none 0 0] 25 (0,0)):=heap_alloc_new _ _
     have hl3:=heap_lt t3
     have hg3:w2.heap.size≤wx3.heap.size:=HLwx3.size
     have HLn:=HLwx3.trans (hbwx6.mono HLwx3.size)
     have hSn:=ST.out _ HLn
     refine hK _ _ ⟨hSn.1,hSn.2.1,hSn.2.2.1,hSn.2.2.2⟩ (fun hHeld=>?_)
     clear hK hSn
     clear K
     have rT:=rT.only (S':=fun j=>j<w2.heap.size∨j=wx3.heap.size) (Only.of_below hbwx6) (fun b hb e=>by rcases e with e | e;exact e;omega)
     have rU:=rU.only (S':=fun j=>j<w2.heap.size∨j=wx3.heap.size) (Only.of_below hbwx6) (fun b hb e=>by rcases e with e | e;exact e;omega)
     generalize wx3.alloc (.cells #[.slice none 0 0,.slice none 0 0,.slice none 0 0,.slice none 0 0,.slice none 0 0] 25)=wx6 at*
     generalize hb3e:wx3.heap.size=b3 at*
     have HLwx6:=HLn
     refine wpAnyF_step 8 (by kernel_rfl) rfl (fun K hK=>?_)
     go_simp
     go_at_call 47
     refine(CQ.out wx6 HLwx6).mono ?_
     rintro e wx11 ⟨Q1,q1,rfl,hown,hbwx11⟩
     dsimp only
     have HLwx11:=HLwx6.trans (hbwx11.mono HLwx6.size)
     have hSwx11:=ST.out wx11 HLwx11
     have rT:=rT.only (S':=(fun j=>j<w2.heap.size∨j=b3)) (Only.of_below hbwx11) (fun _ _ e=>e)
     have rU:=rU.only (S':=(fun j=>j<w2.heap.size∨j=b3)) (Only.of_below hbwx11) (fun _ _ e=>e)
     have t3:=(hbwx11.block b3 (heap_lt t3)).trans t3
     have rQ:RO wx11 (fun j=>j<w2.heap.size∨j=b3) 1 Q1 nQ (n.preds.map (Value.int .i64)):=roOwn hown (Nat.le_refl _) (fun j hj e=>by have:=HLwx6.size;rcases e with e | e <;> omega)
     have hl3:=Nat.lt_of_lt_of_le hl3 hbwx11.size
     refine hK _ _ ⟨hSwx11.1,hSwx11.2.1,hSwx11.2.2.1,hSwx11.2.2.2⟩ (fun hHeld=>?_)
     clear hK hown hbwx11 hSwx11
     clear K
     refine wpAnyF_step 11 (by kernel_rfl) rfl (fun K hK=>?_)
     go_simp
     go_at_call 47
     refine(CD.out wx11 HLwx11).mono ?_
     rintro e wx12 ⟨D1,d1,rfl,hown,hbwx12⟩
     dsimp only
     have HLwx12:=HLwx11.trans (hbwx12.mono HLwx11.size)
     have hSwx12:=ST.out wx12 HLwx12
     have rT:=rT.only (S':=(fun j=>j<w2.heap.size∨j=b3)) (Only.of_below hbwx12) (fun _ _ e=>e)
     have rU:=rU.only (S':=(fun j=>j<w2.heap.size∨j=b3)) (Only.of_below hbwx12) (fun _ _ e=>e)
     have rQ:=rQ.only (S':=(fun j=>j<w2.heap.size∨j=b3)) (Only.of_below hbwx12) (fun _ _ e=>e)
     have t3:=(hbwx12.block b3 (heap_lt t3)).trans t3
     have rD:RO wx12 (fun j=>j<w2.heap.size∨j=b3) 1 D1 nD (n.decs.map (Value.int .i64)):=roOwn hown (Nat.le_refl _) (fun j hj e=>by have:=HLwx11.size;rcases e with e | e <;> omega)
     have hl3:=Nat.lt_of_lt_of_le hl3 hbwx12.size
     refine hK _ _ ⟨hSwx12.1,hSwx12.2.1,hSwx12.2.2.1,hSwx12.2.2.2⟩ (fun hHeld=>?_)
     clear hK hown hbwx12 hSwx12
     clear K
     refine wpAnyF_take2 (i:=12) (.agg #[.slice none 0 0,.slice T1 nT t1,.slice U1 nU u1,.slice Q1 nQ q1,.slice D1 nD d1]) (by kernel_rfl) rfl (by decide) (by kernel_rfl) (by kernel_rfl) (by kernel_rfl) (by kernel_rfl) (fun _ _ _ h=>h) hHeld (by rfl) (fun w' hSw=>?_) ?_
     ·obtain⟨p1,p2,p3,p4⟩:=hSw;go_simp
     simp only[Act.put]
     obtain⟨y0,y1,y2,y3,y4,yz⟩:=cells5n t3
     refine wpAnyF_turn 14 (by kernel_rfl) rfl (by decide) (by decide) (fun K hK=>?_)
     go_simp
     refine hK _ _ (wpAny_done (by kernel_rfl) ?_ _)
     clear hK
     clear K
     have HFIN:=hid (nof_start (t1:=t1) (u1:=u1) (q1:=q1) (d1:=d1) HB2.out hb2l HLOW.out T1r.out T2r.out HLwx12 t3 hl3 hg3 rT rU rQ rD)
     clear y0 y1 y2 y3 y4 yz t3 rT rU rQ rD
     go_wp2_with fail
     go_meet
     exact⟨_,rfl,HFIN⟩
   ·go_simp
    have hbwx4:Below wx1.heap.size wx1 (wx1.alloc (.cells #[.slice none 0 0,.slice none 0 0,.slice none 0 0,.slice none 0 0,.slice none 0 0] 25)):=below_new _ _
    have t3:(wx1.alloc (.cells #[.slice none 0 0,.slice none 0 0,.slice none 0 0,.slice none 0 0,.slice none 0 0] 25)).heap[wx1.heap.size]? =some (.cells #[.slice none 0 0,.slice none 0 0,.slice none 0 0,.slice none 0 0,.slice none 0 0] 25 (0,0)):=heap_alloc_new _ _
    have hl3:=heap_lt t3
    have hg3:w2.heap.size≤wx1.heap.size:=HLwx1.size
    have HLn:=HLwx1.trans (hbwx4.mono HLwx1.size)
    have hSn:=ST.out _ HLn
    refine hK _ _ ⟨hSn.1,hSn.2.1,hSn.2.2.1,hSn.2.2.2⟩ (fun hHeld=>?_)
    clear hK hSn
    clear K
    have rT:=rT.only (S':=fun j=>j<w2.heap.size∨j=wx1.heap.size) (Only.of_below hbwx4) (fun b hb e=>by rcases e with e | e;exact e;omega)
    generalize wx1.alloc (.cells #[.slice none 0 0,.slice none 0 0,.slice none 0 0,.slice none 0 0,.slice none 0 0] 25)=wx4 at*
    generalize hb3e:wx1.heap.size=b3 at*
    have HLwx4:=HLn
    refine wpAnyF_step 5 (by kernel_rfl) rfl (fun K hK=>?_)
    go_simp
    go_at_call 47
    refine(CU.out wx4 HLwx4).mono ?_
    rintro e wx13 ⟨U1,u1,rfl,hown,hbwx13⟩
    dsimp only
    have HLwx13:=HLwx4.trans (hbwx13.mono HLwx4.size)
    have hSwx13:=ST.out wx13 HLwx13
    have rT:=rT.only (S':=(fun j=>j<w2.heap.size∨j=b3)) (Only.of_below hbwx13) (fun _ _ e=>e)
    have t3:=(hbwx13.block b3 (heap_lt t3)).trans t3
    have rU:RO wx13 (fun j=>j<w2.heap.size∨j=b3) 1 U1 nU (n.stops.map (Value.int .i64)):=roOwn hown (Nat.le_refl _) (fun j hj e=>by have:=HLwx4.size;rcases e with e | e <;> omega)
    have hl3:=Nat.lt_of_lt_of_le hl3 hbwx13.size
    refine hK _ _ ⟨hSwx13.1,hSwx13.2.1,hSwx13.2.2.1,hSwx13.2.2.2⟩ (fun hHeld=>?_)
    clear hK hown hbwx13 hSwx13
    clear K
    refine wpAnyF_step 8 (by kernel_rfl) rfl (fun K hK=>?_)
    go_simp
    go_at_call 47
    refine(CQ.out wx13 HLwx13).mono ?_
    rintro e wx14 ⟨Q1,q1,rfl,hown,hbwx14⟩
    dsimp only
    have HLwx14:=HLwx13.trans (hbwx14.mono HLwx13.size)
    have hSwx14:=ST.out wx14 HLwx14
    have rT:=rT.only (S':=(fun j=>j<w2.heap.size∨j=b3)) (Only.of_below hbwx14) (fun _ _ e=>e)
    have rU:=rU.only (S':=(fun j=>j<w2.heap.size∨j=b3)) (Only.of_below hbwx14) (fun _ _ e=>e)
    have t3:=(hbwx14.block b3 (heap_lt t3)).trans t3
    have rQ:RO wx14 (fun j=>j<w2.heap.size∨j=b3) 1 Q1 nQ (n.preds.map (Value.int .i64)):=roOwn hown (Nat.le_refl _) (fun j hj e=>by have:=HLwx13.size;rcases e with e | e <;> omega)
    have hl3:=Nat.lt_of_lt_of_le hl3 hbwx14.size
    refine hK _ _ ⟨hSwx14.1,hSwx14.2.1,hSwx14.2.2.1,hSwx14.2.2.2⟩ (fun hHeld=>?_)
    clear hK hown hbwx14 hSwx14
    clear K
    refine wpAnyF_step 11 (by kernel_rfl) rfl (fun K hK=>?_)
    go_simp
    go_at_call 47
    refine(CD.out wx14 HLwx14).mono ?_
    rintro e wx15 ⟨D1,d1,rfl,hown,hbwx15⟩
    dsimp only
    have HLwx15:=HLwx14.trans (hbwx15.mono HLwx14.size)
    have hSwx15:=ST.out wx15 HLwx15
    have rT:=rT.only (S':=(fun j=>j<w2.heap.size∨j=b3)) (Only.of_below hbwx15) (fun _ _ e=>e)
    have rU:=rU.only (S':=(fun j=>j<w2.heap.size∨j=b3)) (Only.of_below hbwx15) (fun _ _ e=>e)
    have rQ:=rQ.only (S':=(fun j=>j<w2.heap.size∨j=b3)) (Only.of_below hbwx15) (fun _ _ e=>e)
    have t3:=(hbwx15.block b3 (heap_lt t3)).trans t3
    have rD:RO wx15 (fun j=>j<w2.heap.size∨j=b3) 1 D1 nD (n.decs.map (Value.int .i64)):=roOwn hown (Nat.le_refl _) (fun j hj e=>by have:=HLwx14.size;rcases e with e | e <;> omega)
    have hl3:=Nat.lt_of_lt_of_le hl3 hbwx15.size
    refine hK _ _ ⟨hSwx15.1,hSwx15.2.1,hSwx15.2.2.1,hSwx15.2.2.2⟩ (fun hHeld=>?_)
    clear hK hown hbwx15 hSwx15
    clear K
    refine wpAnyF_take2 (i:=12) (.agg #[.slice none 0 0,.slice T1 nT t1,.slice U1 nU u1,.slice Q1 nQ q1,.slice D1 nD d1]) (by kernel_rfl) rfl (by decide) (by kernel_rfl) (by kernel_rfl) (by kernel_rfl) (by kernel_rfl) (fun _ _ _ h=>h) hHeld (by rfl) (fun w' hSw=>?_) ?_
    ·obtain⟨p1,p2,p3,p4⟩:=hSw;go_simp
    simp only[Act.put]
    obtain⟨y0,y1,y2,y3,y4,yz⟩:=cells5n t3
    refine wpAnyF_turn 14 (by kernel_rfl) rfl (by decide) (by decide) (fun K hK=>?_)
    go_simp
    refine hK _ _ (wpAny_done (by kernel_rfl) ?_ _)
    clear hK
    clear K
    have HFIN:=hid (nof_start (t1:=t1) (u1:=u1) (q1:=q1) (d1:=d1) HB2.out hb2l HLOW.out T1r.out T2r.out HLwx15 t3 hl3 hg3 rT rU rQ rD)
    clear y0 y1 y2 y3 y4 yz t3 rT rU rQ rD
    go_wp2_with fail
    go_meet
    exact⟨_,rfl,HFIN⟩
  ·go_simp
   have hbwx2:Below wd.heap.size wd (wd.alloc (.cells #[.slice none 0 0,.slice none 0 0,.slice none 0 0,.slice none 0 0,.slice none 0 0] 25)):=below_new _ _
   have t3:(wd.alloc (.cells #[.slice none 0 0,.slice none 0 0,.slice none 0 0,.slice none 0 0,.slice none 0 0] 25)).heap[wd.heap.size]? =some (.cells #[.slice none 0 0,.slice none 0 0,.slice none 0 0,.slice none 0 0,.slice none 0 0] 25 (0,0)):=heap_alloc_new _ _
   have hl3:=heap_lt t3
   have hg3:w2.heap.size≤wd.heap.size:=HLwd.size
   have HLn:=HLwd.trans (hbwx2.mono HLwd.size)
   have hSn:=ST.out _ HLn
   refine hK _ _ ⟨hSn.1,hSn.2.1,hSn.2.2.1,hSn.2.2.2⟩ (fun hHeld=>?_)
   clear hK hSn
   clear K
   generalize wd.alloc (.cells #[.slice none 0 0,.slice none 0 0,.slice none 0 0,.slice none 0 0,.slice none 0 0] 25)=wx2 at*
   generalize hb3e:wd.heap.size=b3 at*
   have HLwx2:=HLn
   refine wpAnyF_step 2 (by kernel_rfl) rfl (fun K hK=>?_)
   go_simp
   go_at_call 47
   refine(CT.out wx2 HLwx2).mono ?_
   rintro e wx16 ⟨T1,t1,rfl,hown,hbwx16⟩
   dsimp only
   have HLwx16:=HLwx2.trans (hbwx16.mono HLwx2.size)
   have hSwx16:=ST.out wx16 HLwx16
   have t3:=(hbwx16.block b3 (heap_lt t3)).trans t3
   have rT:RO wx16 (fun j=>j<w2.heap.size∨j=b3) 1 T1 nT (n.starts.map (Value.int .i64)):=roOwn hown (Nat.le_refl _) (fun j hj e=>by have:=HLwx2.size;rcases e with e | e <;> omega)
   have hl3:=Nat.lt_of_lt_of_le hl3 hbwx16.size
   refine hK _ _ ⟨hSwx16.1,hSwx16.2.1,hSwx16.2.2.1,hSwx16.2.2.2⟩ (fun hHeld=>?_)
   clear hK hown hbwx16 hSwx16
   clear K
   refine wpAnyF_step 5 (by kernel_rfl) rfl (fun K hK=>?_)
   go_simp
   go_at_call 47
   refine(CU.out wx16 HLwx16).mono ?_
   rintro e wx17 ⟨U1,u1,rfl,hown,hbwx17⟩
   dsimp only
   have HLwx17:=HLwx16.trans (hbwx17.mono HLwx16.size)
   have hSwx17:=ST.out wx17 HLwx17
   have rT:=rT.only (S':=(fun j=>j<w2.heap.size∨j=b3)) (Only.of_below hbwx17) (fun _ _ e=>e)
   have t3:=(hbwx17.block b3 (heap_lt t3)).trans t3
   have rU:RO wx17 (fun j=>j<w2.heap.size∨j=b3) 1 U1 nU (n.stops.map (Value.int .i64)):=roOwn hown (Nat.le_refl _) (fun j hj e=>by have:=HLwx16.size;rcases e with e | e <;> omega)
   have hl3:=Nat.lt_of_lt_of_le hl3 hbwx17.size
   refine hK _ _ ⟨hSwx17.1,hSwx17.2.1,hSwx17.2.2.1,hSwx17.2.2.2⟩ (fun hHeld=>?_)
   clear hK hown hbwx17 hSwx17
   clear K
   refine wpAnyF_step 8 (by kernel_rfl) rfl (fun K hK=>?_)
   go_simp
   go_at_call 47
   refine(CQ.out wx17 HLwx17).mono ?_
   rintro e wx18 ⟨Q1,q1,rfl,hown,hbwx18⟩
   dsimp only
   have HLwx18:=HLwx17.trans (hbwx18.mono HLwx17.size)
   have hSwx18:=ST.out wx18 HLwx18
   have rT:=rT.only (S':=(fun j=>j<w2.heap.size∨j=b3)) (Only.of_below hbwx18) (fun _ _ e=>e)
   have rU:=rU.only (S':=(fun j=>j<w2.heap.size∨j=b3)) (Only.of_below hbwx18) (fun _ _ e=>e)
   have t3:=(hbwx18.block b3 (heap_lt t3)).trans t3
   have rQ:RO wx18 (fun j=>j<w2.heap.size∨j=b3) 1 Q1 nQ (n.preds.map (Value.int .i64)):=roOwn hown (Nat.le_refl _) (fun j hj e=>by have:=HLwx17.size;rcases e with e | e <;> omega)
   have hl3:=Nat.lt_of_lt_of_le hl3 hbwx18.size
   refine hK _ _ ⟨hSwx18.1,hSwx18.2.1,hSwx18.2.2.1,hSwx18.2.2.2⟩ (fun hHeld=>?_)
   clear hK hown hbwx18 hSwx18
   clear K
   refine wpAnyF_step 11 (by kernel_rfl) rfl (fun K hK=>?_)
   go_simp
   go_at_call 47
   refine(CD.out wx18 HLwx18).mono ?_
   rintro e wx19 ⟨D1,d1,rfl,hown,hbwx19⟩
   dsimp only
   have HLwx19:=HLwx18.trans (hbwx19.mono HLwx18.size)
   have hSwx19:=ST.out wx19 HLwx19
   have rT:=rT.only (S':=(fun j=>j<w2.heap.size∨j=b3)) (Only.of_below hbwx19) (fun _ _ e=>e)
   have rU:=rU.only (S':=(fun j=>j<w2.heap.size∨j=b3)) (Only.of_below hbwx19) (fun _ _ e=>e)
   have rQ:=rQ.only (S':=(fun j=>j<w2.heap.size∨j=b3)) (Only.of_below hbwx19) (fun _ _ e=>e)
   have t3:=(hbwx19.block b3 (heap_lt t3)).trans t3
   have rD:RO wx19 (fun j=>j<w2.heap.size∨j=b3) 1 D1 nD (n.decs.map (Value.int .i64)):=roOwn hown (Nat.le_refl _) (fun j hj e=>by have:=HLwx18.size;rcases e with e | e <;> omega)
   have hl3:=Nat.lt_of_lt_of_le hl3 hbwx19.size
   refine hK _ _ ⟨hSwx19.1,hSwx19.2.1,hSwx19.2.2.1,hSwx19.2.2.2⟩ (fun hHeld=>?_)
   clear hK hown hbwx19 hSwx19
   clear K
   refine wpAnyF_take2 (i:=12) (.agg #[.slice none 0 0,.slice T1 nT t1,.slice U1 nU u1,.slice Q1 nQ q1,.slice D1 nD d1]) (by kernel_rfl) rfl (by decide) (by kernel_rfl) (by kernel_rfl) (by kernel_rfl) (by kernel_rfl) (fun _ _ _ h=>h) hHeld (by rfl) (fun w' hSw=>?_) ?_
   ·obtain⟨p1,p2,p3,p4⟩:=hSw;go_simp
   simp only[Act.put]
   obtain⟨y0,y1,y2,y3,y4,yz⟩:=cells5n t3
   refine wpAnyF_turn 14 (by kernel_rfl) rfl (by decide) (by decide) (fun K hK=>?_)
   go_simp
   refine hK _ _ (wpAny_done (by kernel_rfl) ?_ _)
   clear hK
   clear K
   have HFIN:=hid (nof_start (t1:=t1) (u1:=u1) (q1:=q1) (d1:=d1) HB2.out hb2l HLOW.out T1r.out T2r.out HLwx19 t3 hl3 hg3 rT rU rQ rD)
   clear y0 y1 y2 y3 y4 yz t3 rT rU rQ rD
   go_wp2_with fail
   go_meet
   exact⟨_,rfl,HFIN⟩
 case rest=>
  clear ST CT CU CQ CD T1r T2r HB2 p0 p1 p2 p3 p4 hb1l hb2l
  obtain⟨b3,rfl,HN⟩:=hcut
  have c0:wc.cell? ⟨bn,0,none⟩=some (.slice SA nS sc):=by
   rw[←hbn,Lib.cell_of_heap HN.out.2.2.1];rfl
  go_wp2_with fail
  go_loopw[22] (fun i wr=>∃k:Nat,k≤nS∧i= .int .i64 k∧Hid (NofI w #[.slice SA nS sc,.slice TA nT tc,.slice UA nU uc,.slice QA nQ qc,.slice DA nD dc] n b3 k wr)) (fun i _=>nS-(intOf i).toNat)
  case atStart=>exact⟨0,by omega,by simp,HN⟩
  case round=>
   clear HN c0
   obtain⟨k,hk,rfl,hH⟩:=hrel
   obtain⟨hb,hb3,h1,h2,v,vs,T1,t1,U1,u1,Q1,q1,D1,d1,t3,hown,hst,rT,rU,rQ,rD⟩:=hH.out
   by_cases hlt:k<nS
   ·have hkl:k<n.states.length:=by rw[HNS.out];exact hlt
    have hAr:=(H.out.below hb).sts
    obtain⟨b,off,EA,ec,AA,ac,rfl,hbl,e0,e1,e2,r0,r1⟩:=hAr.at hkl
    have hsz:=HS.out.st _ (List.getElem_mem hkl)
    obtain⟨VA,vc,rfl⟩:=row_form hown
    generalize hxk:n.states[k]=x at e0 e1 e2 r0 r1 hsz
    obtain⟨nA,hnA⟩:∃m,x.ends.length=m:=⟨_,rfl⟩
    obtain⟨nE,hnE⟩:∃m,x.edges.length=m:=⟨_,rfl⟩
    rw[hnA]at e2 r1
    rw[hnE]at e1 r0
    rw[hnA,hnE]at hsz
    have R0:=hid (r0.more hb.size)
    have R1:=hid (r1.more hb.size)
    have HX:=hid hxk
    have HNA:=hid hnA
    have HNE:=hid hnE
    have HB:=hid hb
    have HT3:=hid t3
    have HOWN:=hid hown
    have HST:=hid hst
    have H1:=hid h1
    have H2:=hid h2
    have RT:=hid rT
    have RU:=hid rU
    have RQ:=hid rQ
    have RD:=hid rD
    obtain⟨q1,q2,_⟩:=hsz
    clear hAr r0 r1 hxk hnA hnE hb t3 hown hst h1 h2 rT rU rQ rD hH
    go_upto_region 5 with fail
    have hlt4:=HB.out.size
    have T4:(wr.alloc (.cells #[.int .i64 x.rule,.slice EA nE ec,.slice AA nA ac] 47)).heap[wr.heap.size]? =some (.cells #[.int .i64 x.rule,.slice EA nE ec,.slice AA nA ac] 47 (0,0)):=heap_alloc_new _ _
    have hbw4:Below wr.heap.size wr (wr.alloc (.cells #[.int .i64 x.rule,.slice EA nE ec,.slice AA nA ac] 47)):=below_new _ _
    generalize wr.alloc (.cells #[.int .i64 x.rule,.slice EA nE ec,.slice AA nA ac] 47)=w4 at T4 hbw4⊢
    have HB4:=hid (HB.out.trans (hbw4.mono HB.out.size))
    have HO4:=hid (ownsRow_below HOWN.out hbw4 (Nat.le_refl _))
    have HT4:=hid ((hbw4.block b3 (heap_lt HT3.out)).trans HT3.out)
    have H14:=hid ((hbw4.block _ (heap_lt H1.out)).trans H1.out)
    have H24:=hid ((hbw4.block _ (heap_lt H2.out)).trans H2.out)
    have hvlt:∀j,(Value.slice VA k vc).ownBlock=some j→j<wr.heap.size:=fun j e=>(World.ownsRow.lt HOWN.out j e).2
    have HST4:Hid (∀i (h:i<n.states.length),i<k→StVO w4 (NT w.heap.size b3 (.slice VA k vc)) vs i n.states[i]):=hid fun i hi hik=>by have:=(HST.out i hi hik).only (S':=NT w.heap.size b3 (.slice VA k vc)) (Only.of_below hbw4) (fun _ _ e=>e) [];rwa [List.append_nil]at this
    have RT4:=hid (RT.out.only (S':=NT w.heap.size b3 (.slice VA k vc)) (Only.of_below hbw4) (fun _ _ e=>e))
    have RU4:=hid (RU.out.only (S':=NT w.heap.size b3 (.slice VA k vc)) (Only.of_below hbw4) (fun _ _ e=>e))
    have RQ4:=hid (RQ.out.only (S':=NT w.heap.size b3 (.slice VA k vc)) (Only.of_below hbw4) (fun _ _ e=>e))
    have RD4:=hid (RD.out.only (S':=NT w.heap.size b3 (.slice VA k vc)) (Only.of_below hbw4) (fun _ _ e=>e))
    have hg4l:=heap_lt T4
    have hb3l:=heap_lt HT4.out
    have hb3r:=heap_lt HT3.out
    have HTS:Hid (∀j,w4.heap.size≤j→¬NT w.heap.size b3 (.slice VA k vc) j):=hid fun j hj e=>by
     have h9:=heap_lt H24.out
     rcases e with e | e | e
     ·omega
     ·omega
     ·have:=hvlt j e;omega
    have hne4:wr.heap.size≠b3:=by omega
    generalize hg4:wr.heap.size=g4 at T4 hg4l hne4⊢
    have v0:w4.cell? ⟨b3,0,none⟩=some (.slice VA k vc):=by rw[Lib.cell_of_heap HT4.out];rfl
    have x0:w4.cell? ⟨g4,0,none⟩=some (.int .i64 x.rule):=by rw[Lib.cell_of_heap T4];rfl
    have x1:w4.cell? ⟨g4,1,none⟩=some (.slice EA nE ec):=by rw[Lib.cell_of_heap T4];rfl
    have x2:w4.cell? ⟨g4,2,none⟩=some (.slice AA nA ac):=by rw[Lib.cell_of_heap T4];rfl
    have ST:=hid (fun(u:World) (hb:Below w4.heap.size w4 u)=>(show u.cell? ⟨b3,0,none⟩=some (.slice VA k vc)∧u.cell? ⟨g4,0,none⟩=some (.int .i64 x.rule)∧u.cell? ⟨g4,1,none⟩=some (.slice EA nE ec)∧u.cell? ⟨g4,2,none⟩=some (.slice AA nA ac)from
     ⟨(hb.cell (p:=⟨b3,0,none⟩) hb3l).trans v0,(hb.cell (p:=⟨g4,0,none⟩) hg4l).trans x0,(hb.cell (p:=⟨g4,1,none⟩) hg4l).trans x1,(hb.cell (p:=⟨g4,2,none⟩) hg4l).trans x2⟩))
    have CE:=hid (fun(u:World) (hb:Below w4.heap.size w4 u)=>cloneE_any EA nE ec w4.heap.size (flat encEd x.edges) u (by omega) (((R0.out.below (by rw[←hg4]at *;exact hbw4)).more (by omega)).below hb) (cellsEd x.edges))
    have CA:=hid (fun(u:World) (hb:Below w4.heap.size w4 u)=>cloneZ_any AA nA ac w4.heap.size (x.ends.map (Value.int .i64)) u (by omega) (((R1.out.below (by rw[←hg4]at *;exact hbw4)).more (by omega)).below hb) (cellsZ x.ends))
    obtain⟨i0,hi0,hz0,hsz0,hy0⟩:=info_of infoAS
    clear T4 hbw4 hvlt
    refine wp_region_late (l:=12) (S:=(fun w'=>w'.cell? ⟨b3,0,none⟩=some (.slice VA k vc)∧w'.cell? ⟨g4,0,none⟩=some (.int .i64 x.rule)∧w'.cell? ⟨g4,1,none⟩=some (.slice EA nE ec)∧w'.cell? ⟨g4,2,none⟩=some (.slice AA nA ac))) (by kernel_rfl) ⟨v0,x0,x1,x2⟩ (fun hHeld=>?_)
    have HLwd:Below w4.heap.size w4 w4.drew:=⟨rfl,rfl,rfl,Nat.le_refl _,fun _ _=>rfl⟩
    generalize w4.drew=wd at hHeld HLwd⊢
    clear v0 x0 x1 x2
    refine wpAnyF_take2 (i:=0) (.pointer (some ⟨b3,0,none⟩)) (by kernel_rfl) rfl (by decide) (by kernel_rfl) (by kernel_rfl) (by kernel_rfl) (by kernel_rfl) (fun _ _ _ h=>h) hHeld (by rfl) (fun w' hSw=>?_) ?_
    ·obtain⟨v0,x0,x1,x2⟩:=hSw;go_simp
    simp only[Act.put]
    refine wpAnyF_take2 (i:=1) (.slice VA k vc) (by kernel_rfl) rfl (by decide) (by kernel_rfl) (by kernel_rfl) (by kernel_rfl) (by kernel_rfl) (fun _ _ _ h=>h) hHeld (by rfl) (fun w' hSw=>?_) ?_
    ·obtain⟨v0,x0,x1,x2⟩:=hSw;go_simp
    simp only[Act.put]
    refine wpAnyF_take2 (i:=2) (.pointer (some ⟨g4,0,none⟩)) (by kernel_rfl) rfl (by decide) (by kernel_rfl) (by kernel_rfl) (by kernel_rfl) (by kernel_rfl) (fun _ _ _ h=>h) hHeld (by rfl) (fun w' hSw=>?_) ?_
    ·obtain⟨v0,x0,x1,x2⟩:=hSw;go_simp
    simp only[Act.put]
    refine wpAnyF_take2 (i:=3) (.int .i64 x.rule) (by kernel_rfl) rfl (by decide) (by kernel_rfl) (by kernel_rfl) (by kernel_rfl) (by kernel_rfl) (fun _ _ _ h=>h) hHeld (by rfl) (fun w' hSw=>?_) ?_
    ·obtain⟨v0,x0,x1,x2⟩:=hSw;go_simp
    simp only[Act.put]
    refine wpAnyF_take2 (i:=4) (.pointer (some ⟨g4,1,none⟩)) (by kernel_rfl) rfl (by decide) (by kernel_rfl) (by kernel_rfl) (by kernel_rfl) (by kernel_rfl) (fun _ _ _ h=>h) hHeld (by rfl) (fun w' hSw=>?_) ?_
    ·obtain⟨v0,x0,x1,x2⟩:=hSw;go_simp
    simp only[Act.put]
    refine wpAnyF_take2 (i:=5) (.slice EA nE ec) (by kernel_rfl) rfl (by decide) (by kernel_rfl) (by kernel_rfl) (by kernel_rfl) (by kernel_rfl) (fun _ _ _ h=>h) hHeld (by rfl) (fun w' hSw=>?_) ?_
    ·obtain⟨v0,x0,x1,x2⟩:=hSw;go_simp
    simp only[Act.put]
    refine wpAnyF_take2 (i:=7) (.pointer (some ⟨g4,2,none⟩)) (by kernel_rfl) rfl (by decide) (by kernel_rfl) (by kernel_rfl) (by kernel_rfl) (by kernel_rfl) (fun _ _ _ h=>h) hHeld (by rfl) (fun w' hSw=>?_) ?_
    ·obtain⟨v0,x0,x1,x2⟩:=hSw;go_simp
    simp only[Act.put]
    refine wpAnyF_take2 (i:=8) (.slice AA nA ac) (by kernel_rfl) rfl (by decide) (by kernel_rfl) (by kernel_rfl) (by kernel_rfl) (by kernel_rfl) (fun _ _ _ h=>h) hHeld (by rfl) (fun w' hSw=>?_) ?_
    ·obtain⟨v0,x0,x1,x2⟩:=hSw;go_simp
    simp only[Act.put]
    refine wpAnyF_step 6 (by kernel_rfl) rfl (fun K hK=>?_)
    go_simp
    go_at_call 48
    refine(CE.out wd HLwd).mono ?_
    rintro e w5 ⟨A2,c2,rfl,hownE,hbw5⟩
    dsimp only
    have hSw5:=ST.out w5 (HLwd.trans (hbw5.mono HLwd.size))
    have HLw5:=HLwd.trans (hbw5.mono HLwd.size)
    refine hK _ _ ⟨hSw5.1,hSw5.2.1,hSw5.2.2.1,hSw5.2.2.2⟩ (fun hHeld=>?_)
    clear hK
    clear K
    refine wpAnyF_step 9 (by kernel_rfl) rfl (fun K hK=>?_)
    go_simp
    go_at_call 47
    refine(CA.out w5 HLw5).mono ?_
    rintro e w6 ⟨A1,c1,rfl,hownA,hbw6⟩
    dsimp only
    have hSw6:=ST.out w6 (HLw5.trans (hbw6.mono HLw5.size))
    have HLw6:=HLw5.trans (hbw6.mono HLw5.size)
    refine hK _ _ ⟨hSw6.1,hSw6.2.1,hSw6.2.2.1,hSw6.2.2.2⟩ (fun hHeld=>?_)
    clear hK
    clear K
    have hsd:w4.heap.size≤wd.heap.size:=HLwd.size
    have hsz5:w4.heap.size≤w5.heap.size:=HLw5.size
    have HRE:Hid (RO w6 (NT w.heap.size b3 (.slice VA k vc)) 3 A2 nE (flat encEd x.edges)):=hid (roOwn (ownsRow_below hownE hbw6 (Nat.le_refl _)) HLwd.size HTS.out)
    have HRA:Hid (RO w6 (NT w.heap.size b3 (.slice VA k vc)) 1 A1 nA (x.ends.map (Value.int .i64))):=hid (roOwn hownA HLw5.size HTS.out)
    clear hownA hownE
    refine wpAnyF_take2 (i:=10) (.agg #[.int .i64 x.rule,.slice A2 nE c2,.slice A1 nA c1]) (by kernel_rfl) rfl (by decide) (by kernel_rfl) (by kernel_rfl) (by kernel_rfl) (by kernel_rfl) (fun _ _ _ h=>h) hHeld (by rfl) (fun w' hSw=>?_) ?_
    ·obtain⟨v0,x0,x1,x2⟩:=hSw;go_simp
    simp only[Act.put]
    refine wpAnyF_step 11 (by kernel_rfl) rfl (fun K hK=>?_)
    go_simp
    have hb7:Below w6.heap.size w6 (w6.alloc (.cells #[.int .i64 x.rule,.slice A2 nE c2,.slice A1 nA c1] 47)):=below_new _ _
    have hS7:=ST.out _ (HLw6.trans (hb7.mono HLw6.size))
    refine hK _ _ ⟨hS7.1,hS7.2.1,hS7.2.2.1,hS7.2.2.2⟩ (fun hHeld=>?_)
    clear hK hS7 hb7
    clear K
    have hO6:=ownsRow_below HO4.out HLw6 (Nat.le_refl _)
    have t36:=(HLw6.block b3 (heap_lt HT4.out)).trans HT4.out
    have hst6:∀i (h:i<n.states.length),i<k→StVO w6 (NT w.heap.size b3 (.slice VA k vc)) vs i n.states[i]:=fun i hi hik=>by have:=(HST4.out i hi hik).only (S':=NT w.heap.size b3 (.slice VA k vc)) (Only.of_below HLw6) (fun _ _ e=>e) [];rwa [List.append_nil]at this
    have hsz6:w.heap.size≤w6.heap.size:=Nat.le_trans HB4.out.size HLw6.size
    refine wpAnyF_turn 12 (by kernel_rfl) rfl (by decide) (by decide) (fun K hK=>?_)
    refine step_push4 w6 rfl _ _ 22 rfl w.heap.size 47 i0 _ 3 56 Try.underlying22 hi0 hz0 hsz0 hy0 rfl (by omega) (.slice VA k vc) k vs rfl hO6 [.int .i64 x.rule,.slice A2 nE c2,.slice A1 nA c1] 1 _ rfl rfl rfl (by simp[Value.oneCell']) Nat.zero_lt_one (by simp only[maxLen];omega) (by omega) hsz6 ?_
    intro gn cn wn hownN hgN hoN
    refine hK _ _ ?_
    clear hK
    clear K
    have HFIN:=hid (nof_push (HB4.out.trans (HLw6.mono HB4.out.size)) hb3 ((HLw6.block _ (heap_lt H14.out)).trans H14.out) ((HLw6.block _ (heap_lt H24.out)).trans H24.out) hO6 t36 (RT4.out.only (Only.of_below HLw6) (fun _ _ e=>e)) (RU4.out.only (Only.of_below HLw6) (fun _ _ e=>e)) (RQ4.out.only (Only.of_below HLw6) (fun _ _ e=>e)) (RD4.out.only (Only.of_below HLw6) (fun _ _ e=>e)) HRA.out HRE.out hownN hgN hoN hst6 hkl HX.out HNA.out HNE.out)
    have t3n:=(hoN.block b3 (heap_lt t36) (row_not hO6 t36 (by decide))).trans t36
    have y0:wn.cell? ⟨b3,0,none⟩=some (.slice VA k vc):=by rw[Lib.cell_of_heap t3n];rfl
    have yz:=Lib.frozen_of_heap t3n 0
    clear hownN hgN hoN hO6 t36 t3n hst6
    refine wpAny_take (i:=13) (v:=.pointer (some ⟨b3,0,none⟩)) rfl (by kernel_rfl) (by kernel_rfl) (by kernel_rfl) (fun _ _ _ h=>h) (Or.inl ⟨by rfl,fun w=>(by go_simp)⟩) ?_
    simp only[Act.put]
    refine wpAny_ready (rs:=[14]) (by kernel_rfl) (by simp) (AllReady.cons rfl (fun K hK=>?_) AllReady.nil)
    go_simp
    refine hK _ _ (wpAny_done (by kernel_rfl) ?_ _)
    clear hK
    clear K y0 yz
    generalize wn.setCell ⟨b3,0,none⟩ (.slice (some ⟨gn,0,none⟩) (k+1) cn)=wF at HFIN⊢
    go_wp2_with fail
    go_roundw
    case rel=>exact⟨k+1,by omega,by go_num,HFIN⟩
    case measure=>simp[intOf];omega
   ·have hkn:k=nS:=by omega
    subst hkn
    obtain⟨VA,vc,rfl⟩:=row_form hown
    obtain⟨eT,eU,eQ,eD⟩:=HLOW.out
    rw[eT,eU,eQ,eD]at t3
    have y0:wr.cell? ⟨b3,0,none⟩=some (.slice VA k vc):=by rw[Lib.cell_of_heap t3];rfl
    have y1:wr.cell? ⟨b3,1,none⟩=some (.slice T1 nT t1):=by rw[Lib.cell_of_heap t3];rfl
    have y2:wr.cell? ⟨b3,2,none⟩=some (.slice U1 nU u1):=by rw[Lib.cell_of_heap t3];rfl
    have y3:wr.cell? ⟨b3,3,none⟩=some (.slice Q1 nQ q1):=by rw[Lib.cell_of_heap t3];rfl
    have y4:wr.cell? ⟨b3,4,none⟩=some (.slice D1 nD d1):=by rw[Lib.cell_of_heap t3];rfl
    have hb2n:bn+1=w.heap.size+1:=by rw[hbn]
    rw[hb2n]
    obtain⟨z0,z1,z2,z3,z4,zz⟩:=cells5n (b:=w.heap.size+1) h2
    obtain⟨g2,o2⟩:=set_five (b:=w.heap.size+1) h2 (.slice VA k vc) (.slice T1 nT t1) (.slice U1 nU u1) (.slice Q1 nQ q1) (.slice D1 nD d1)
    have hFIN:∀wF:World,Only (fun j=>j=w.heap.size+1) wr wF→Below w.heap.size w wF∧∀u,Up w.heap.size wF u→NetR u u.heap.size VA T1 U1 Q1 D1 n:=fun wF ho=>by
     have hS:∀j,j<wr.heap.size→j<w.heap.size+2→NT w.heap.size b3 (.slice VA k vc) j:=fun j _ e=>.inl e
     have ho':Only (NT w.heap.size b3 (.slice VA k vc)) wr wF:=ho.more fun j _ e=>.inl (by omega)
     refine⟨ho.below (fun j e=>by omega) hb hb.size,fun u hu=>⟨⟨vs,?_,fun i hi=>?_⟩,(rT.only ho' hS).up hu (fun _ e=>by omega),(rU.only ho' hS).up hu (fun _ e=>by omega),(rQ.only ho' hS).up hu (fun _ e=>by omega),(rD.only ho' hS).up hu (fun _ e=>by omega)⟩⟩
     ·rw[HNS.out]
      exact(roOwn (T:=fun j=>j<w.heap.size) (ownsRow_only hown ho (fun j e e2=>row_not hown h2 (by decide) (by rw[e,e2]))) (Nat.le_refl _) (fun j hj=>by omega)).up hu (fun _ e=>e)
     ·obtain⟨AA,ac,EA,ec,e0,e1,e2,r0,r1⟩:=hst i hi (by rw[←HNS.out];exact hi)
      exact⟨AA,ac,EA,ec,e0,e1,e2,(r0.only ho' hS).up hu (fun _ e=>by omega),(r1.only ho' hS).up hu (fun _ e=>by omega)⟩
    have HFIN:=hid hFIN
    have HO2:=hid o2
    have HG2:=hid g2
    clear hFIN o2 g2 hst hown rT rU rQ rD hH hbn
    go_wp2_with fail
    have hF:=HFIN.out _ HO2.out
    refine bodyPost_ret (results_cell_row rfl _ _ (w.heap.size+1) 25 _ _ _ rfl HG2.out Try.underlying25 rfl infoNetP) rfl ?_
    exact⟨VA,T1,U1,Q1,D1,vc,t1,u1,q1,d1,rfl,hF.1,hF.2⟩
end Go.Proofs.Ytgflanlniejflaa
