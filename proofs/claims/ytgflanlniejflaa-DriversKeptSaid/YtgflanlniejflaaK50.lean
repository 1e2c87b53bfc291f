/-
  DriversKept: nets and automata in new memory, and what is written there. Memory alone.
-/
import Derived.Test.YtgflanlniejflaaK13
import Derived.Test.YtgflanlniejflaaK30
import Derived.Test.YtgflanlniejflaaK40
import Derived.Test.YtgflanlniejflaaK44
namespace Go.Proofs.Ytgflanlniejflaa
open Go.RowKit
set_option maxRecDepth 100000
def ROT (w:World) (S:Nat→Prop) (T:TypeId) (size:Nat) (A:Option Addr) (n:Nat) (xs:List Value):Prop:=
 xs.length=n*size∧(0<n→∃(b:Nat) (arr:Array Value),A=some ⟨b,0,none⟩∧¬S b∧w.heap[b]? =some (.cells arr T (0,0))∧∀(j:Nat) (u:Value),xs[j]? =some u→arr[j]? =some u)
theorem ROT.only {w w':World}{S S':Nat→Prop}{T:TypeId}{size n:Nat}{A:Option Addr}{xs:List Value}(h:ROT w S T size A n xs) (ho:Only S w w') (hS:∀b,b<w.heap.size→S' b→S b):ROT w' S' T size A n xs:=
 ⟨h.1,fun hn=>by
  obtain⟨b,arr,e,hns,hh,hc⟩:=h.2 hn
  exact⟨b,arr,e,fun e=>hns (hS b (heap_lt hh) e),(ho.block b (heap_lt hh) hns).trans hh,hc⟩⟩
theorem ROT.ro {w:World}{S:Nat→Prop}{T:TypeId}{size n:Nat}{A:Option Addr}{xs:List Value}(h:ROT w S T size A n xs):RO w S size A n xs:=
 ⟨h.1,fun hn=>by
  obtain⟨b,arr,e,hns,hh,hc⟩:=h.2 hn
  exact⟨b,0,e,heap_lt hh,hns,fun j u hj=>by rw[Nat.zero_add,Lib.cell_of_heap hh];exact hc j u hj⟩⟩
theorem ROT.of_row {w:World}{S:Nat→Prop}{base n m c size:Nat}{T:TypeId}{A:Option Addr}{xs zs:List Value}(h:w.ownsRow base T size (.slice A m c) m (xs++zs)) (hl:xs.length=n*size) (hnm:n≤m) (hS:∀j,(Value.slice A m c).ownBlock=some j→¬S j):ROT w S T size A n xs:=
 ⟨hl,fun hn=>by
  rcases h.2 with⟨_,h0⟩ | ⟨g,cap,cur,hv,_,hh,_,_,_,ht⟩
  ·omega
  ·injection hv with hv
   subst hv
   refine⟨g,cur,rfl,hS g rfl,hh,fun j u hj=>?_⟩
   have hjl:=(List.getElem?_eq_some_iff.1 hj).1
   have hx:(cur.toList.take (m*size))[j]? =some u:=by rw[ht,List.getElem?_append_left hjl];exact hj
   rw[List.getElem?_take]at hx
   split at hx
   ·rw[←Array.getElem?_toList];exact hx
   ·cases hx⟩
theorem ROT.of_row0 {w:World}{S:Nat→Prop}{base n c size:Nat}{T:TypeId}{A:Option Addr}{xs:List Value}(h:w.ownsRow base T size (.slice A n c) n xs) (hS:∀j,(Value.slice A n c).ownBlock=some j→¬S j):ROT w S T size A n xs:=
 ROT.of_row (zs:=[]) (by rw[List.append_nil];exact h) h.1 (Nat.le_refl _) hS
def StK (w:World) (S:Nat→Prop) (vs:List Value) (i:Nat) (s:Drv.NSt):Prop:=
 ∃EA ec XA xc,vs[i*3]? =some (.int .i64 s.rule)∧vs[i*3+1]? =some (.slice EA s.edges.length ec)∧vs[i*3+2]? =some (.slice XA s.ends.length xc)∧ROT w S 60 3 EA s.edges.length (flat encEd s.edges)∧RO w S 1 XA s.ends.length (s.ends.map (Value.int .i64))
theorem StK.only {w w':World}{S S':Nat→Prop}{vs:List Value}{i:Nat}{s:Drv.NSt}(h:StK w S vs i s) (ho:Only S w w') (hS:∀b,b<w.heap.size→S' b→S b) (vs':List Value):StK w' S' (vs++vs') i s:=by
 obtain⟨AA,ac,EA,ec,e0,e1,e2,r0,r1⟩:=h
 have hl:∀{j:Nat}{v:Value},vs[j]? =some v→(vs++vs')[j]? =some v:=fun {j v} h=>by
  rw[List.getElem?_append_left (List.getElem?_eq_some_iff.1 h).1];exact h
 exact⟨AA,ac,EA,ec,hl e0,hl e1,hl e2,r0.only ho hS,r1.only ho hS⟩
def KcI (w9:World) (cb:Nat) (cs:Value→Array Value) (l:List Drv.NSt) (k:Nat) (wr:World):Prop:=
 ∃v vs,RowBox w9 cb cs 25 47 3 k vs v wr∧∀i (h:i<l.length),i<k→StK wr (fun j=>j<w9.heap.size∨v.ownBlock=some j) vs i l[i]
theorem kc_push {w9 wr wn:World}{cb k gn cn nE nX:Nat}{cs:Value→Array Value}{l:List Drv.NSt}{x:Drv.NSt}{v:Value}{vs:List Value}{XA EA:Option Addr}{xc ec:Nat}(h:RowBox w9 cb cs 25 47 3 k vs v wr) (htb:cb<w9.heap.size)
 (hst:∀i (h:i<l.length),i<k→StK wr (fun j=>j<w9.heap.size∨v.ownBlock=some j) vs i l[i]) (hk:k<l.length) (hx:l[k]=x) (hE:x.edges.length=nE) (hX:x.ends.length=nX)
 (rE:ROT wr (fun j=>j<w9.heap.size∨v.ownBlock=some j) 60 3 EA nE (flat encEd x.edges)) (rX:RO wr (fun j=>j<w9.heap.size∨v.ownBlock=some j) 1 XA nX (x.ends.map (Value.int .i64)))
 (hown:wn.ownsRow w9.heap.size 47 3 (.slice (some ⟨gn,0,none⟩) (k+1) cn) (k+1) (vs++ [.int .i64 x.rule,.slice EA nE ec,.slice XA nX xc]))
 (hg:v.ownBlock=some gn∨wr.heap.size<gn) (ho:Only (fun j=>v.ownBlock=some j) wr wn) (hc:∀v v',(cs v).setIfInBounds 0 v'=cs v'):KcI w9 cb cs l (k+1) (wn.setCell ⟨cb,0,none⟩ (.slice (some ⟨gn,0,none⟩) (k+1) cn)):=by
 have hK:=h.keep (o:=0) (m:=k+1) (cn:=cn) htb hg ho
 refine⟨_,_,h.push (o:=0) (by decide) hown ho (hc _ _),fun i hi hik=>?_⟩
 rcases Nat.lt_succ_iff_lt_or_eq.1 hik with h1 | rfl
 ·exact(hst i hi h1).only hK.1 hK.2 _
 ·have hvl:vs.length=i*3:=h.own.1
  rw[hx]
  refine⟨EA,ec,XA,xc,?_,?_,?_,?_,?_⟩
  ·rw[List.getElem?_append_right (by omega),hvl];simp
  ·rw[List.getElem?_append_right (by omega),hvl,hE,show i*3+1-i*3=1 by omega];rfl
  ·rw[List.getElem?_append_right (by omega),hvl,hX,show i*3+2-i*3=2 by omega];rfl
  ·rw[hE];exact rE.only hK.1 hK.2
  ·rw[hX];exact rX.only hK.1 hK.2
def LsK (w:World) (S:Nat→Prop) (vs:List Value) (i:Nat) (s:Drv.LSt):Prop:=
 ∃AA ac EA ec,vs[i*3]? =some (.int .u8 s.kind)∧vs[i*3+1]? =some (.slice AA s.alts.length ac)∧vs[i*3+2]? =some (.slice EA s.edges.length ec)∧RO w S 1 AA s.alts.length (s.alts.map (Value.int .i64))∧ROT w S 62 2 EA s.edges.length (flat encLE s.edges)
theorem LsK.only {w w':World}{S S':Nat→Prop}{vs:List Value}{i:Nat}{s:Drv.LSt}(h:LsK w S vs i s) (ho:Only S w w') (hS:∀b,b<w.heap.size→S' b→S b) (vs':List Value):LsK w' S' (vs++vs') i s:=by
 obtain⟨AA,ac,EA,ec,e0,e1,e2,r0,r1⟩:=h
 have hl:∀{j:Nat}{v:Value},vs[j]? =some v→(vs++vs')[j]? =some v:=fun {j v} h=>by
  rw[List.getElem?_append_left (List.getElem?_eq_some_iff.1 h).1];exact h
 exact⟨AA,ac,EA,ec,hl e0,hl e1,hl e2,r0.only ho hS,r1.only ho hS⟩
def AutK (w:World) (S:Nat→Prop) (A:Option Addr) (l:List Drv.LSt):Prop:=∃vs,ROT w S 54 3 A l.length vs∧∀i (h:i<l.length),LsK w S vs i l[i]
theorem AutK.only {w w':World}{S S':Nat→Prop}{A:Option Addr}{l:List Drv.LSt}(h:AutK w S A l) (ho:Only S w w') (hS:∀b,b<w.heap.size→S' b→S b):AutK w' S' A l:=by
 obtain⟨vs,h1,h2⟩:=h
 refine⟨vs,h1.only ho hS,fun i hi=>?_⟩
 have:=(h2 i hi).only ho hS []
 rwa [List.append_nil]at this
theorem AutK.aut {w:World}{S:Nat→Prop}{A:Option Addr}{l:List Drv.LSt}(h:AutK w S A l):AutR w w.heap.size A l:=by
 obtain⟨vs,h1,h2⟩:=h
 refine⟨vs,h1.ro.reads,fun i hi=>?_⟩
 obtain⟨AA,ac,EA,ec,e0,e1,e2,r0,r1⟩:=h2 i hi
 exact⟨AA,ac,EA,ec,e0,e1,e2,r0.reads,r1.ro.reads⟩
def KaI (wi:World) (ab:Nat) (l:List Drv.LSt) (k:Nat) (wr:World):Prop:=
 ∃v vs,RowBox wi ab (fun v=>#[v]) 50 54 3 k vs v wr∧∀i (h:i<l.length),i<k→LsK wr (fun j=>j<wi.heap.size∨v.ownBlock=some j) vs i l[i]
theorem ka_push {wi wr wn:World}{ab k gn cn nA nE:Nat}{l:List Drv.LSt}{x:Drv.LSt}{v:Value}{vs:List Value}{A1 EA:Option Addr}{c1 ec:Nat}(h:RowBox wi ab (fun v=>#[v]) 50 54 3 k vs v wr) (htb:ab<wi.heap.size)
 (hst:∀i (h:i<l.length),i<k→LsK wr (fun j=>j<wi.heap.size∨v.ownBlock=some j) vs i l[i]) (hk:k<l.length) (hx:l[k]=x) (hA:x.alts.length=nA) (hE:x.edges.length=nE)
 (rA:RO wr (fun j=>j<wi.heap.size∨v.ownBlock=some j) 1 A1 nA (x.alts.map (Value.int .i64))) (rE:ROT wr (fun j=>j<wi.heap.size∨v.ownBlock=some j) 62 2 EA nE (flat encLE x.edges))
 (hown:wn.ownsRow wi.heap.size 54 3 (.slice (some ⟨gn,0,none⟩) (k+1) cn) (k+1) (vs++ [.int .u8 x.kind,.slice A1 nA c1,.slice EA nE ec]))
 (hg:v.ownBlock=some gn∨wr.heap.size<gn) (ho:Only (fun j=>v.ownBlock=some j) wr wn):KaI wi ab l (k+1) (wn.setCell ⟨ab,0,none⟩ (.slice (some ⟨gn,0,none⟩) (k+1) cn)):=by
 have hK:=h.keep (o:=0) (m:=k+1) (cn:=cn) htb hg ho
 refine⟨_,_,h.push (o:=0) (by decide) hown ho rfl,fun i hi hik=>?_⟩
 rcases Nat.lt_succ_iff_lt_or_eq.1 hik with h1 | rfl
 ·exact(hst i hi h1).only hK.1 hK.2 _
 ·have hvl:vs.length=i*3:=h.own.1
  rw[hx]
  refine⟨A1,c1,EA,ec,?_,?_,?_,?_,?_⟩
  ·rw[List.getElem?_append_right (by omega),hvl];simp
  ·rw[List.getElem?_append_right (by omega),hvl,hA,show i*3+1-i*3=1 by omega];rfl
  ·rw[List.getElem?_append_right (by omega),hvl,hE,show i*3+2-i*3=2 by omega];rfl
  ·rw[hA];exact rA.only hK.1 hK.2
  ·rw[hE];exact rE.only hK.1 hK.2
def KkI (w:World) (au:List (List Drv.LSt)) (k:Nat) (o:Value) (wr:World):Prop:=
 Below w.heap.size w wr∧∃vs,wr.ownsRow w.heap.size 50 1 o k vs∧∀i (h:i<au.length),i<k→∃Ai ci,vs[i]? =some (.slice Ai au[i].length ci)∧AutK wr (fun j=>j<w.heap.size∨o.ownBlock=some j) Ai au[i]
theorem kk_push {w wr w6 wn:World}{au:List (List Drv.LSt)}{k gn cn nL c:Nat}{o:Value}{A:Option Addr}{vs:List Value}(hb:Below w.heap.size w wr) (hown:wr.ownsRow w.heap.size 50 1 o k vs)
 (hst:∀i (h:i<au.length),i<k→∃Ai ci,vs[i]? =some (.slice Ai au[i].length ci)∧AutK wr (fun j=>j<w.heap.size∨o.ownBlock=some j) Ai au[i]) (hb6:Below wr.heap.size wr w6) (hk:k<au.length) (hL:au[k].length=nL)
 (ha:AutK w6 (fun j=>j<wr.heap.size) A au[k]) (hn:wn.ownsRow w.heap.size 50 1 (.slice (some ⟨gn,0,none⟩) (k+1) cn) (k+1) (vs++ [.slice A nL c]))
 (hg:o.ownBlock=some gn∨w6.heap.size<gn) (ho:Only (fun j=>o.ownBlock=some j) w6 wn):KkI w au (k+1) (.slice (some ⟨gn,0,none⟩) (k+1) cn) wn:=by
 have s1:=hb.size
 have s2:=hb6.size
 have hlt:∀j,o.ownBlock=some j→w.heap.size≤j∧j<wr.heap.size:=fun j e=>World.ownsRow.lt hown j e
 have hO:Only (fun j=>j<w.heap.size∨o.ownBlock=some j) w6 wn:=ho.more fun _ _ e=>.inr e
 have hS:∀b,b<w6.heap.size→(b<w.heap.size∨(Value.slice (some ⟨gn,0,none⟩) (k+1) cn).ownBlock=some b)→(b<w.heap.size∨o.ownBlock=some b):=fun b hb e=>by
  rcases e with e | e
  ·exact .inl e
  ·have e:some gn=some b:=e
   injection e with e
   subst e
   rcases hg with h | h
   ·exact .inr h
   ·omega
 refine⟨(hb.trans (hb6.mono s1)).trans (ho.below' (fun j e=>(hlt j e).1) (by omega)),_,hn,fun i hi hik=>?_⟩
 have hvl:vs.length=k:=by have:=hown.1;omega
 rcases Nat.lt_succ_iff_lt_or_eq.1 hik with h1 | rfl
 ·obtain⟨Ai,ci,e1,e2⟩:=hst i hi h1
  refine⟨Ai,ci,by rw[List.getElem?_append_left (by omega)];exact e1,?_⟩
  exact(e2.only (S':=fun j=>j<w.heap.size∨o.ownBlock=some j) (Only.of_below hb6) (fun _ _ e=>e)).only hO hS
 ·refine⟨A,c,by rw[List.getElem?_append_right (by omega),hvl,hL];simp,?_⟩
  refine(ha.only (S':=fun j=>j<w.heap.size∨o.ownBlock=some j) (Only.refl _ _) (fun b _ e=>?_)).only hO hS
  rcases e with e | e
  ·omega
  ·exact(hlt b e).2
def TwK (w:World) (B g:Nat) (l:List Int):Prop:=w.ownsRow B 3 1 (.slice (some ⟨g,0,none⟩) (l.length+2) (l.length+2)) (l.length+2) ((l++ [-77,-77]).map (Value.int .i64))
theorem TwK.next {w w':World}{B g:Nat}{l:List Int}(h:TwK w B g l) (hb:Below w.heap.size w w'):TwK w' B g l:=ownsRow_only h (Only.of_below (S:=fun _=>False) hb) (fun _ _ e=>e)
theorem TwK.base {w:World}{B B' g:Nat}{l:List Int}(h:TwK w B g l) (hB:B'≤B):TwK w B' g l:=ownsRow_base h hB
theorem TwK.keep {w w':World}{B g:Nat}{l:List Int}{S:Nat→Prop}(h:TwK w B g l) (ho:Only S w w') (hS:¬S g):TwK w' B g l:=ownsRow_only h ho (fun k e=>by
 have e:some g=some k:=e
 injection e with e
 rw[←e];exact hS)
theorem TwK.ne {w:World}{B g b:Nat}{l:List Int}{cs:Array Value}{T:TypeId}(h:TwK w B g l) (hb:w.heap[b]? =some (.cells cs T (0,0))) (hT:3≠T):g≠b:=fun e=>row_not h hb hT (by rw[←e];rfl)
theorem TwK.lt {w:World}{B g:Nat}{l:List Int}(h:TwK w B g l):B≤g∧g<w.heap.size:=World.ownsRow.lt h g rfl
theorem TwK.rot {w:World}{B g:Nat}{l:List Int}{S:Nat→Prop}(h:TwK w B g l) (hS:¬S g):ROT w S 3 1 (some ⟨g,0,none⟩) l.length (l.map (Value.int .i64)):=by
 unfold TwK at h
 rw[List.map_append]at h
 exact ROT.of_row h (by simp) (by omega) (fun j e=>by
  have e:some g=some j:=e
  injection e with e
  rw[←e];exact hS)
def ncK (g1 g2 g3 g4 nT nU nQ nD:Nat) (v:Value):Array Value:=#[v,.slice (some ⟨g1,0,none⟩) nT (nT+2),.slice (some ⟨g2,0,none⟩) nU (nU+2),.slice (some ⟨g3,0,none⟩) nQ (nQ+2),.slice (some ⟨g4,0,none⟩) nD (nD+2)]
structure CbK (w8:World) (n:Drv.NNet) (nT nU nQ nD cb g1 g2 g3 g4:Nat) (wx:World):Prop where
 below:Below w8.heap.size w8 wx
 ge:w8.heap.size≤cb
 blk:wx.heap[cb]? =some (.cells (ncK g1 g2 g3 g4 nT nU nQ nD (.slice none 0 0)) 25 (0,0))
 r1:TwK wx w8.heap.size g1 n.starts
 r2:TwK wx w8.heap.size g2 n.stops
 r3:TwK wx w8.heap.size g3 n.preds
 r4:TwK wx w8.heap.size g4 n.decs
theorem cbk {w8 W:World}{n:Drv.NNet}{nT nU nQ nD cb g1 g2 g3 g4:Nat}{z0 z1 z2 z3 z4:Value}(hb:Below w8.heap.size w8 W) (hcb:w8.heap.size≤cb) (TB:W.heap[cb]? =some (.cells #[z0,z1,z2,z3,z4] 25 (0,0)))
 (r1:TwK W w8.heap.size g1 n.starts) (r2:TwK W w8.heap.size g2 n.stops) (r3:TwK W w8.heap.size g3 n.preds) (r4:TwK W w8.heap.size g4 n.decs):
 CbK w8 n nT nU nQ nD cb g1 g2 g3 g4 (((((W.setCell ⟨cb,0,none⟩ (.slice none 0 0)).setCell ⟨cb,1,none⟩ (.slice (some ⟨g1,0,none⟩) nT (nT+2))).setCell ⟨cb,2,none⟩ (.slice (some ⟨g2,0,none⟩) nU (nU+2))).setCell ⟨cb,3,none⟩ (.slice (some ⟨g3,0,none⟩) nQ (nQ+2))).setCell ⟨cb,4,none⟩ (.slice (some ⟨g4,0,none⟩) nD (nD+2))):=by
 obtain⟨hT,hO⟩:=setB5 (x:=.slice none 0 0) (y:=.slice (some ⟨g1,0,none⟩) nT (nT+2)) (z:=.slice (some ⟨g2,0,none⟩) nU (nU+2)) (u:=.slice (some ⟨g3,0,none⟩) nQ (nQ+2)) (v:=.slice (some ⟨g4,0,none⟩) nD (nD+2)) TB
 exact⟨hb.trans (hO.below' (fun j e=>by rw[e];exact hcb) hb.size),hcb,hT,r1.keep hO (r1.ne TB (by decide)),r2.keep hO (r2.ne TB (by decide)),r3.keep hO (r3.ne TB (by decide)),r4.keep hO (r4.ne TB (by decide))⟩
structure SbK (wr:World) (x:Drv.NSt) (sb:Nat) (E1:Option Addr) (nE e1 gx nX:Nat) (wx:World):Prop where
 below:Below wr.heap.size wr wx
 ge:wr.heap.size≤sb
 blk:wx.heap[sb]? =some (.cells #[.int .i64 x.rule,.slice E1 nE e1,.slice (some ⟨gx,0,none⟩) nX (nX+2)] 47 (0,0))
 edges:wx.ownsRow wr.heap.size 60 3 (.slice E1 nE e1) nE (flat encEd x.edges)
 ends:TwK wx wr.heap.size gx x.ends
theorem sbk {wr W:World}{x:Drv.NSt}{sb:Nat}{E1:Option Addr}{nE e1 gx nX:Nat}{z0 z1 z2:Value}(hb:Below wr.heap.size wr W) (hsb:wr.heap.size≤sb) (TB:W.heap[sb]? =some (.cells #[z0,z1,z2] 47 (0,0)))
 (rE:W.ownsRow wr.heap.size 60 3 (.slice E1 nE e1) nE (flat encEd x.edges)) (rX:TwK W wr.heap.size gx x.ends):
 SbK wr x sb E1 nE e1 gx nX (((W.setCell ⟨sb,0,none⟩ (.int .i64 x.rule)).setCell ⟨sb,1,none⟩ (.slice E1 nE e1)).setCell ⟨sb,2,none⟩ (.slice (some ⟨gx,0,none⟩) nX (nX+2))):=by
 obtain⟨hT,hO⟩:=set3 (x:=.int .i64 x.rule) (y:=.slice E1 nE e1) (z:=.slice (some ⟨gx,0,none⟩) nX (nX+2)) TB
 exact⟨hb.trans (hO.below' (fun j e=>by rw[e];exact hsb) hb.size),hsb,hT,ownsRow_only rE hO (fun b hb e=>row_not rE TB (by decide) (by rw[hb,e])),rX.keep hO (rX.ne TB (by decide))⟩
theorem kc_net {w8 w9 w10:World}{n:Drv.NNet}{nT nU nQ nD cb g1 g2 g3 g4 k:Nat}{VV:Option Addr}{vc:Nat}{vs:List Value}(CB:CbK w8 n nT nU nQ nD cb g1 g2 g3 g4 w9) (hk:n.states.length=k)
 (hR:RowBox w9 cb (ncK g1 g2 g3 g4 nT nU nQ nD) 25 47 3 k vs (.slice VV k vc) w10) (hst:∀i (h:i<n.states.length),i<k→StK w10 (fun j=>j<w9.heap.size∨(Value.slice VV k vc).ownBlock=some j) vs i n.states[i]):
 NetR w10 w10.heap.size VV (some ⟨g1,0,none⟩) (some ⟨g2,0,none⟩) (some ⟨g3,0,none⟩) (some ⟨g4,0,none⟩) n:=by
 have tw:∀{g:Nat}{l:List Int},TwK w9 w8.heap.size g l→Reads w10 w10.heap.size 1 (some ⟨g,0,none⟩) l.length (l.map (Value.int .i64)):=fun {g l} r=>
  ((r.keep hR.only (r.ne CB.blk (by decide))).rot (S:=fun _=>False) (fun e=>e)).ro.reads
 refine⟨⟨vs,?_,fun i hi=>?_⟩,tw CB.r1,tw CB.r2,tw CB.r3,tw CB.r4⟩
 ·rw[hk];exact Reads.of_own hR.own
 ·obtain⟨EA,ec,XA,xc,e0,e1,e2,r0,r1⟩:=hst i hi (by omega)
  exact⟨EA,ec,XA,xc,e0,e1,e2,r0.ro.reads,r1.reads⟩
theorem kk_aus {w10 wr:World}{au:List (List Drv.LSt)}{k:Nat}{A:Option Addr}{c:Nat}(hk:au.length=k) (h:KkI w10 au k (.slice A k c) wr):AusR wr wr.heap.size A au:=by
 obtain⟨_,vs,h1,h2⟩:=h
 refine⟨vs,by rw[hk];exact Reads.of_own h1,fun i hi=>?_⟩
 obtain⟨Ai,ci,e1,e2⟩:=h2 i hi (by omega)
 exact⟨Ai,ci,e1,e2.aut⟩
theorem ka_aut {wr wi wq:World}{ab k:Nat}{l:List Drv.LSt}{VA:Option Addr}{vc:Nat}{vs:List Value}(hk:l.length=k) (hR:RowBox wi ab (fun v=>#[v]) 50 54 3 k vs (.slice VA k vc) wq) (hb:wr.heap.size≤wi.heap.size)
 (hst:∀i (h:i<l.length),i<k→LsK wq (fun j=>j<wi.heap.size∨(Value.slice VA k vc).ownBlock=some j) vs i l[i]):AutK wq (fun j=>j<wr.heap.size) VA l:=by
 refine⟨vs,by rw[hk];exact ROT.of_row0 hR.own (fun j hj e=>by have:=(World.ownsRow.lt hR.own j hj).1;omega),fun i hi=>?_⟩
 have:=(hst i hi (by omega)).only (S':=fun j=>j<wr.heap.size) (Only.refl _ _) (fun b _ e=>.inl (by omega)) []
 rwa [List.append_nil]at this
theorem TwK.blk {w:World}{B g:Nat}{l:List Int}(h:TwK w B g l):∃arr:Array Value,w.heap[g]? =some (.cells arr 3 (0,0))∧l.length≤arr.size:=by
 rcases h.2 with⟨h0,_⟩ | ⟨g',cap,cur,hv,_,hh,h1,_,h3,_⟩
 ·cases h0
 ·injection hv with hv
  injection hv with hv
  injection hv with hv
  subst hv
  exact⟨cur,hh,by omega⟩
theorem ROT.blk {w:World}{S:Nat→Prop}{T:TypeId}{size n:Nat}{A:Option Addr}{xs:List Value}(h:ROT w S T size A n xs) (hn:0<n*size):∃(b:Nat) (arr:Array Value),A=some ⟨b,0,none⟩∧¬S b∧w.heap[b]? =some (.cells arr T (0,0))∧n*size≤arr.size∧∀(j:Nat) (u:Value),xs[j]? =some u→arr[j]? =some u:=by
 obtain⟨b,arr,e,h1,h2,h3⟩:=h.2 (Nat.pos_of_ne_zero fun e=>by rw[e,Nat.zero_mul]at hn;exact absurd hn (Nat.lt_irrefl 0))
 refine⟨b,arr,e,h1,h2,?_,h3⟩
 have hx:n*size-1<xs.length:=by rw[h.1];omega
 have:=(Array.getElem?_eq_some_iff.1 (h3 _ _ (List.getElem?_eq_getElem hx))).1
 omega
structure SubW (A:Option Addr) (m:Nat) (w wr:World):Prop where
 only:Only (fun j=>(Value.slice A m m).ownBlock=some j) w wr
 shape:∀(b:Nat) (arr:Array Value) (T:TypeId),w.heap[b]? =some (.cells arr T (0,0))→∃arr':Array Value,wr.heap[b]? =some (.cells arr' T (0,0))∧arr'.size=arr.size
 still:m=0→wr=w
theorem SubW.refl (A:Option Addr) (m:Nat) (w:World):SubW A m w w:=⟨Only.refl _ _,fun _ arr _ h=>⟨arr,h,rfl⟩,fun _=>rfl⟩
theorem SubW.cell {A:Option Addr}{m:Nat}{w wr:World}(h:SubW A m w wr){b:Nat}{arr:Array Value}{T:TypeId}(hb:w.heap[b]? =some (.cells arr T (0,0))){i:Nat}(hi:i<arr.size):(∃u,wr.cell? ⟨b,i,none⟩=some u)∧wr.frozen? ⟨b,i,none⟩=false:=by
 obtain⟨a2,g2,g3⟩:=h.shape b arr T hb
 exact⟨⟨a2[i]'(by omega),by rw[Lib.cell_of_heap g2];exact Array.getElem?_eq_getElem _⟩,Lib.frozen_of_heap g2 i⟩
theorem SubW.set {ab m:Nat}{w wr:World}(h:SubW (some ⟨ab,0,none⟩) m w wr) (hm:0<m) (i:Nat) (x:Value):SubW (some ⟨ab,0,none⟩) m w (wr.setCell ⟨ab,i,none⟩ x):=by
 refine⟨h.only.trans (Only.of_set wr ab i x) fun j _ e=>by rw[e];rfl,fun b' arr' T' hb'=>?_,fun e=>by omega⟩
 obtain⟨a2,g2,g3⟩:=h.shape b' arr' T' hb'
 by_cases e:b'=ab
 ·subst e
  exact⟨_,heap_setCell_same wr b' i _ _ x g2,by rw[Array.size_setIfInBounds];exact g3⟩
 ·exact⟨a2,by rw[heap_setCell_other wr _ _ _ e];exact g2,g3⟩
def WrB (H0 H1:Nat) (wN:World) (b:Nat):Prop:=H0≤b∧b<H1∧∃(arr:Array Value) (T:TypeId),wN.heap[b]? =some (.cells arr T (0,0))∧T∈[47,60,3,54,62]
structure Wr (H0 H1:Nat) (wN wr:World):Prop where
 only:Only (WrB H0 H1 wN) wN wr
 shape:∀(b:Nat) (arr:Array Value) (T:TypeId),wN.heap[b]? =some (.cells arr T (0,0))→∃arr':Array Value,wr.heap[b]? =some (.cells arr' T (0,0))∧arr'.size=arr.size
 hdr:∀(b:Nat) (arr:Array Value) (T:TypeId),wN.heap[b]? =some (.cells arr T (0,0))→T∈[47,54]→∀i,i % 3≠0→wr.cell? ⟨b,i,none⟩=wN.cell? ⟨b,i,none⟩
theorem Wr.refl (H0 H1:Nat) (w:World):Wr H0 H1 w w:=⟨Only.refl _ _,fun _ arr _ h=>⟨arr,h,rfl⟩,fun _ _ _ _ _ _ _=>rfl⟩
theorem Wr.set {H0 H1:Nat}{wN wr:World}(h:Wr H0 H1 wN wr){b:Nat}{arr:Array Value}{T:TypeId}(h0:H0≤b) (h1:b<H1) (hb:wN.heap[b]? =some (.cells arr T (0,0))) (hT:T∈[47,60,3,54,62])
 (i:Nat) (x:Value) (hi:T∈[47,54]→i % 3=0):Wr H0 H1 wN (wr.setCell ⟨b,i,none⟩ x):=by
 have hW:WrB H0 H1 wN b:=⟨h0,h1,arr,T,hb,hT⟩
 refine⟨h.only.trans (Only.of_set wr b i x) fun j _ e=>by rw[e];exact hW,fun b' arr' T' hb'=>?_,fun b' arr' T' hb' hT' j hj=>?_⟩
 ·obtain⟨a2,g2,g3⟩:=h.shape b' arr' T' hb'
  by_cases e:b'=b
  ·subst e
   exact⟨_,heap_setCell_same wr b' i _ _ x g2,by rw[Array.size_setIfInBounds];exact g3⟩
  ·exact⟨a2,by rw[heap_setCell_other wr _ _ _ e];exact g2,g3⟩
 ·by_cases e:b'=b
  ·subst e
   rw[hb]at hb'
   injection hb' with hb'
   injection hb' with _ hTT _
   subst hTT
   have hm:=hi hT'
   have hij:¬i=j:=fun e=>hj (by rw[←e];exact hm)
   rw[←h.hdr b' _ _ hb hT' j hj]
   exact World.cell?_setCell_other _ _ _ _ (fun e=>hij (by injection e))
  ·rw[←h.hdr b' _ _ hb' hT' j hj]
   simp only[World.cell?]
   rw[heap_setCell_other wr _ _ _ e]
theorem Wr.cell {H0 H1:Nat}{wN wr:World}(h:Wr H0 H1 wN wr){b:Nat}{arr:Array Value}{T:TypeId}(hb:wN.heap[b]? =some (.cells arr T (0,0))){i:Nat}(hi:i<arr.size):(∃u,wr.cell? ⟨b,i,none⟩=some u)∧wr.frozen? ⟨b,i,none⟩=false:=by
 obtain⟨a2,g2,g3⟩:=h.shape b arr T hb
 exact⟨⟨a2[i]'(by omega),by rw[Lib.cell_of_heap g2];exact Array.getElem?_eq_getElem _⟩,Lib.frozen_of_heap g2 i⟩
theorem Wr.kept {H0 H1:Nat}{wN wr:World}(h:Wr H0 H1 wN wr){b:Nat}{arr:Array Value}{T:TypeId}(hb:wN.heap[b]? =some (.cells arr T (0,0))) (hT:T∉[47,60,3,54,62]):wr.heap[b]? =some (.cells arr T (0,0)):=
 (h.only.block b (heap_lt hb) fun e=>by
  obtain⟨_,_,a2,T2,g,g2⟩:=e
  rw[hb]at g
  injection g with g
  injection g with _ g _
  subst g
  exact hT g2).trans hb
theorem Wr.below {H0 H1:Nat}{wN wr:World}(h:Wr H0 H1 wN wr) (hH:H0≤wN.heap.size):Below H0 wN wr:=h.only.below' (fun _ e=>e.1) hH
theorem Wr.up {H0 H1:Nat}{wN wr:World}(h:Wr H0 H1 wN wr):Up H1 wN wr:=⟨h.only.size,fun k hk hl=>h.only.block k hl fun e=>by have:=e.2.1;omega⟩
end Go.Proofs.Ytgflanlniejflaa
