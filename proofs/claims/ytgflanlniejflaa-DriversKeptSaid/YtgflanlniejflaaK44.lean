/-
  Drivers: Rbx, Ota (texts joined).
-/
import Derived.Deep.CutRange
import Derived.Test.YtgflanlniejflaaK10
import Derived.Test.YtgflanlniejflaaK12
import Derived.Test.YtgflanlniejflaaK22
import Derived.Test.YtgflanlniejflaaK32
namespace Go.Proofs.Ytgflanlniejflaa
open Go.RowKit
set_option maxRecDepth 100000
structure RowBox (w0:World) (tb:Nat) (cs:Value→Array Value) (T e:TypeId) (size k:Nat) (xs:List Value) (v:Value) (wr:World):Prop where
 only:Only (fun j=>j=tb) w0 wr
 blk:wr.heap[tb]? =some (.cells (cs v) T (0,0))
 own:wr.ownsRow w0.heap.size e size v k xs
theorem RowBox.start {w0:World}{tb:Nat}{cs:Value→Array Value}{T e:TypeId}{size:Nat}(h:w0.heap[tb]? =some (.cells (cs (.slice none 0 0)) T (0,0))):RowBox w0 tb cs T e size 0 [] (.slice none 0 0) w0:=
 ⟨Only.refl _ _,h,World.ownsRow_nil _ _ _ _⟩
theorem RowBox.next {w0 wr wr':World}{tb:Nat}{cs:Value→Array Value}{T e:TypeId}{size k:Nat}{xs:List Value}{v:Value}(h:RowBox w0 tb cs T e size k xs v wr) (hb:Below wr.heap.size wr wr'):RowBox w0 tb cs T e size k xs v wr':=
 ⟨h.only.trans (Only.of_below (S:=fun j=>j=tb) hb) (fun _ _ e=>e),(hb.block _ (heap_lt h.blk)).trans h.blk,ownsRow_only h.own (Only.of_below (S:=fun _=>False) hb) (fun _ _ e=>e)⟩
theorem RowBox.ne {w0 wr:World}{tb:Nat}{cs:Value→Array Value}{T e:TypeId}{size k:Nat}{xs:List Value}{v:Value}(h:RowBox w0 tb cs T e size k xs v wr) (hne:e≠T):v.ownBlock≠some tb:=row_not h.own h.blk hne
theorem RowBox.push {w0 wr wn:World}{tb o:Nat}{cs:Value→Array Value}{T e:TypeId}{size k:Nat}{xs ys:List Value}{v v':Value}(h:RowBox w0 tb cs T e size k xs v wr) (hne:e≠T)
 (hown:wn.ownsRow w0.heap.size e size v' (k+1) (xs++ys)) (ho:Only (fun j=>v.ownBlock=some j) wr wn) (hc:(cs v).setIfInBounds o v'=cs v'):
 RowBox w0 tb cs T e size (k+1) (xs++ys) v' (wn.setCell ⟨tb,o,none⟩ v'):=by
 have t2:wn.heap[tb]? =some (.cells (cs v) T (0,0)):=(ho.block tb (heap_lt h.blk) (h.ne hne)).trans h.blk
 refine⟨⟨?_,?_,?_,?_,fun j hj hn=>?_⟩,?_,own_setTb hown t2 hne⟩
 ·exact(Only.of_set wn tb o v').os.trans (ho.os.trans h.only.os)
 ·exact(Only.of_set wn tb o v').tape.trans (ho.tape.trans h.only.tape)
 ·exact(Only.of_set wn tb o v').output.trans (ho.output.trans h.only.output)
 ·exact Nat.le_trans h.only.size (Nat.le_trans ho.size (Only.of_set wn tb o v').size)
 ·have h1:=h.only.size
  have h2:=ho.size
  rw[(Only.of_set wn tb o v').block j (by omega) hn,ho.block j (by omega) (fun e=>by have:=(World.ownsRow.lt h.own j e).1;omega)]
  exact h.only.block j hj hn
 ·rw[←hc];exact heap_setCell_same wn tb o _ _ _ t2
theorem RowBox.keep {w0 wr wn:World}{tb o:Nat}{cs:Value→Array Value}{T e:TypeId}{size k:Nat}{xs:List Value}{v:Value}{gn cn m:Nat}(_h:RowBox w0 tb cs T e size k xs v wr) (htb:tb<w0.heap.size)
 (hg:v.ownBlock=some gn∨wr.heap.size<gn) (ho:Only (fun j=>v.ownBlock=some j) wr wn):
 Only (fun j=>j<w0.heap.size∨v.ownBlock=some j) wr (wn.setCell ⟨tb,o,none⟩ (.slice (some ⟨gn,0,none⟩) m cn))∧∀b,b<wr.heap.size→(b<w0.heap.size∨(Value.slice (some ⟨gn,0,none⟩) m cn).ownBlock=some b)→(b<w0.heap.size∨v.ownBlock=some b):=by
 refine⟨(ho.more fun _ _ e=>.inr e).trans (Only.of_set wn tb o _) fun b _ e=>.inl (by rw[e];exact htb),fun b hb e=>?_⟩
 rcases e with e | e
 ·exact .inl e
 ·have e:some gn=some b:=e
  injection e with e
  subst e
  rcases hg with h | h
  ·exact .inr h
  ·omega
theorem RowBox.fresh {w0 wr:World}{tb g:Nat}{cs:Value→Array Value}{T e:TypeId}{size k:Nat}{xs:List Value}{v:Value}(h:RowBox w0 tb cs T e size k xs v wr) (hg:wr.heap.size≤g):¬(g<w0.heap.size∨v.ownBlock=some g):=by
 rintro(e | e)
 ·have:=h.only.size;omega
 ·have:=(World.ownsRow.lt h.own g e).2;omega
theorem set3 {w:World}{sb:Nat}{a b c x y z:Value}{T:TypeId}(h:w.heap[sb]? =some (.cells #[a,b,c] T (0,0))):
 (((w.setCell ⟨sb,0,none⟩ x).setCell ⟨sb,1,none⟩ y).setCell ⟨sb,2,none⟩ z).heap[sb]? =some (.cells #[x,y,z] T (0,0))∧Only (fun j=>j=sb) w (((w.setCell ⟨sb,0,none⟩ x).setCell ⟨sb,1,none⟩ y).setCell ⟨sb,2,none⟩ z):=by
 have h1:=heap_setCell_same w sb 0 _ _ x h
 have h2:=heap_setCell_same _ sb 1 _ _ y h1
 have h3:=heap_setCell_same _ sb 2 _ _ z h2
 exact⟨h3,((Only.of_set w sb 0 x).trans (Only.of_set _ sb 1 y) fun _ _ e=>e).trans (Only.of_set _ sb 2 z) fun _ _ e=>e⟩
theorem setB5 {w:World}{sb:Nat}{a b c d e x y z u v:Value}{T:TypeId}(h:w.heap[sb]? =some (.cells #[a,b,c,d,e] T (0,0))):
 (((((w.setCell ⟨sb,0,none⟩ x).setCell ⟨sb,1,none⟩ y).setCell ⟨sb,2,none⟩ z).setCell ⟨sb,3,none⟩ u).setCell ⟨sb,4,none⟩ v).heap[sb]? =some (.cells #[x,y,z,u,v] T (0,0))∧Only (fun j=>j=sb) w (((((w.setCell ⟨sb,0,none⟩ x).setCell ⟨sb,1,none⟩ y).setCell ⟨sb,2,none⟩ z).setCell ⟨sb,3,none⟩ u).setCell ⟨sb,4,none⟩ v):=by
 have h1:=heap_setCell_same w sb 0 _ _ x h
 have h2:=heap_setCell_same _ sb 1 _ _ y h1
 have h3:=heap_setCell_same _ sb 2 _ _ z h2
 have h4:=heap_setCell_same _ sb 3 _ _ u h3
 have h5:=heap_setCell_same _ sb 4 _ _ v h4
 exact⟨h5,((((Only.of_set w sb 0 x).trans (Only.of_set _ sb 1 y) fun _ _ e=>e).trans (Only.of_set _ sb 2 z) fun _ _ e=>e).trans (Only.of_set _ sb 3 u) fun _ _ e=>e).trans (Only.of_set _ sb 4 v) fun _ _ e=>e⟩
def StVfO (w:World) (S:Nat→Prop) (B:Nat) (vs:List Value) (i:Nat) (s:Drv.NSt):Prop:=
 ∃EA ec XA xc,vs[i*3]? =some (.int .i64 s.rule)∧vs[i*3+1]? =some (.slice EA s.edges.length ec)∧vs[i*3+2]? =some (.slice XA s.ends.length xc)∧RO w S 3 EA s.edges.length (flat encEf s.edges)∧Reads w B 1 XA s.ends.length (s.ends.map (Value.int .i64))
theorem StVfO.only {w w':World}{S S':Nat→Prop}{B:Nat}{vs:List Value}{i:Nat}{s:Drv.NSt}(h:StVfO w S B vs i s) (ho:Only S w w') (hS:∀b,b<w.heap.size→S' b→S b) (hB:Below B w w') (vs':List Value):StVfO w' S' B (vs++vs') i s:=by
 obtain⟨AA,ac,EA,ec,e0,e1,e2,r0,r1⟩:=h
 have hl:∀{j:Nat}{v:Value},vs[j]? =some v→(vs++vs')[j]? =some v:=fun {j v} h=>by
  rw[List.getElem?_append_left (List.getElem?_eq_some_iff.1 h).1];exact h
 exact⟨AA,ac,EA,ec,hl e0,hl e1,hl e2,r0.only ho hS,r1.below hB⟩
def AuVfO (w:World) (S:Nat→Prop) (vs:List Value) (i:Nat) (s:Drv.LSt):Prop:=
 ∃AA ac EA ec,vs[i*3]? =some (.int .i64 s.kind)∧vs[i*3+1]? =some (.slice AA s.alts.length ac)∧vs[i*3+2]? =some (.slice EA s.edges.length ec)∧RO w S 1 AA s.alts.length (s.alts.map (Value.int .i64))∧RO w S 2 EA s.edges.length (flat encLE s.edges)
theorem AuVfO.only {w w':World}{S S':Nat→Prop}{vs:List Value}{i:Nat}{s:Drv.LSt}(h:AuVfO w S vs i s) (ho:Only S w w') (hS:∀b,b<w.heap.size→S' b→S b) (vs':List Value):AuVfO w' S' (vs++vs') i s:=by
 obtain⟨AA,ac,EA,ec,e0,e1,e2,r0,r1⟩:=h
 have hl:∀{j:Nat}{v:Value},vs[j]? =some v→(vs++vs')[j]? =some v:=fun {j v} h=>by
  rw[List.getElem?_append_left (List.getElem?_eq_some_iff.1 h).1];exact h
 exact⟨AA,ac,EA,ec,hl e0,hl e1,hl e2,r0.only ho hS,r1.only ho hS⟩
def AutRO (w:World) (S:Nat→Prop) (A:Option Addr) (l:List Drv.LSt):Prop:=∃vs,RO w S 3 A l.length vs∧∀i (h:i<l.length),AuVfO w S vs i l[i]
theorem AutRO.only {w w':World}{S S':Nat→Prop}{A:Option Addr}{l:List Drv.LSt}(h:AutRO w S A l) (ho:Only S w w') (hS:∀b,b<w.heap.size→S' b→S b):AutRO w' S' A l:=by
 obtain⟨vs,h1,h2⟩:=h
 refine⟨vs,h1.only ho hS,fun i hi=>?_⟩
 have:=(h2 i hi).only ho hS []
 rwa [List.append_nil]at this
theorem AutRO.aut {w:World}{S:Nat→Prop}{A:Option Addr}{l:List Drv.LSt}(h:AutRO w S A l):AutRf w w.heap.size A l:=by
 obtain⟨vs,h1,h2⟩:=h
 refine⟨vs,h1.reads,fun i hi=>?_⟩
 obtain⟨AA,ac,EA,ec,e0,e1,e2,r0,r1⟩:=h2 i hi
 exact⟨AA,ac,EA,ec,e0,e1,e2,r0.reads,r1.reads⟩
end Go.Proofs.Ytgflanlniejflaa
namespace Go.Proofs.Ytgflanlniejflaa
open Go.RowKit Go.Maps
set_option maxRecDepth 100000
def OtP (w:World) (a:List Drv.LSt) (e:Ending) (w':World):Prop:=
 ∃A c,e= .returned (.agg #[.slice A a.length c])∧Below w.heap.size w w'∧AutRO w' (fun j=>j<w.heap.size) A a
def OtI (w3:World) (b2:Nat) (a:List Drv.LSt) (k:Nat) (wr:World):Prop:=
 ∃v vs,RowBox w3 b2 (fun v=>#[v]) 89 124 3 k vs v wr∧∀i (h:i<a.length),i<k→AuVfO wr (fun j=>j<w3.heap.size∨v.ownBlock=some j) vs i a[i]
theorem ot_push {w3 wr wn:World}{b2 k gn cn nA nE:Nat}{a:List Drv.LSt}{x:Drv.LSt}{v:Value}{vs:List Value}{A1 EA:Option Addr}{c1 ec:Nat}(h:RowBox w3 b2 (fun v=>#[v]) 89 124 3 k vs v wr) (htb:b2<w3.heap.size)
 (hst:∀i (h:i<a.length),i<k→AuVfO wr (fun j=>j<w3.heap.size∨v.ownBlock=some j) vs i a[i]) (hk:k<a.length) (hx:a[k]=x) (hA:x.alts.length=nA) (hE:x.edges.length=nE)
 (rA:RO wr (fun j=>j<w3.heap.size∨v.ownBlock=some j) 1 A1 nA (x.alts.map (Value.int .i64))) (rE:RO wr (fun j=>j<w3.heap.size∨v.ownBlock=some j) 2 EA nE (flat encLE x.edges))
 (hown:wn.ownsRow w3.heap.size 124 3 (.slice (some ⟨gn,0,none⟩) (k+1) cn) (k+1) (vs++ [.int .i64 x.kind,.slice A1 nA c1,.slice EA nE ec]))
 (hg:v.ownBlock=some gn∨wr.heap.size<gn) (ho:Only (fun j=>v.ownBlock=some j) wr wn):OtI w3 b2 a (k+1) (wn.setCell ⟨b2,0,none⟩ (.slice (some ⟨gn,0,none⟩) (k+1) cn)):=by
 have hK:=h.keep (o:=0) (m:=k+1) (cn:=cn) htb hg ho
 refine⟨_,_,h.push (o:=0) (by decide) hown ho rfl,fun i hi hik=>?_⟩
 rcases Nat.lt_succ_iff_lt_or_eq.1 hik with h1 | rfl
 ·exact(hst i hi h1).only hK.1 hK.2 _
 ·have hvl:vs.length=i*3:=h.own.1
  rw[hx]
  refine⟨A1,c1,EA,ec,?_,?_,?_,?_,?_⟩
  ·rw[List.getElem?_append_right (by omega),hvl];simp
  ·rw[List.getElem?_append_right (by omega),hvl,hA,show i*3+1-i*3=1 by omega];rfl
  ·rw[List.getElem?_append_right (by omega),hvl,hE,show i*3+2-i*3=2 by omega];rfl
  ·rw[hA];exact rA.only hK.1 hK.2
  ·rw[hE];exact rE.only hK.1 hK.2
theorem infoRLS:(Try.prog.info? 124).map (fun i=>(i.zero,i.size,i.bytes))=some (some (.agg #[.int .i64 0,.slice none 0 0,.slice none 0 0]),3,56):=by kernel_rfl
theorem infoRLE:(Try.prog.info? 125).map (fun i=>(i.zero,i.size,i.bytes))=some (some (.agg #[.int .i64 0,.int .i64 0]),2,16):=by kernel_rfl
theorem infoRAP:(Try.prog.info? 89).map (·.size)=some 1:=by kernel_rfl
def St5 (wr:World) (x:Drv.LSt) (sb:Nat) (A1:Option Addr) (nA c1:Nat) (wx:World):Prop:=
 Below wr.heap.size wr wx∧wr.heap.size≤sb∧wx.heap[sb]? =some (.cells #[.int .i64 x.kind,.slice A1 nA c1,.slice none 0 0] 124 (0,0))∧wx.ownsRow wr.heap.size 3 1 (.slice A1 nA c1) nA (x.alts.map (Value.int .i64))
theorem st5_after {wr wd w1:World}{x:Drv.LSt}{A1:Option Addr}{nA c1:Nat}(hd:Below wr.heap.size wr wd) (h1:Below wd.heap.size wd w1) (hown:w1.ownsRow wd.heap.size 3 1 (.slice A1 nA c1) nA (x.alts.map (Value.int .i64)))
 {w2:World}{z:Value}{z1 z2:Value}(hb2:Below w1.heap.size w1 w2) (T2:w2.heap[w1.heap.size]? =some (.cells #[z,z1,z2] 124 (0,0))):
 St5 wr x w1.heap.size A1 nA c1 (((w2.setCell ⟨w1.heap.size,0,none⟩ (.int .i64 x.kind)).setCell ⟨w1.heap.size,1,none⟩ (.slice A1 nA c1)).setCell ⟨w1.heap.size,2,none⟩ (.slice none 0 0)):=by
 obtain⟨hT,hO⟩:=set3 (x:=.int .i64 x.kind) (y:=.slice A1 nA c1) (z:=.slice none 0 0) T2
 have s1:=hd.size
 have s2:=h1.size
 have s3:=hb2.size
 have hb12:Below wr.heap.size wr w1:=hd.trans (h1.mono hd.size)
 refine⟨(hb12.trans (hb2.mono hb12.size)).trans (hO.below' (fun j e=>by rw[e];omega) (by omega)),by omega,hT,?_⟩
 have o2:=(ownsRow_only hown (Only.of_below (S:=fun _=>False) hb2) (fun _ _ e=>e))
 exact ownsRow_base (ownsRow_only o2 hO (fun b hb e=>row_not o2 T2 (by decide) (by rw[hb,e]))) s1
theorem st5_before {wr wd w1:World}{x:Drv.LSt}{A1:Option Addr}{nA c1:Nat}{z z1 z2:Value}(hd:Below wr.heap.size wr wd) (hb1:Below wd.heap.size wd w1){w2:World}(T1:w1.heap[wd.heap.size]? =some (.cells #[z,z1,z2] 124 (0,0))) (h2:Below w1.heap.size w1 w2)
 (hown:w2.ownsRow w1.heap.size 3 1 (.slice A1 nA c1) nA (x.alts.map (Value.int .i64))):
 St5 wr x wd.heap.size A1 nA c1 (((w2.setCell ⟨wd.heap.size,0,none⟩ (.int .i64 x.kind)).setCell ⟨wd.heap.size,1,none⟩ (.slice A1 nA c1)).setCell ⟨wd.heap.size,2,none⟩ (.slice none 0 0)):=by
 have T2:=(h2.block _ (heap_lt T1)).trans T1
 obtain⟨hT,hO⟩:=set3 (x:=.int .i64 x.kind) (y:=.slice A1 nA c1) (z:=.slice none 0 0) T2
 have s1:=hd.size
 have s2:=hb1.size
 have s3:=h2.size
 have hb12:Below wr.heap.size wr w1:=hd.trans (hb1.mono hd.size)
 refine⟨(hb12.trans (h2.mono hb12.size)).trans (hO.below' (fun j e=>by rw[e];omega) (by omega)),by omega,hT,?_⟩
 exact ownsRow_base (ownsRow_only hown hO (fun b hb e=>row_not hown T2 (by decide) (by rw[hb,e]))) (by omega)
set_option maxHeartbeats 6400000 in
theorem autOther_any (w:World) (a:List Drv.LSt) (A:Option Addr) (c:Nat) (h:AutR w w.heap.size A a) (hs:AutS a) (hkd:∀s∈a,0≤s.kind∧s.kind≤255):
 Calls Try.prog 24 #[.agg #[.slice A a.length c]] w (OtP w a):=by
 obtain⟨n,hn⟩:∃n,a.length=n:=⟨_,rfl⟩
 have H:=hid h
 have HS:=hid hs
 have HKD:=hid hkd
 have l1:=hs.1
 rw[hn]at l1⊢
 have HN:=hid hn
 clear h hs hn hkd
 obtain⟨w1,hw1⟩:∃w1,w1=w.alloc (.cells #[.slice A n c] 50):=⟨_,rfl⟩
 obtain⟨w2,hw2⟩:∃w2,w2=w1.alloc (.cells #[.slice none 0 0] 89):=⟨_,rfl⟩
 obtain⟨w3,hw3⟩:∃w3,w3=w2.alloc (.cells #[.slice none 0 0] 89):=⟨_,rfl⟩
 have HW:=hid (show((w.alloc (.cells #[.slice A n c] 50)).alloc (.cells #[.slice none 0 0] 89)).alloc (.cells #[.slice none 0 0] 89)=w3 by rw[hw3,hw2,hw1])
 have z1:w1.heap.size=w.heap.size+1:=by rw[hw1];simp
 have z2:w2.heap.size=w.heap.size+1+1:=by rw[hw2];simp[z1]
 have z3:w3.heap.size=w.heap.size+1+1+1:=by rw[hw3];simp[z2]
 have b1:Below w.heap.size w w1:=by rw[hw1];exact below_new _ _
 have b2:Below w.heap.size w w2:=by rw[hw2];exact b1.alloc (by omega) _
 have b3:Below w.heap.size w w3:=by rw[hw3];exact b2.alloc (by omega) _
 have T1:w3.heap[w.heap.size]? =some (.cells #[.slice A n c] 50 (0,0)):=by
  rw[hw3,Below.heap_alloc _ _ _ (by omega),hw2,Below.heap_alloc _ _ _ (by omega),hw1];exact heap_alloc_new _ _
 have T2:w3.heap[w.heap.size+1]? =some (.cells #[.slice none 0 0] 89 (0,0)):=by
  rw[hw3,Below.heap_alloc _ _ _ (by omega),hw2,←z1];exact heap_alloc_new _ _
 have T3:w3.heap[w.heap.size+1+1]? =some (.cells #[.slice none 0 0] 89 (0,0)):=by
  rw[hw3,←z2];exact heap_alloc_new _ _
 have HI0:Hid (OtI w3 (w.heap.size+1+1) a 0 w3):=hid ⟨_,_,RowBox.start T3,fun _ _ h=>absurd h (Nat.not_lt_zero _)⟩
 have HB3:=hid b3
 have HT1:=hid T1
 have HT2:=hid T2
 clear hw1 hw2 hw3 b1 b2 b3 T1 T2 T3 z1 z2
 go_enter Try.func24,Try.ntmps24
 go_upto_region 2 with fail
 rw[HW.out]
 clear HW
 go_wp2_with fail
 go_loopw[4] (fun i wr=>∃k:Nat,k≤n∧i= .int .i64 k∧Hid (OtI w3 (w.heap.size+1+1) a k wr)) (fun i _=>n-(intOf i).toNat)
 case atStart=>exact⟨0,by omega,by simp,HI0⟩
 case round=>
  clear HI0
  obtain⟨k,hk,rfl,hH⟩:=hrel
  obtain⟨v,vs,hR,hst⟩:=hH.out
  generalize hb2:w.heap.size+1+1=b2 at hR hH⊢
  have hb2l:b2<w3.heap.size:=by omega
  have c1:wr.cell? ⟨w.heap.size,0,none⟩=some (.slice A n c):=(hR.only.cell (b:=w.heap.size) (o:=0) (by omega) (by omega)).trans (by rw[Lib.cell_of_heap HT1.out];rfl)
  have hB:Below w.heap.size w wr:=hR.only.below (fun j e=>by omega) HB3.out (by omega)
  by_cases hlt:k<n
  ·have hkl:k<a.length:=by rw[HN.out];exact hlt
   have hAr:=H.out.below hB
   obtain⟨b,off,AA,ac,EA,ec,rfl,hbl,e0,e1,e2,r0,r1⟩:=hAr.at hkl
   have hsz:=HS.out.2 _ (List.getElem_mem hkl)
   have hkd:=HKD.out _ (List.getElem_mem hkl)
   generalize hxk:a[k]=x at e0 e1 e2 r0 r1 hsz hkd
   obtain⟨nA,hnA⟩:∃m,x.alts.length=m:=⟨_,rfl⟩
   obtain⟨nE,hnE⟩:∃m,x.edges.length=m:=⟨_,rfl⟩
   rw[hnA]at e1 r0
   rw[hnE]at e2 r1
   rw[hnA,hnE]at hsz
   obtain⟨q1,q2⟩:=hsz
   have hkw:IntKind.i64.wrap x.kind=x.kind:=w64 (by omega) (by omega)
   have R0:=hid (r0.more hB.size)
   have R1:=hid r1
   have HX:=hid hxk
   have HNA:=hid hnA
   have HNE:=hid hnE
   have HB:=hid hB
   have HR:=hid hR
   have HST:=hid hst
   have hwz:=hR.only.size
   clear hAr r0 r1 hxk hnA hnE hB hR hst hkd hH
   go_upto_region 5 with fail
   have hablt:w.heap.size<wr.heap.size:=by omega
   have hblt:b<wr.heap.size:=by omega
   have ST:=hid (fun(u:World) (hb:Below wr.heap.size wr u)=>(show u.cell? ⟨w.heap.size,0,none⟩=some (.slice (some ⟨b,off,none⟩) n c)∧u.cell? ⟨b,off+k*3,none⟩=some (.int .u8 x.kind)∧u.cell? ⟨b,off+k*3+1,none⟩=some (.slice AA nA ac)∧u.cell? ⟨b,off+k*3+2,none⟩=some (.slice EA nE ec)from
    ⟨(hb.cell (p:=⟨w.heap.size,0,none⟩) hablt).trans c1,(hb.cell (p:=⟨b,off+k*3,none⟩) hblt).trans e0,(hb.cell (p:=⟨b,off+k*3+1,none⟩) hblt).trans e1,(hb.cell (p:=⟨b,off+k*3+2,none⟩) hblt).trans e2⟩))
   obtain⟨iz,hiz,hzz,hsz,hyz⟩:=info_of infoZ
   go_cut[5]from 7 to 71 (fun v wx=>∃(sb:Nat) (A1:Option Addr) (c1:Nat),v= .pointer (some ⟨sb,0,none⟩)∧Hid (St5 wr x sb A1 nA c1 wx))
   case first=>
    refine wp_region_late (l:=17) (S:=(fun w'=>w'.cell? ⟨w.heap.size,0,none⟩=some (.slice (some ⟨b,off,none⟩) n c)∧w'.cell? ⟨b,off+k*3,none⟩=some (.int .u8 x.kind)∧w'.cell? ⟨b,off+k*3+1,none⟩=some (.slice AA nA ac)∧w'.cell? ⟨b,off+k*3+2,none⟩=some (.slice EA nE ec))) (by kernel_rfl) ⟨c1,e0,e1,e2⟩ (fun hHeld=>?_)
    have HLwd:Below wr.heap.size wr wr.drew:=⟨rfl,rfl,rfl,Nat.le_refl _,fun _ _=>rfl⟩
    generalize wr.drew=wd at hHeld HLwd⊢
    clear c1 e0 e1 e2
    refine wpAnyF_take (i:=0) (.pointer (some ⟨w.heap.size,0,none⟩)) rfl (by kernel_rfl) (by kernel_rfl) (by kernel_rfl) (by kernel_rfl) (fun _ _ _ h=>h) hHeld (by rfl) (fun w' hSw=>?_) ?_
    ·obtain⟨c1,e0,e1,e2⟩:=hSw;go_simp
    try simp only[Act.put,List.getElem_toArray,List.getElem_cons_zero,List.setIfInBounds_toArray,List.set_cons_zero,List.set_cons_succ]
    refine wpAnyF_take (i:=1) (.slice (some ⟨b,off,none⟩) n c) rfl (by kernel_rfl) (by kernel_rfl) (by kernel_rfl) (by kernel_rfl) (fun _ _ _ h=>h) hHeld (by rfl) (fun w' hSw=>?_) ?_
    ·obtain⟨c1,e0,e1,e2⟩:=hSw;go_simp
    try simp only[Act.put,List.getElem_toArray,List.getElem_cons_zero,List.getElem_cons_succ,List.setIfInBounds_toArray,List.set_cons_zero,List.set_cons_succ]
    refine wpAnyF_take (i:=2) (.int .i64 k) rfl (by kernel_rfl) (by kernel_rfl) (by kernel_rfl) (by kernel_rfl) (fun _ _ _ h=>h) hHeld (by rfl) (fun w' hSw=>?_) ?_
    ·obtain⟨c1,e0,e1,e2⟩:=hSw;go_simp
    try simp only[Act.put,List.getElem_toArray,List.getElem_cons_zero,List.getElem_cons_succ,List.setIfInBounds_toArray,List.set_cons_zero,List.set_cons_succ]
    refine wpAnyF_take (i:=3) (.pointer (some ⟨b,off+k*3,none⟩)) rfl (by kernel_rfl) (by kernel_rfl) (by kernel_rfl) (by kernel_rfl) (fun _ _ _ h=>h) hHeld (by rfl) (fun w' hSw=>?_) ?_
    ·obtain⟨c1,e0,e1,e2⟩:=hSw;go_simp
    try simp only[Act.put,List.getElem_toArray,List.getElem_cons_zero,List.getElem_cons_succ,List.setIfInBounds_toArray,List.set_cons_zero,List.set_cons_succ]
    refine wpAnyF_take (i:=4) (.pointer (some ⟨b,off+k*3,none⟩)) rfl (by kernel_rfl) (by kernel_rfl) (by kernel_rfl) (by kernel_rfl) (fun _ _ _ h=>h) hHeld (by rfl) (fun w' hSw=>?_) ?_
    ·obtain⟨c1,e0,e1,e2⟩:=hSw;go_simp
    try simp only[Act.put,List.getElem_toArray,List.getElem_cons_zero,List.getElem_cons_succ,List.setIfInBounds_toArray,List.set_cons_zero,List.set_cons_succ]
    refine wpAnyF_take (i:=5) (.int .u8 x.kind) rfl (by kernel_rfl) (by kernel_rfl) (by kernel_rfl) (by kernel_rfl) (fun _ _ _ h=>h) hHeld (by rfl) (fun w' hSw=>?_) ?_
    ·obtain⟨c1,e0,e1,e2⟩:=hSw;go_simp
    try simp only[Act.put,List.getElem_toArray,List.getElem_cons_zero,List.getElem_cons_succ,List.setIfInBounds_toArray,List.set_cons_zero,List.set_cons_succ]
    refine wpAnyF_take (i:=6) (.int .i64 x.kind) rfl (by kernel_rfl) (by kernel_rfl) (by kernel_rfl) (by kernel_rfl) (fun _ _ _ h=>h) hHeld (by rfl) (fun w' hSw=>?_) ?_
    ·obtain⟨c1,e0,e1,e2⟩:=hSw;go_simp
    try simp only[Act.put,List.getElem_toArray,List.getElem_cons_zero,List.getElem_cons_succ,List.setIfInBounds_toArray,List.set_cons_zero,List.set_cons_succ]
    refine wpAnyF_take (i:=7) (.pointer (some ⟨w.heap.size,0,none⟩)) rfl (by kernel_rfl) (by kernel_rfl) (by kernel_rfl) (by kernel_rfl) (fun _ _ _ h=>h) hHeld (by rfl) (fun w' hSw=>?_) ?_
    ·obtain⟨c1,e0,e1,e2⟩:=hSw;go_simp
    try simp only[Act.put,List.getElem_toArray,List.getElem_cons_zero,List.getElem_cons_succ,List.setIfInBounds_toArray,List.set_cons_zero,List.set_cons_succ]
    refine wpAnyF_take (i:=8) (.slice (some ⟨b,off,none⟩) n c) rfl (by kernel_rfl) (by kernel_rfl) (by kernel_rfl) (by kernel_rfl) (fun _ _ _ h=>h) hHeld (by rfl) (fun w' hSw=>?_) ?_
    ·obtain⟨c1,e0,e1,e2⟩:=hSw;go_simp
    try simp only[Act.put,List.getElem_toArray,List.getElem_cons_zero,List.getElem_cons_succ,List.setIfInBounds_toArray,List.set_cons_zero,List.set_cons_succ]
    refine wpAnyF_take (i:=9) (.int .i64 k) rfl (by kernel_rfl) (by kernel_rfl) (by kernel_rfl) (by kernel_rfl) (fun _ _ _ h=>h) hHeld (by rfl) (fun w' hSw=>?_) ?_
    ·obtain⟨c1,e0,e1,e2⟩:=hSw;go_simp
    try simp only[Act.put,List.getElem_toArray,List.getElem_cons_zero,List.getElem_cons_succ,List.setIfInBounds_toArray,List.set_cons_zero,List.set_cons_succ]
    refine wpAnyF_take (i:=10) (.pointer (some ⟨b,off+k*3,none⟩)) rfl (by kernel_rfl) (by kernel_rfl) (by kernel_rfl) (by kernel_rfl) (fun _ _ _ h=>h) hHeld (by rfl) (fun w' hSw=>?_) ?_
    ·obtain⟨c1,e0,e1,e2⟩:=hSw;go_simp
    try simp only[Act.put,List.getElem_toArray,List.getElem_cons_zero,List.getElem_cons_succ,List.setIfInBounds_toArray,List.set_cons_zero,List.set_cons_succ]
    refine wpAnyF_take (i:=11) (.pointer (some ⟨b,off+k*3+1,none⟩)) rfl (by kernel_rfl) (by kernel_rfl) (by kernel_rfl) (by kernel_rfl) (fun _ _ _ h=>h) hHeld (by rfl) (fun w' hSw=>?_) ?_
    ·obtain⟨c1,e0,e1,e2⟩:=hSw;go_simp
    try simp only[Act.put,List.getElem_toArray,List.getElem_cons_zero,List.getElem_cons_succ,List.setIfInBounds_toArray,List.set_cons_zero,List.set_cons_succ]
    refine wpAnyF_take (i:=12) (.slice AA nA ac) rfl (by kernel_rfl) (by kernel_rfl) (by kernel_rfl) (by kernel_rfl) (fun _ _ _ h=>h) hHeld (by rfl) (fun w' hSw=>?_) ?_
    ·obtain⟨c1,e0,e1,e2⟩:=hSw;go_simp
    try simp only[Act.put,List.getElem_toArray,List.getElem_cons_zero,List.getElem_cons_succ,List.setIfInBounds_toArray,List.set_cons_zero,List.set_cons_succ]
    refine wpAnyF_two 13 15 (by kernel_rfl) rfl rfl (fun K hK=>?_) (fun K hK=>?_)
    ·refine step_append_reads wd rfl _ _ 23 rfl wd.heap.size 3 iz _ 1 8 Try.underlying23 hiz hzz hsz hyz rfl (by decide) (.slice none 0 0) 0 [] rfl (World.ownsRow_nil _ _ _ _) wd.heap.size AA nA ac (x.alts.map (Value.int .i64)) rfl ((R0.out.below HLwd).more HLwd.size) (cellsZ x.alts) (by simp only[maxLen];omega) (by omega) (Nat.le_refl _) ?_
     intro v1 w1 hown1 ho1
     obtain⟨A1,c1',rfl⟩:=row_form hown1
     have hb1:Below wd.heap.size wd w1:=ho1.below' (fun j e=>by cases e) (Nat.le_refl _)
     rw[Nat.zero_add,List.nil_append]at hown1
     have HL1:=HLwd.trans (hb1.mono HLwd.size)
     refine hK _ _ (ST.out w1 HL1) (fun hHeld=>?_)
     clear hK
     clear K
     try simp only[Act.put,List.getElem_toArray,List.getElem_cons_zero,List.getElem_cons_succ,List.setIfInBounds_toArray,List.set_cons_zero,List.set_cons_succ]
     refine wpAnyF_take (i:=14) (.agg #[.int .i64 x.kind,.slice A1 nA c1',.slice none 0 0]) rfl (by kernel_rfl) (by kernel_rfl) (by kernel_rfl) (by kernel_rfl) (fun _ _ _ h=>h) hHeld (by rfl) (fun w' hSw=>?_) ?_
     ·obtain⟨c1,e0,e1,e2⟩:=hSw;go_simp
     try simp only[Act.put,List.getElem_toArray,List.getElem_cons_zero,List.getElem_cons_succ,List.setIfInBounds_toArray,List.set_cons_zero,List.set_cons_succ]
     refine wpAnyF_step 15 (by kernel_rfl) rfl (fun K hK=>?_)
     go_simp
     have hb2:Below w1.heap.size w1 (w1.alloc (.cells #[.int .i64 0,.slice none 0 0,.slice none 0 0] 124)):=below_new _ _
     have TB:=heap_alloc_new w1 (.cells #[.int .i64 0,.slice none 0 0,.slice none 0 0] 124)
     have HL2:=HL1.trans (hb2.mono HL1.size)
     refine hK _ _ (ST.out _ HL2) (fun hHeld=>?_)
     clear hK
     clear K
     generalize w1.alloc (.cells #[.int .i64 0,.slice none 0 0,.slice none 0 0] 124)=w2 at hb2 TB HL2 hHeld⊢
     try simp only[Act.put,List.getElem_toArray,List.getElem_cons_zero,List.getElem_cons_succ,List.setIfInBounds_toArray,List.set_cons_zero,List.set_cons_succ]
     refine wpAnyF_step 16 (by kernel_rfl) rfl (fun K hK=>?_)
     obtain⟨y0,y1,y2⟩:=cells3 TB
     have yz:=fun i=>Lib.frozen_of_heap TB i
     go_simp
     refine hK _ _ ?_ (fun hHeld=>?_)
     ·exact ST.out _ (st5_after HLwd hb1 hown1 hb2 TB).1
     clear hK
     clear K
     try simp only[Act.put,List.getElem_toArray,List.getElem_cons_zero,List.getElem_cons_succ,List.setIfInBounds_toArray,List.set_cons_zero,List.set_cons_succ]
     refine⟨by kernel_rfl,?_⟩
     have HF:=hid (st5_after HLwd hb1 hown1 hb2 TB)
     clear y0 y1 y2 yz hHeld
     go_wp2_with fail
     go_meet
     exact⟨_,A1,c1',rfl,HF⟩
    ·go_simp
     have hb1:Below wd.heap.size wd (wd.alloc (.cells #[.int .i64 0,.slice none 0 0,.slice none 0 0] 124)):=below_new _ _
     have TB:=heap_alloc_new wd (.cells #[.int .i64 0,.slice none 0 0,.slice none 0 0] 124)
     have HL1:=HLwd.trans (hb1.mono HLwd.size)
     refine hK _ _ (ST.out _ HL1) (fun hHeld=>?_)
     clear hK
     clear K
     generalize wd.alloc (.cells #[.int .i64 0,.slice none 0 0,.slice none 0 0] 124)=w1 at hb1 TB HL1 hHeld⊢
     try simp only[Act.put,List.getElem_toArray,List.getElem_cons_zero,List.getElem_cons_succ,List.setIfInBounds_toArray,List.set_cons_zero,List.set_cons_succ]
     refine wpAnyF_step 13 (by kernel_rfl) rfl (fun K hK=>?_)
     refine step_append_reads w1 rfl _ _ 23 rfl w1.heap.size 3 iz _ 1 8 Try.underlying23 hiz hzz hsz hyz rfl (by decide) (.slice none 0 0) 0 [] rfl (World.ownsRow_nil _ _ _ _) w1.heap.size AA nA ac (x.alts.map (Value.int .i64)) rfl ((R0.out.below HL1).more HL1.size) (cellsZ x.alts) (by simp only[maxLen];omega) (by omega) (Nat.le_refl _) ?_
     intro v1 w2 hown1 ho1
     obtain⟨A1,c1',rfl⟩:=row_form hown1
     have hb2:Below w1.heap.size w1 w2:=ho1.below' (fun j e=>by cases e) (Nat.le_refl _)
     rw[Nat.zero_add,List.nil_append]at hown1
     have HL2:=HL1.trans (hb2.mono HL1.size)
     refine hK _ _ (ST.out w2 HL2) (fun hHeld=>?_)
     clear hK
     clear K
     try simp only[Act.put,List.getElem_toArray,List.getElem_cons_zero,List.getElem_cons_succ,List.setIfInBounds_toArray,List.set_cons_zero,List.set_cons_succ]
     have TB0:=TB
     have TB:=(hb2.block _ (heap_lt TB0)).trans TB0
     refine wpAnyF_take (i:=14) (.agg #[.int .i64 x.kind,.slice A1 nA c1',.slice none 0 0]) rfl (by kernel_rfl) (by kernel_rfl) (by kernel_rfl) (by kernel_rfl) (fun _ _ _ h=>h) hHeld (by rfl) (fun w' hSw=>?_) ?_
     ·obtain⟨c1,e0,e1,e2⟩:=hSw;go_simp
     try simp only[Act.put,List.getElem_toArray,List.getElem_cons_zero,List.getElem_cons_succ,List.setIfInBounds_toArray,List.set_cons_zero,List.set_cons_succ]
     refine wpAnyF_step 16 (by kernel_rfl) rfl (fun K hK=>?_)
     obtain⟨y0,y1,y2⟩:=cells3 TB
     have yz:=fun i=>Lib.frozen_of_heap TB i
     go_simp
     refine hK _ _ ?_ (fun hHeld=>?_)
     ·exact ST.out _ (st5_before HLwd hb1 TB0 hb2 hown1).1
     clear hK
     clear K
     try simp only[Act.put,List.getElem_toArray,List.getElem_cons_zero,List.getElem_cons_succ,List.setIfInBounds_toArray,List.set_cons_zero,List.set_cons_succ]
     refine⟨by kernel_rfl,?_⟩
     have HF:=hid (st5_before HLwd hb1 TB0 hb2 hown1)
     clear y0 y1 y2 yz hHeld
     go_wp2_with fail
     go_meet
     exact⟨_,A1,c1',rfl,HF⟩
   case rest=>
    rename World=>wx
    obtain⟨sb,A1,c1',rfl,hK5⟩:=hcut
    obtain⟨hb5,hsb,T5,own5⟩:=hK5.out
    have hsb5:=heap_lt T5
    have HB5:=hid hb5
    have HO5:=hid own5
    have HT5:=hid T5
    have HR5:=hid (RowBox.start (w0:=wx) (cs:=fun v=>#[.int .i64 x.kind,.slice A1 nA c1',v]) (e:=125) (size:=2) T5)
    have s5:=hb5.size
    clear c1 e0 e1 e2 hb5 own5 T5 hK5
    go_wp2_with fail
    go_loopw[6] (fun i wq=>∃j:Nat,j≤nE∧i= .int .i64 j∧Hid (∃ve,RowBox wx sb (fun v=>#[.int .i64 x.kind,.slice A1 nA c1',v]) 124 125 2 j (flat encLE (x.edges.take j)) ve wq)) (fun i _=>nE-(intOf i).toNat)
    case atStart=>exact⟨0,by omega,by simp,hid ⟨_,HR5.out⟩⟩
    case round=>
     rename World=>wq
     obtain⟨j,hj,rfl,hJ⟩:=hrel
     obtain⟨ve,hRj⟩:=hJ.out
     have hoq:=hRj.only
     have sq:=hoq.size
     have hBq:Below wr.heap.size wr wq:=hoq.below (fun i e=>by omega) HB5.out (by omega)
     obtain⟨c1,e0,e1,e2⟩:=ST.out wq hBq
     obtain⟨VE,cE,rfl⟩:=row_form hRj.own
     have HRJ:=hid hRj
     have HBQ:=hid hBq
     have R1q:=R1.out.below (hBq.mono HB.out.size)
     by_cases hlt2:j<nE
     ·obtain⟨eb,eo,rfl,hebl,hce⟩:=R1q.2 (by omega)
      have hjl:j<x.edges.length:=by rw[HNE.out];exact hlt2
      have x0:=hce _ _ (flat_get encLE 2 (fun _=>rfl) x.edges j hjl 0 (by omega))
      have x1:=hce _ _ (flat_get encLE 2 (fun _=>rfl) x.edges j hjl 1 (by omega))
      have HTK:=hid (show flat encLE (x.edges.take (j+1))=flat encLE (x.edges.take j)++ [.int .i64 x.edges[j].1,.int .i64 x.edges[j].2] by rw[List.take_succ_eq_append_getElem hjl,flat_snoc];rfl)
      obtain⟨tk,htk⟩:∃m,x.edges[j].1=m:=⟨_,rfl⟩
      obtain⟨tt,htt⟩:∃m,x.edges[j].2=m:=⟨_,rfl⟩
      have x0:wq.cell? ⟨eb,eo+j*2,none⟩=some (.int .i64 tk):=by rw[←htk];simpa[encLE]using x0
      have x1:wq.cell? ⟨eb,eo+j*2+1,none⟩=some (.int .i64 tt):=by rw[←htt,Nat.add_assoc];simpa[encLE]using x1
      rw[htk,htt]at HTK
      have y2:wq.cell? ⟨sb,2,none⟩=some (.slice VE j cE):=by rw[Lib.cell_of_heap hRj.blk];rfl
      have hsbq:=heap_lt hRj.blk
      have hebq:eb<wq.heap.size:=by omega
      clear hce hRj hBq hoq hJ R1q htk htt
      go_upto_region 9 with fail
      have hablq:w.heap.size<wq.heap.size:=by omega
      have hblq:b<wq.heap.size:=by omega
      have STq:=hid (fun(u:World) (hb:Below wq.heap.size wq u)=>(show u.cell? ⟨w.heap.size,0,none⟩=some (.slice (some ⟨b,off,none⟩) n c)∧u.cell? ⟨b,off+k*3+2,none⟩=some (.slice (some ⟨eb,eo,none⟩) nE ec)∧u.cell? ⟨sb,2,none⟩=some (.slice VE j cE)∧u.cell? ⟨eb,eo+j*2,none⟩=some (.int .i64 tk)∧u.cell? ⟨eb,eo+j*2+1,none⟩=some (.int .i64 tt)from
       ⟨(hb.cell (p:=⟨w.heap.size,0,none⟩) hablq).trans c1,(hb.cell (p:=⟨b,off+k*3+2,none⟩) hblq).trans e2,(hb.cell (p:=⟨sb,2,none⟩) hsbq).trans y2,(hb.cell (p:=⟨eb,eo+j*2,none⟩) hebq).trans x0,(hb.cell (p:=⟨eb,eo+j*2+1,none⟩) hebq).trans x1⟩))
      obtain⟨ie,hie,hze,hse,hye⟩:=info_of infoRLE
      refine wp_region_late (l:=24) (S:=(fun w'=>w'.cell? ⟨w.heap.size,0,none⟩=some (.slice (some ⟨b,off,none⟩) n c)∧w'.cell? ⟨b,off+k*3+2,none⟩=some (.slice (some ⟨eb,eo,none⟩) nE ec)∧w'.cell? ⟨sb,2,none⟩=some (.slice VE j cE)∧w'.cell? ⟨eb,eo+j*2,none⟩=some (.int .i64 tk)∧w'.cell? ⟨eb,eo+j*2+1,none⟩=some (.int .i64 tt))) (by kernel_rfl) ⟨c1,e2,y2,x0,x1⟩ (fun hHeld=>?_)
      have HLq:Below wq.heap.size wq wq.drew:=⟨rfl,rfl,rfl,Nat.le_refl _,fun _ _=>rfl⟩
      generalize wq.drew=wd at hHeld HLq⊢
      clear c1 e0 e1 e2 y2 x0 x1
      refine wpAnyF_take2 (i:=0) (.pointer (some ⟨sb,2,none⟩)) (by kernel_rfl) rfl (by decide) (by kernel_rfl) (by kernel_rfl) (by kernel_rfl) (by kernel_rfl) (fun _ _ _ h=>h) hHeld (by rfl) (fun w' hSw=>?_) ?_
      ·obtain⟨c1,e2,y2,x0,x1⟩:=hSw;go_simp
      try simp only[Act.put,List.getElem_toArray,List.getElem_cons_zero,List.setIfInBounds_toArray,List.set_cons_zero,List.set_cons_succ]
      refine wpAnyF_take2 (i:=1) (.slice VE j cE) (by kernel_rfl) rfl (by decide) (by kernel_rfl) (by kernel_rfl) (by kernel_rfl) (by kernel_rfl) (fun _ _ _ h=>h) hHeld (by rfl) (fun w' hSw=>?_) ?_
      ·obtain⟨c1,e2,y2,x0,x1⟩:=hSw;go_simp
      try simp only[Act.put,List.getElem_toArray,List.getElem_cons_zero,List.getElem_cons_succ,List.setIfInBounds_toArray,List.set_cons_zero,List.set_cons_succ]
      refine wpAnyF_take2 (i:=2) (.pointer (some ⟨w.heap.size,0,none⟩)) (by kernel_rfl) rfl (by decide) (by kernel_rfl) (by kernel_rfl) (by kernel_rfl) (by kernel_rfl) (fun _ _ _ h=>h) hHeld (by rfl) (fun w' hSw=>?_) ?_
      ·obtain⟨c1,e2,y2,x0,x1⟩:=hSw;go_simp
      try simp only[Act.put,List.getElem_toArray,List.getElem_cons_zero,List.getElem_cons_succ,List.setIfInBounds_toArray,List.set_cons_zero,List.set_cons_succ]
      refine wpAnyF_take2 (i:=3) (.slice (some ⟨b,off,none⟩) n c) (by kernel_rfl) rfl (by decide) (by kernel_rfl) (by kernel_rfl) (by kernel_rfl) (by kernel_rfl) (fun _ _ _ h=>h) hHeld (by rfl) (fun w' hSw=>?_) ?_
      ·obtain⟨c1,e2,y2,x0,x1⟩:=hSw;go_simp
      try simp only[Act.put,List.getElem_toArray,List.getElem_cons_zero,List.getElem_cons_succ,List.setIfInBounds_toArray,List.set_cons_zero,List.set_cons_succ]
      refine wpAnyF_take2 (i:=4) (.int .i64 k) (by kernel_rfl) rfl (by decide) (by kernel_rfl) (by kernel_rfl) (by kernel_rfl) (by kernel_rfl) (fun _ _ _ h=>h) hHeld (by rfl) (fun w' hSw=>?_) ?_
      ·obtain⟨c1,e2,y2,x0,x1⟩:=hSw;go_simp
      try simp only[Act.put,List.getElem_toArray,List.getElem_cons_zero,List.getElem_cons_succ,List.setIfInBounds_toArray,List.set_cons_zero,List.set_cons_succ]
      refine wpAnyF_take2 (i:=5) (.pointer (some ⟨b,off+k*3,none⟩)) (by kernel_rfl) rfl (by decide) (by kernel_rfl) (by kernel_rfl) (by kernel_rfl) (by kernel_rfl) (fun _ _ _ h=>h) hHeld (by rfl) (fun w' hSw=>?_) ?_
      ·obtain⟨c1,e2,y2,x0,x1⟩:=hSw;go_simp
      try simp only[Act.put,List.getElem_toArray,List.getElem_cons_zero,List.getElem_cons_succ,List.setIfInBounds_toArray,List.set_cons_zero,List.set_cons_succ]
      refine wpAnyF_take2 (i:=6) (.pointer (some ⟨b,off+k*3+2,none⟩)) (by kernel_rfl) rfl (by decide) (by kernel_rfl) (by kernel_rfl) (by kernel_rfl) (by kernel_rfl) (fun _ _ _ h=>h) hHeld (by rfl) (fun w' hSw=>?_) ?_
      ·obtain⟨c1,e2,y2,x0,x1⟩:=hSw;go_simp
      try simp only[Act.put,List.getElem_toArray,List.getElem_cons_zero,List.getElem_cons_succ,List.setIfInBounds_toArray,List.set_cons_zero,List.set_cons_succ]
      refine wpAnyF_take2 (i:=7) (.slice (some ⟨eb,eo,none⟩) nE ec) (by kernel_rfl) rfl (by decide) (by kernel_rfl) (by kernel_rfl) (by kernel_rfl) (by kernel_rfl) (fun _ _ _ h=>h) hHeld (by rfl) (fun w' hSw=>?_) ?_
      ·obtain⟨c1,e2,y2,x0,x1⟩:=hSw;go_simp
      try simp only[Act.put,List.getElem_toArray,List.getElem_cons_zero,List.getElem_cons_succ,List.setIfInBounds_toArray,List.set_cons_zero,List.set_cons_succ]
      refine wpAnyF_take2 (i:=8) (.int .i64 j) (by kernel_rfl) rfl (by decide) (by kernel_rfl) (by kernel_rfl) (by kernel_rfl) (by kernel_rfl) (fun _ _ _ h=>h) hHeld (by rfl) (fun w' hSw=>?_) ?_
      ·obtain⟨c1,e2,y2,x0,x1⟩:=hSw;go_simp
      try simp only[Act.put,List.getElem_toArray,List.getElem_cons_zero,List.getElem_cons_succ,List.setIfInBounds_toArray,List.set_cons_zero,List.set_cons_succ]
      refine wpAnyF_take2 (i:=9) (.pointer (some ⟨eb,eo+j*2,none⟩)) (by kernel_rfl) rfl (by decide) (by kernel_rfl) (by kernel_rfl) (by kernel_rfl) (by kernel_rfl) (fun _ _ _ h=>h) hHeld (by rfl) (fun w' hSw=>?_) ?_
      ·obtain⟨c1,e2,y2,x0,x1⟩:=hSw;go_simp
      try simp only[Act.put,List.getElem_toArray,List.getElem_cons_zero,List.getElem_cons_succ,List.setIfInBounds_toArray,List.set_cons_zero,List.set_cons_succ]
      refine wpAnyF_take2 (i:=10) (.pointer (some ⟨eb,eo+j*2,none⟩)) (by kernel_rfl) rfl (by decide) (by kernel_rfl) (by kernel_rfl) (by kernel_rfl) (by kernel_rfl) (fun _ _ _ h=>h) hHeld (by rfl) (fun w' hSw=>?_) ?_
      ·obtain⟨c1,e2,y2,x0,x1⟩:=hSw;go_simp
      try simp only[Act.put,List.getElem_toArray,List.getElem_cons_zero,List.getElem_cons_succ,List.setIfInBounds_toArray,List.set_cons_zero,List.set_cons_succ]
      refine wpAnyF_take2 (i:=11) (.int .i64 tk) (by kernel_rfl) rfl (by decide) (by kernel_rfl) (by kernel_rfl) (by kernel_rfl) (by kernel_rfl) (fun _ _ _ h=>h) hHeld (by rfl) (fun w' hSw=>?_) ?_
      ·obtain⟨c1,e2,y2,x0,x1⟩:=hSw;go_simp
      try simp only[Act.put,List.getElem_toArray,List.getElem_cons_zero,List.getElem_cons_succ,List.setIfInBounds_toArray,List.set_cons_zero,List.set_cons_succ]
      refine wpAnyF_take2 (i:=12) (.pointer (some ⟨w.heap.size,0,none⟩)) (by kernel_rfl) rfl (by decide) (by kernel_rfl) (by kernel_rfl) (by kernel_rfl) (by kernel_rfl) (fun _ _ _ h=>h) hHeld (by rfl) (fun w' hSw=>?_) ?_
      ·obtain⟨c1,e2,y2,x0,x1⟩:=hSw;go_simp
      try simp only[Act.put,List.getElem_toArray,List.getElem_cons_zero,List.getElem_cons_succ,List.setIfInBounds_toArray,List.set_cons_zero,List.set_cons_succ]
      refine wpAnyF_take2 (i:=13) (.slice (some ⟨b,off,none⟩) n c) (by kernel_rfl) rfl (by decide) (by kernel_rfl) (by kernel_rfl) (by kernel_rfl) (by kernel_rfl) (fun _ _ _ h=>h) hHeld (by rfl) (fun w' hSw=>?_) ?_
      ·obtain⟨c1,e2,y2,x0,x1⟩:=hSw;go_simp
      try simp only[Act.put,List.getElem_toArray,List.getElem_cons_zero,List.getElem_cons_succ,List.setIfInBounds_toArray,List.set_cons_zero,List.set_cons_succ]
      refine wpAnyF_take2 (i:=14) (.int .i64 k) (by kernel_rfl) rfl (by decide) (by kernel_rfl) (by kernel_rfl) (by kernel_rfl) (by kernel_rfl) (fun _ _ _ h=>h) hHeld (by rfl) (fun w' hSw=>?_) ?_
      ·obtain⟨c1,e2,y2,x0,x1⟩:=hSw;go_simp
      try simp only[Act.put,List.getElem_toArray,List.getElem_cons_zero,List.getElem_cons_succ,List.setIfInBounds_toArray,List.set_cons_zero,List.set_cons_succ]
      refine wpAnyF_take2 (i:=15) (.pointer (some ⟨b,off+k*3,none⟩)) (by kernel_rfl) rfl (by decide) (by kernel_rfl) (by kernel_rfl) (by kernel_rfl) (by kernel_rfl) (fun _ _ _ h=>h) hHeld (by rfl) (fun w' hSw=>?_) ?_
      ·obtain⟨c1,e2,y2,x0,x1⟩:=hSw;go_simp
      try simp only[Act.put,List.getElem_toArray,List.getElem_cons_zero,List.getElem_cons_succ,List.setIfInBounds_toArray,List.set_cons_zero,List.set_cons_succ]
      refine wpAnyF_take2 (i:=16) (.pointer (some ⟨b,off+k*3+2,none⟩)) (by kernel_rfl) rfl (by decide) (by kernel_rfl) (by kernel_rfl) (by kernel_rfl) (by kernel_rfl) (fun _ _ _ h=>h) hHeld (by rfl) (fun w' hSw=>?_) ?_
      ·obtain⟨c1,e2,y2,x0,x1⟩:=hSw;go_simp
      try simp only[Act.put,List.getElem_toArray,List.getElem_cons_zero,List.getElem_cons_succ,List.setIfInBounds_toArray,List.set_cons_zero,List.set_cons_succ]
      refine wpAnyF_take2 (i:=17) (.slice (some ⟨eb,eo,none⟩) nE ec) (by kernel_rfl) rfl (by decide) (by kernel_rfl) (by kernel_rfl) (by kernel_rfl) (by kernel_rfl) (fun _ _ _ h=>h) hHeld (by rfl) (fun w' hSw=>?_) ?_
      ·obtain⟨c1,e2,y2,x0,x1⟩:=hSw;go_simp
      try simp only[Act.put,List.getElem_toArray,List.getElem_cons_zero,List.getElem_cons_succ,List.setIfInBounds_toArray,List.set_cons_zero,List.set_cons_succ]
      refine wpAnyF_take2 (i:=18) (.int .i64 j) (by kernel_rfl) rfl (by decide) (by kernel_rfl) (by kernel_rfl) (by kernel_rfl) (by kernel_rfl) (fun _ _ _ h=>h) hHeld (by rfl) (fun w' hSw=>?_) ?_
      ·obtain⟨c1,e2,y2,x0,x1⟩:=hSw;go_simp
      try simp only[Act.put,List.getElem_toArray,List.getElem_cons_zero,List.getElem_cons_succ,List.setIfInBounds_toArray,List.set_cons_zero,List.set_cons_succ]
      refine wpAnyF_take2 (i:=19) (.pointer (some ⟨eb,eo+j*2,none⟩)) (by kernel_rfl) rfl (by decide) (by kernel_rfl) (by kernel_rfl) (by kernel_rfl) (by kernel_rfl) (fun _ _ _ h=>h) hHeld (by rfl) (fun w' hSw=>?_) ?_
      ·obtain⟨c1,e2,y2,x0,x1⟩:=hSw;go_simp
      try simp only[Act.put,List.getElem_toArray,List.getElem_cons_zero,List.getElem_cons_succ,List.setIfInBounds_toArray,List.set_cons_zero,List.set_cons_succ]
      refine wpAnyF_take2 (i:=20) (.pointer (some ⟨eb,eo+j*2+1,none⟩)) (by kernel_rfl) rfl (by decide) (by kernel_rfl) (by kernel_rfl) (by kernel_rfl) (by kernel_rfl) (fun _ _ _ h=>h) hHeld (by rfl) (fun w' hSw=>?_) ?_
      ·obtain⟨c1,e2,y2,x0,x1⟩:=hSw;go_simp
      try simp only[Act.put,List.getElem_toArray,List.getElem_cons_zero,List.getElem_cons_succ,List.setIfInBounds_toArray,List.set_cons_zero,List.set_cons_succ]
      refine wpAnyF_take2 (i:=21) (.int .i64 tt) (by kernel_rfl) rfl (by decide) (by kernel_rfl) (by kernel_rfl) (by kernel_rfl) (by kernel_rfl) (fun _ _ _ h=>h) hHeld (by rfl) (fun w' hSw=>?_) ?_
      ·obtain⟨c1,e2,y2,x0,x1⟩:=hSw;go_simp
      try simp only[Act.put,List.getElem_toArray,List.getElem_cons_zero,List.getElem_cons_succ,List.setIfInBounds_toArray,List.set_cons_zero,List.set_cons_succ]
      refine wpAnyF_take2 (i:=22) (.agg #[.int .i64 tk,.int .i64 tt]) (by kernel_rfl) rfl (by decide) (by kernel_rfl) (by kernel_rfl) (by kernel_rfl) (by kernel_rfl) (fun _ _ _ h=>h) hHeld (by rfl) (fun w' hSw=>?_) ?_
      ·obtain⟨c1,e2,y2,x0,x1⟩:=hSw;go_simp
      try simp only[Act.put,List.getElem_toArray,List.getElem_cons_zero,List.getElem_cons_succ,List.setIfInBounds_toArray,List.set_cons_zero,List.set_cons_succ]
      refine wpAnyF_step 23 (by kernel_rfl) rfl (fun K hK=>?_)
      go_simp
      have hb7:Below wd.heap.size wd (wd.alloc (.cells #[.int .i64 tk,.int .i64 tt] 125)):=below_new _ _
      refine hK _ _ (STq.out _ (HLq.trans (hb7.mono HLq.size))) (fun hHeld=>?_)
      clear hK hb7
      clear K
      have RJ:=HRJ.out.next HLq
      refine wpAnyF_turn 24 (by kernel_rfl) rfl (by decide) (by decide) (fun K hK=>?_)
      refine step_push4 wd rfl _ _ 122 rfl wx.heap.size 125 ie _ 2 16 Try.underlying122 hie hze hse hye rfl (by omega) (.slice VE j cE) j _ rfl RJ.own [.int .i64 tk,.int .i64 tt] 1 _ rfl rfl rfl (by simp[Value.oneCell']) Nat.zero_lt_one (by simp only[maxLen];omega) (by omega) RJ.only.size ?_
      intro gn cn wn hownN hgN hoN
      refine hK _ _ ?_
      clear hK
      clear K
      have t2n:=(hoN.block sb (heap_lt RJ.blk) (RJ.ne (by decide))).trans RJ.blk
      have z2:wn.cell? ⟨sb,2,none⟩=some (.slice VE j cE):=by rw[Lib.cell_of_heap t2n];rfl
      have zz:=Lib.frozen_of_heap t2n 2
      have HFIN:Hid (∃ve,RowBox wx sb (fun v=>#[.int .i64 x.kind,.slice A1 nA c1',v]) 124 125 2 (j+1) (flat encLE (x.edges.take (j+1))) ve (wn.setCell ⟨sb,2,none⟩ (.slice (some ⟨gn,0,none⟩) (j+1) cn))):=hid ⟨_,by rw[HTK.out];exact RJ.push (o:=2) (by decide) hownN hoN rfl⟩
      clear hownN hgN hoN t2n RJ
      refine wpAny_take (i:=25) (v:=.pointer (some ⟨sb,2,none⟩)) rfl (by kernel_rfl) (by kernel_rfl) (by kernel_rfl) (fun _ _ _ h=>h) (Or.inl ⟨by rfl,fun w=>(by go_simp)⟩) ?_
      try simp only[Act.put,List.getElem_toArray,List.getElem_cons_zero,List.getElem_cons_succ,List.setIfInBounds_toArray,List.set_cons_zero,List.set_cons_succ]
      refine wpAny_ready (rs:=[26]) (by kernel_rfl) (by simp) (AllReady.cons rfl (fun K hK=>?_) AllReady.nil)
      go_simp
      refine hK _ _ (wpAny_done (by kernel_rfl) ?_ _)
      clear hK
      clear K z2 zz
      generalize wn.setCell ⟨sb,2,none⟩ (.slice (some ⟨gn,0,none⟩) (j+1) cn)=wF at HFIN⊢
      go_wp2_with fail
      go_roundw
      case rel=>exact⟨j+1,by omega,by go_num,HFIN⟩
      case measure=>simp[intOf];omega
     ·have hjn:j=nE:=by omega
      subst hjn
      obtain⟨y0,y1,y2⟩:=cells3 hRj.blk
      have hRq:=HR.out.next hBq
      obtain⟨VV,vc,rfl⟩:=row_form hRq.own
      have v0:wq.cell? ⟨b2,0,none⟩=some (.slice VV k vc):=by rw[Lib.cell_of_heap hRq.blk];rfl
      have rA:RO wq (fun i=>i<w3.heap.size∨(Value.slice VV k vc).ownBlock=some i) 1 A1 nA (x.alts.map (Value.int .i64)):=by
       have o5:=ownsRow_only HO5.out hRj.only (fun i hi e=>row_not HO5.out HT5.out (by decide) (by rw[hi,e]))
       exact row_RO o5 fun i hi=>HR.out.fresh (World.ownsRow.lt o5 i hi).1
      have rE:RO wq (fun i=>i<w3.heap.size∨(Value.slice VV k vc).ownBlock=some i) 2 VE j (flat encLE x.edges):=by
       have o6:=hRj.own
       have e6:x.edges.take j=x.edges:=List.take_of_length_le (by rw[HNE.out];exact Nat.le_refl _)
       rw[e6]at o6
       exact row_RO o6 fun i hi=>HR.out.fresh (by have:=(World.ownsRow.lt o6 i hi).1;omega)
      have hst6:∀i (h:i<a.length),i<k→AuVfO wq (fun j=>j<w3.heap.size∨(Value.slice VV k vc).ownBlock=some j) vs i a[i]:=fun i hi hik=>by have:=(HST.out i hi hik).only (S':=fun j=>j<w3.heap.size∨(Value.slice VV k vc).ownBlock=some j) (Only.of_below hBq) (fun _ _ e=>e) [];rwa [List.append_nil]at this
      have HPU:=hid (fun(gn cn:Nat) (wn:World) (h1:wn.ownsRow w3.heap.size 124 3 (.slice (some ⟨gn,0,none⟩) (k+1) cn) (k+1) (vs++ [.int .i64 x.kind,.slice A1 nA c1',.slice VE j cE])) (h2:(Value.slice VV k vc).ownBlock=some gn∨wq.heap.size<gn) (h3:Only (fun j=>(Value.slice VV k vc).ownBlock=some j) wq wn)=>ot_push hRq hb2l hst6 hkl HX.out HNA.out HNE.out rA rE h1 h2 h3)
      have HRQ:=hid hRq
      have hwq:=hRq.only.size
      obtain⟨il,hil,hzl,hsl,hyl⟩:=info_of infoRLS
      clear hst6 rA rE hRq hRj hBq hoq hJ R1q
      go_upto_region 10 with fail
      go_wp2_with (at_builtin;go_must (refine wpList_push4 wq rfl _ _ 87 rfl w3.heap.size 124 il _ 3 56 Try.underlying87 hil hzl hsl hyl rfl (by omega) (.slice VV k vc) k vs rfl HRQ.out.own [.int .i64 x.kind,.slice A1 nA c1',.slice VE j cE] 1 _ rfl rfl rfl (by simp[Value.oneCell']) Nat.zero_lt_one (by simp only[maxLen];omega) (by omega) hwq ?_);intro g9 c9 w9 hown9 hg9 ho9;have b9:=(ho9.block b2 (heap_lt HRQ.out.blk) (HRQ.out.ne (by decide))).trans HRQ.out.blk;have hc9:w9.cell? ⟨b2,0,none⟩=some (.slice VV k vc):=(by rw[Lib.cell_of_heap b9];rfl);have hf9:w9.frozen? ⟨b2,0,none⟩=false:=Lib.frozen_of_heap b9 0)
      have HFIN:=hid (HPU.out g9 c9 w9 hown9 hg9 ho9)
      go_roundw
      case rel=>exact⟨k+1,by omega,by go_num,HFIN⟩
      case measure=>simp[intOf];omega
  ·have hkn:k=n:=by omega
   subst hkn
   obtain⟨VV,vc,rfl⟩:=row_form hR.own
   have v0:wr.cell? ⟨b2,0,none⟩=some (.slice VV k vc):=by rw[Lib.cell_of_heap hR.blk];rfl
   have T2:=(hR.only.block (w.heap.size+1) (by omega) (by omega)).trans HT2.out
   have u0:wr.cell? ⟨w.heap.size+1,0,none⟩=some (.slice none 0 0):=by rw[Lib.cell_of_heap T2];rfl
   have uz:=Lib.frozen_of_heap T2 0
   have hO:=Only.of_set wr (w.heap.size+1) 0 (.slice VV k vc)
   have HT4:=hid (heap_setCell_same wr (w.heap.size+1) 0 _ _ (.slice VV k vc) T2)
   have HFIN:Hid (OtP w a (.returned (.agg #[.slice VV k vc])) (wr.setCell ⟨w.heap.size+1,0,none⟩ (.slice VV k vc))):=hid ⟨VV,vc,by rw[HN.out],hB.trans (hO.below' (fun j e=>by omega) hB.size),vs,by rw[HN.out];exact(row_RO hR.own (S:=fun j=>j<w3.heap.size) fun j hj e=>by have:=(World.ownsRow.lt hR.own j hj).1;omega).only (S':=fun j=>j<w.heap.size) (hO.more fun j _ e=>by omega) (fun j hj e=>by omega),fun i hi=>by
    have:=(hst i hi (by rw[←HN.out];exact hi)).only (w':=wr.setCell ⟨w.heap.size+1,0,none⟩ (.slice VV k vc)) (S':=fun j=>j<w.heap.size) (hO.more fun j _ e=>.inl (by omega)) (fun j _ e=>.inl (by omega)) []
    rwa [List.append_nil]at this⟩
   clear hst hR hB T2 hO hH
   go_wp2_with fail
   refine bodyPost_ret (results_cell_row rfl _ _ (w.heap.size+1) 89 _ _ _ rfl HT4.out Try.underlying89 rfl infoRAP) rfl ?_
   exact HFIN.out
end Go.Proofs.Ytgflanlniejflaa
