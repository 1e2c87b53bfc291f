/-
  Drivers: an automaton in new memory: the walk.
-/
import Derived.Test.YtgflanlniejflaaK14
import Derived.Test.YtgflanlniejflaaK26
import Derived.Test.YtgflanlniejflaaK31
namespace Go.Proofs.Ytgflanlniejflaa
open Go.RowKit
set_option maxRecDepth 100000
structure Up (base:Nat) (w u:World):Prop where
 size:w.heap.size≤u.heap.size
 block:∀k,base≤k→k<w.heap.size→u.heap[k]? =w.heap[k]?
theorem Up.trans {base:Nat}{w u x:World}(h:Up base w u) (g:Up base u x):Up base w x:=⟨Nat.le_trans h.size g.size,fun k hb hk=>(g.block k hb (Nat.lt_of_lt_of_le hk h.size)).trans (h.block k hb hk)⟩
theorem Up.of_below {base:Nat}{w u:World}(h:Below w.heap.size w u):Up base w u:=⟨h.size,fun k _ hk=>h.block k hk⟩
theorem Up.cell {base:Nat}{w u:World}(h:Up base w u){b i:Nat}(hb:base≤b) (hl:b<w.heap.size):u.cell? ⟨b,i,none⟩=w.cell? ⟨b,i,none⟩:=by
 simp only[World.cell?,h.block b hb hl]
theorem RO.up {w u:World}{S:Nat→Prop}{size n base:Nat}{A:Option Addr}{xs:List Value}(h:RO w S size A n xs) (hu:Up base w u) (hS:∀j,j<base→S j):Reads u u.heap.size size A n xs:=
 ⟨h.1,fun hn=>by
  obtain⟨b,off,e,hb,hns,hc⟩:=h.2 hn
  have hbb:base≤b:=Nat.le_of_not_lt fun e=>hns (hS b e)
  exact⟨b,off,e,Nat.lt_of_lt_of_le hb hu.size,fun j v hv=>(hu.cell hbb hb).trans (hc j v hv)⟩⟩
def AuVO (w:World) (S:Nat→Prop) (vs:List Value) (i:Nat) (s:Drv.LSt):Prop:=
 ∃AA ac EA ec,vs[i*3]? =some (.int .u8 s.kind)∧vs[i*3+1]? =some (.slice AA s.alts.length ac)∧vs[i*3+2]? =some (.slice EA s.edges.length ec)∧RO w S 1 AA s.alts.length (s.alts.map (Value.int .i64))∧RO w S 2 EA s.edges.length (flat encLE s.edges)
theorem AuVO.only {w w':World}{S S':Nat→Prop}{vs:List Value}{i:Nat}{s:Drv.LSt}(h:AuVO w S vs i s) (ho:Only S w w') (hS:∀b,b<w.heap.size→S' b→S b) (vs':List Value):AuVO w' S' (vs++vs') i s:=by
 obtain⟨AA,ac,EA,ec,e0,e1,e2,r0,r1⟩:=h
 have hl:∀{j:Nat}{v:Value},vs[j]? =some v→(vs++vs')[j]? =some v:=fun {j v} h=>by
  rw[List.getElem?_append_left (List.getElem?_eq_some_iff.1 h).1];exact h
 exact⟨AA,ac,EA,ec,hl e0,hl e1,hl e2,r0.only ho hS,r1.only ho hS⟩
def AofI (w:World) (a:List Drv.LSt) (b2 k:Nat) (wr:World):Prop:=
 Below w.heap.size w wr∧∃v vs,wr.heap[b2]? =some (.cells #[v] 50 (0,0))∧wr.ownsRow w.heap.size 54 3 v k vs∧∀i (h:i<a.length),i<k→AuVO wr (fun j=>j<w.heap.size∨j=b2∨v.ownBlock=some j) vs i a[i]
theorem infoAutoP:(Try.prog.info? 50).map (·.size)=some 1:=by kernel_rfl
theorem infoLS:(Try.prog.info? 54).map (fun i=>(i.zero,i.size,i.bytes))=some (some (.agg #[.int .u8 0,.slice none 0 0,.slice none 0 0]),3,56):=by kernel_rfl
theorem cellsLE (l:List (Int×Int)):∀u∈flat encLE l,u.oneCell'=true:=by
 intro u hu
 unfold flat at hu
 obtain⟨x,_,hx⟩:=List.mem_flatMap.1 hu
 simp only[encLE,List.mem_cons,List.mem_nil_iff,or_false]at hx
 rcases hx with rfl | rfl <;> rfl
theorem roOwn {w:World}{base base' n c size:Nat}{e:TypeId}{A:Option Addr}{xs:List Value}{T:Nat→Prop}(h:w.ownsRow base' e size (.slice A n c) n xs) (hb:base≤base') (hT:∀j,base≤j→¬T j):RO w T size A n xs:=
 row_RO h fun j hj=>hT j (Nat.le_trans hb (World.ownsRow.lt h j hj).1)
theorem aof_push {w w6 wn:World}{a:List Drv.LSt}{b2 k vc gn cn nA nE:Nat}{VA A1 A2:Option Addr}{c1 c2:Nat}{x:Drv.LSt}{vs:List Value}(hb:Below w.heap.size w w6) (hO6:w6.ownsRow w.heap.size 54 3 (.slice VA k vc) k vs) (t2:w6.heap[b2]? =some (.cells #[.slice VA k vc] 50 (0,0)))
 (rA:RO w6 (fun j=>j<w.heap.size∨j=b2∨(Value.slice VA k vc).ownBlock=some j) 1 A1 nA (x.alts.map (Value.int .i64))) (rE:RO w6 (fun j=>j<w.heap.size∨j=b2∨(Value.slice VA k vc).ownBlock=some j) 2 A2 nE (flat encLE x.edges))
 (hown:wn.ownsRow w.heap.size 54 3 (.slice (some ⟨gn,0,none⟩) (k+1) cn) (k+1) (vs++ [.int .u8 x.kind,.slice A1 nA c1,.slice A2 nE c2])) (hgN:(Value.slice VA k vc).ownBlock=some gn∨w6.heap.size<gn) (hoN:Only (fun j=>(Value.slice VA k vc).ownBlock=some j) w6 wn)
 (hst:∀i (h:i<a.length),i<k→AuVO w6 (fun j=>j<w.heap.size∨j=b2∨(Value.slice VA k vc).ownBlock=some j) vs i a[i]) (hk:k<a.length) (hx:a[k]=x) (hA:x.alts.length=nA) (hE:x.edges.length=nE) (hb2:w.heap.size≤b2):
 AofI w a b2 (k+1) (wn.setCell ⟨b2,0,none⟩ (.slice (some ⟨gn,0,none⟩) (k+1) cn)):=by
 have hne:(Value.slice VA k vc).ownBlock≠some b2:=row_not hO6 t2 (by decide)
 have t2n:wn.heap[b2]? =some (.cells #[.slice VA k vc] 50 (0,0)):=(hoN.block b2 (heap_lt t2) hne).trans t2
 have hoF:Only (fun j=>j<w.heap.size∨j=b2∨(Value.slice VA k vc).ownBlock=some j) w6 (wn.setCell ⟨b2,0,none⟩ (.slice (some ⟨gn,0,none⟩) (k+1) cn)):=
  (hoN.more fun _ _ e=>.inr (.inr e)).trans (Only.of_set wn b2 0 _) fun _ _ e=>.inr (.inl e)
 have hoB:Only (fun j=>j=b2∨(Value.slice VA k vc).ownBlock=some j) w6 (wn.setCell ⟨b2,0,none⟩ (.slice (some ⟨gn,0,none⟩) (k+1) cn)):=
  (hoN.more fun _ _ e=>.inr e).trans (Only.of_set wn b2 0 _) fun _ _ e=>.inl e
 have hS:∀b,b<w6.heap.size→(b<w.heap.size∨b=b2∨(Value.slice (some ⟨gn,0,none⟩) (k+1) cn).ownBlock=some b)→(b<w.heap.size∨b=b2∨(Value.slice VA k vc).ownBlock=some b):=fun b hbl e=>by
  rcases e with e | e | e
  ·exact .inl e
  ·exact .inr (.inl e)
  ·have e:some gn=some b:=e
   injection e with e
   subst e
   rcases hgN with h | h
   ·exact .inr (.inr h)
   ·omega
 refine⟨hoB.below (fun j e=>?_) hb hb.size,.slice (some ⟨gn,0,none⟩) (k+1) cn,vs++ [.int .u8 x.kind,.slice A1 nA c1,.slice A2 nE c2],heap_setCell_same wn b2 0 _ _ _ t2n,own_setTb hown t2n (by decide),fun i hi hik=>?_⟩
 ·rcases e with e | e
  ·rw[e];exact hb2
  ·exact(World.ownsRow.lt hO6 j e).1
 ·rcases Nat.lt_succ_iff_lt_or_eq.1 hik with h | rfl
  ·exact(hst i hi h).only hoF hS _
  ·have hvl:vs.length=i*3:=hO6.1
   rw[hx]
   refine⟨A1,c1,A2,c2,?_,?_,?_,?_,?_⟩
   ·rw[List.getElem?_append_right (by omega),hvl];simp
   ·rw[List.getElem?_append_right (by omega),hvl,hA,show i*3+1-i*3=1 by omega];rfl
   ·rw[List.getElem?_append_right (by omega),hvl,hE,show i*3+2-i*3=2 by omega];rfl
   ·rw[hA];exact rA.only hoF hS
   ·rw[hE];exact rE.only hoF hS
def AofP (w:World) (a:List Drv.LSt) (e:Ending) (w':World):Prop:=
 ∃A c,e= .returned (.agg #[.slice A a.length c])∧Below w.heap.size w w'∧∀u,Up w.heap.size w' u→AutR u u.heap.size A a
set_option maxHeartbeats 6400000 in
theorem autoOf_any (w:World) (a:List Drv.LSt) (A:Option Addr) (c:Nat) (h:AutR w w.heap.size A a) (hs:AutS a):
 Calls Try.prog 29 #[.agg #[.slice A a.length c]] w (AofP w a):=by
 obtain⟨n,hn⟩:∃n,a.length=n:=⟨_,rfl⟩
 have H:=hid h
 have HS:=hid hs
 have l1:=hs.1
 rw[hn]at l1⊢
 have HN:=hid hn
 clear h hs hn
 obtain⟨w1,hw1⟩:∃w1,w1=w.alloc (.cells #[.slice A n c] 50):=⟨_,rfl⟩
 obtain⟨w2,hw2⟩:∃w2,w2=w1.alloc (.cells #[.slice none 0 0] 50):=⟨_,rfl⟩
 have HW:=hid (show(w.alloc (.cells #[.slice A n c] 50)).alloc (.cells #[.slice none 0 0] 50)=w2 by rw[hw2,hw1])
 have z1:w1.heap.size=w.heap.size+1:=by rw[hw1];simp
 have b1:Below w.heap.size w w1:=by rw[hw1];exact below_new _ _
 have b2:Below w.heap.size w w2:=by rw[hw2];exact b1.alloc (by omega) _
 have T1:w2.heap[w.heap.size]? =some (.cells #[.slice A n c] 50 (0,0)):=by
  rw[hw2,Below.heap_alloc _ _ _ (by omega),hw1];exact heap_alloc_new _ _
 have T2:w2.heap[w.heap.size+1]? =some (.cells #[.slice none 0 0] 50 (0,0)):=by
  rw[hw2,←z1];exact heap_alloc_new _ _
 have c1:w2.cell? ⟨w.heap.size,0,none⟩=some (.slice A n c):=by rw[Lib.cell_of_heap T1];rfl
 have HI0:Hid (AofI w a (w.heap.size+1) 0 w2):=hid ⟨b2,_,_,T2,World.ownsRow_nil _ _ _ _,fun _ _ h=>absurd h (Nat.not_lt_zero _)⟩
 have HB2:=hid b2
 have HA:=hid (H.out.below b2)
 clear hw1 hw2 b1 b2 T1 T2 z1 HA
 go_enter Try.func29,Try.ntmps29
 go_upto_region 1 with fail
 rw[HW.out]
 clear HW
 go_wp2_with fail
 go_loopw[8] (fun i wr=>∃k:Nat,k≤n∧i= .int .i64 k∧Hid (AofI w a (w.heap.size+1) k wr)) (fun i _=>n-(intOf i).toNat)
 case atStart=>exact⟨0,by omega,by simp,HI0⟩
 case round=>
  clear HI0 c1
  obtain⟨k,hk,rfl,hH⟩:=hrel
  obtain⟨hb,v,vs,t2,hown,hst⟩:=hH.out
  by_cases hlt:k<n
  ·have hkl:k<a.length:=by rw[HN.out];exact hlt
   have hAr:=H.out.below hb
   obtain⟨b,off,AA,ac,EA,ec,rfl,hbl,e0,e1,e2,r0,r1⟩:=hAr.at hkl
   have hsz:=HS.out.2 _ (List.getElem_mem hkl)
   obtain⟨VA,vc,rfl⟩:=row_form hown
   have HXK:=hid (fun(P:Drv.LSt→Prop) (h:P a[k])=>(show P a[k]from h))
   clear HXK
   generalize hxk:a[k]=x at e0 e1 e2 r0 r1 hsz
   obtain⟨nA,hnA⟩:∃m,x.alts.length=m:=⟨_,rfl⟩
   obtain⟨nE,hnE⟩:∃m,x.edges.length=m:=⟨_,rfl⟩
   rw[hnA]at e1 r0
   rw[hnE]at e2 r1
   rw[hnA,hnE]at hsz
   have R0:=hid (r0.more hb.size)
   have R1:=hid (r1.more hb.size)
   have HX:=hid hxk
   have HNA:=hid hnA
   have HNE:=hid hnE
   have HB:=hid hb
   have HT2:=hid t2
   have HOWN:=hid hown
   have HST:=hid hst
   obtain⟨q1,q2⟩:=hsz
   generalize hb2:w.heap.size+1=b2 at HT2 HST⊢
   have HB2E:=hid hb2
   clear hAr r0 r1 hxk hnA hnE hb t2 hown hst
   go_upto_region 4 with fail
   have hlt4:=HB.out.size
   have T4:(wr.alloc (.cells #[.int .u8 x.kind,.slice AA nA ac,.slice EA nE ec] 54)).heap[wr.heap.size]? =some (.cells #[.int .u8 x.kind,.slice AA nA ac,.slice EA nE ec] 54 (0,0)):=heap_alloc_new _ _
   have hbw4:Below wr.heap.size wr (wr.alloc (.cells #[.int .u8 x.kind,.slice AA nA ac,.slice EA nE ec] 54)):=below_new _ _
   generalize wr.alloc (.cells #[.int .u8 x.kind,.slice AA nA ac,.slice EA nE ec] 54)=w4 at T4 hbw4⊢
   have HB4:=hid (HB.out.trans (hbw4.mono HB.out.size))
   have HO4:=hid (ownsRow_below HOWN.out hbw4 (Nat.le_refl _))
   have HT4:=hid ((hbw4.block b2 (heap_lt HT2.out)).trans HT2.out)
   have hvlt:∀j,(Value.slice VA k vc).ownBlock=some j→j<wr.heap.size:=fun j e=>(World.ownsRow.lt HOWN.out j e).2
   have HST4:Hid (∀i (h:i<a.length),i<k→AuVO w4 (fun j=>j<w.heap.size∨j=b2∨(Value.slice VA k vc).ownBlock=some j) vs i a[i]):=hid fun i hi hik=>by have:=(HST.out i hi hik).only (S':=fun j=>j<w.heap.size∨j=b2∨(Value.slice VA k vc).ownBlock=some j) (Only.of_below hbw4) (fun _ _ e=>e) [];rwa [List.append_nil]at this
   have hg4l:=heap_lt T4
   have hb2l:=heap_lt HT4.out
   have hb2r:=heap_lt HT2.out
   have HTS:Hid (∀j,w4.heap.size≤j→¬(j<w.heap.size∨j=b2∨(Value.slice VA k vc).ownBlock=some j)):=hid fun j hj e=>by
    rcases e with e | e | e
    ·omega
    ·omega
    ·have:=hvlt j e;omega
   have hne4:wr.heap.size≠b2:=by omega
   generalize hg4:wr.heap.size=g4 at T4 hg4l hne4⊢
   have v0:w4.cell? ⟨b2,0,none⟩=some (.slice VA k vc):=by rw[Lib.cell_of_heap HT4.out];rfl
   have x0:w4.cell? ⟨g4,0,none⟩=some (.int .u8 x.kind):=by rw[Lib.cell_of_heap T4];rfl
   have x1:w4.cell? ⟨g4,1,none⟩=some (.slice AA nA ac):=by rw[Lib.cell_of_heap T4];rfl
   have x2:w4.cell? ⟨g4,2,none⟩=some (.slice EA nE ec):=by rw[Lib.cell_of_heap T4];rfl
   have ST:=hid (fun(u:World) (hb:Below w4.heap.size w4 u)=>(show u.cell? ⟨b2,0,none⟩=some (.slice VA k vc)∧u.cell? ⟨g4,0,none⟩=some (.int .u8 x.kind)∧u.cell? ⟨g4,1,none⟩=some (.slice AA nA ac)∧u.cell? ⟨g4,2,none⟩=some (.slice EA nE ec)from
    ⟨(hb.cell (p:=⟨b2,0,none⟩) hb2l).trans v0,(hb.cell (p:=⟨g4,0,none⟩) hg4l).trans x0,(hb.cell (p:=⟨g4,1,none⟩) hg4l).trans x1,(hb.cell (p:=⟨g4,2,none⟩) hg4l).trans x2⟩))
   have CA:=hid (fun(u:World) (hb:Below w4.heap.size w4 u)=>cloneZ_any AA nA ac w4.heap.size (x.alts.map (Value.int .i64)) u (by omega) (((R0.out.below (by rw[←hg4]at *;exact hbw4)).more (by omega)).below hb) (cellsZ x.alts))
   have CE:=hid (fun(u:World) (hb:Below w4.heap.size w4 u)=>cloneL_any EA nE ec w4.heap.size (flat encLE x.edges) u (by omega) (((R1.out.below (by rw[←hg4]at *;exact hbw4)).more (by omega)).below hb) (cellsLE x.edges))
   obtain⟨i0,hi0,hz0,hsz0,hy0⟩:=info_of infoLS
   clear T4 hbw4 hvlt
   refine wp_region_late (l:=12) (S:=(fun w'=>w'.cell? ⟨b2,0,none⟩=some (.slice VA k vc)∧w'.cell? ⟨g4,0,none⟩=some (.int .u8 x.kind)∧w'.cell? ⟨g4,1,none⟩=some (.slice AA nA ac)∧w'.cell? ⟨g4,2,none⟩=some (.slice EA nE ec))) (by kernel_rfl) ⟨v0,x0,x1,x2⟩ (fun hHeld=>?_)
   have HLwd:Below w4.heap.size w4 w4.drew:=⟨rfl,rfl,rfl,Nat.le_refl _,fun _ _=>rfl⟩
   generalize w4.drew=wd at hHeld HLwd⊢
   clear v0 x0 x1 x2
   refine wpAnyF_take2 (i:=0) (.pointer (some ⟨b2,0,none⟩)) (by kernel_rfl) rfl (by decide) (by kernel_rfl) (by kernel_rfl) (by kernel_rfl) (by kernel_rfl) (fun _ _ _ h=>h) hHeld (by rfl) (fun w' hSw=>?_) ?_
   ·obtain⟨v0,x0,x1,x2⟩:=hSw;go_simp
   simp only[Act.put]
   refine wpAnyF_take2 (i:=1) (.slice VA k vc) (by kernel_rfl) rfl (by decide) (by kernel_rfl) (by kernel_rfl) (by kernel_rfl) (by kernel_rfl) (fun _ _ _ h=>h) hHeld (by rfl) (fun w' hSw=>?_) ?_
   ·obtain⟨v0,x0,x1,x2⟩:=hSw;go_simp
   simp only[Act.put]
   refine wpAnyF_take2 (i:=2) (.pointer (some ⟨g4,0,none⟩)) (by kernel_rfl) rfl (by decide) (by kernel_rfl) (by kernel_rfl) (by kernel_rfl) (by kernel_rfl) (fun _ _ _ h=>h) hHeld (by rfl) (fun w' hSw=>?_) ?_
   ·obtain⟨v0,x0,x1,x2⟩:=hSw;go_simp
   simp only[Act.put]
   refine wpAnyF_take2 (i:=3) (.int .u8 x.kind) (by kernel_rfl) rfl (by decide) (by kernel_rfl) (by kernel_rfl) (by kernel_rfl) (by kernel_rfl) (fun _ _ _ h=>h) hHeld (by rfl) (fun w' hSw=>?_) ?_
   ·obtain⟨v0,x0,x1,x2⟩:=hSw;go_simp
   simp only[Act.put]
   refine wpAnyF_take2 (i:=4) (.pointer (some ⟨g4,1,none⟩)) (by kernel_rfl) rfl (by decide) (by kernel_rfl) (by kernel_rfl) (by kernel_rfl) (by kernel_rfl) (fun _ _ _ h=>h) hHeld (by rfl) (fun w' hSw=>?_) ?_
   ·obtain⟨v0,x0,x1,x2⟩:=hSw;go_simp
   simp only[Act.put]
   refine wpAnyF_take2 (i:=5) (.slice AA nA ac) (by kernel_rfl) rfl (by decide) (by kernel_rfl) (by kernel_rfl) (by kernel_rfl) (by kernel_rfl) (fun _ _ _ h=>h) hHeld (by rfl) (fun w' hSw=>?_) ?_
   ·obtain⟨v0,x0,x1,x2⟩:=hSw;go_simp
   simp only[Act.put]
   refine wpAnyF_take2 (i:=7) (.pointer (some ⟨g4,2,none⟩)) (by kernel_rfl) rfl (by decide) (by kernel_rfl) (by kernel_rfl) (by kernel_rfl) (by kernel_rfl) (fun _ _ _ h=>h) hHeld (by rfl) (fun w' hSw=>?_) ?_
   ·obtain⟨v0,x0,x1,x2⟩:=hSw;go_simp
   simp only[Act.put]
   refine wpAnyF_take2 (i:=8) (.slice EA nE ec) (by kernel_rfl) rfl (by decide) (by kernel_rfl) (by kernel_rfl) (by kernel_rfl) (by kernel_rfl) (fun _ _ _ h=>h) hHeld (by rfl) (fun w' hSw=>?_) ?_
   ·obtain⟨v0,x0,x1,x2⟩:=hSw;go_simp
   simp only[Act.put]
   refine wpAnyF_step 6 (by kernel_rfl) rfl (fun K hK=>?_)
   go_simp
   go_at_call 47
   refine((CA.out wd (by assumption))).mono ?_
   rintro e w5 ⟨A1,c1,rfl,hownA,hbw5⟩
   dsimp only
   have hSw5:=ST.out w5 (HLwd.trans (hbw5.mono HLwd.size))
   have HLw5:=HLwd.trans (hbw5.mono HLwd.size)
   refine hK _ _ ⟨hSw5.1,hSw5.2.1,hSw5.2.2.1,hSw5.2.2.2⟩ (fun hHeld=>?_)
   clear hK
   clear K
   refine wpAnyF_step 9 (by kernel_rfl) rfl (fun K hK=>?_)
   go_simp
   go_at_call 52
   refine((CE.out w5 (by assumption))).mono ?_
   rintro e w6 ⟨A2,c2,rfl,hownE,hbw6⟩
   dsimp only
   have hSw6:=ST.out w6 (HLw5.trans (hbw6.mono HLw5.size))
   have HLw6:=HLw5.trans (hbw6.mono HLw5.size)
   refine hK _ _ ⟨hSw6.1,hSw6.2.1,hSw6.2.2.1,hSw6.2.2.2⟩ (fun hHeld=>?_)
   clear hK
   clear K
   have hsd:w4.heap.size≤wd.heap.size:=HLwd.size
   have hsz5:w4.heap.size≤w5.heap.size:=HLw5.size
   have rA:RO w6 (fun j=>j<w.heap.size∨j=b2∨(Value.slice VA k vc).ownBlock=some j) 1 A1 nA (x.alts.map (Value.int .i64)):=roOwn (ownsRow_below hownA hbw6 (Nat.le_refl _)) HLwd.size HTS.out
   have rE:RO w6 (fun j=>j<w.heap.size∨j=b2∨(Value.slice VA k vc).ownBlock=some j) 2 A2 nE (flat encLE x.edges):=roOwn hownE HLw5.size HTS.out
   have HRA:=hid rA
   have HRE:=hid rE
   clear rA rE hownA hownE
   refine wpAnyF_take2 (i:=10) (.agg #[.int .u8 x.kind,.slice A1 nA c1,.slice A2 nE c2]) (by kernel_rfl) rfl (by decide) (by kernel_rfl) (by kernel_rfl) (by kernel_rfl) (by kernel_rfl) (fun _ _ _ h=>h) hHeld (by rfl) (fun w' hSw=>?_) ?_
   ·obtain⟨v0,x0,x1,x2⟩:=hSw;go_simp
   simp only[Act.put]
   refine wpAnyF_step 11 (by kernel_rfl) rfl (fun K hK=>?_)
   go_simp
   have hb7:Below w6.heap.size w6 (w6.alloc (.cells #[.int .u8 x.kind,.slice A1 nA c1,.slice A2 nE c2] 54)):=below_new _ _
   have hS7:=ST.out _ (HLw6.trans (hb7.mono HLw6.size))
   refine hK _ _ ⟨hS7.1,hS7.2.1,hS7.2.2.1,hS7.2.2.2⟩ (fun hHeld=>?_)
   clear hK hS7 hb7
   clear K
   have hO6:=ownsRow_below HO4.out (HLw6) (Nat.le_refl _)
   have t26:=(HLw6.block b2 (heap_lt HT4.out)).trans HT4.out
   have hst6:∀i (h:i<a.length),i<k→AuVO w6 (fun j=>j<w.heap.size∨j=b2∨(Value.slice VA k vc).ownBlock=some j) vs i a[i]:=fun i hi hik=>by have:=(HST4.out i hi hik).only (S':=fun j=>j<w.heap.size∨j=b2∨(Value.slice VA k vc).ownBlock=some j) (Only.of_below HLw6) (fun _ _ e=>e) [];rwa [List.append_nil]at this
   have hsz6:w.heap.size≤w6.heap.size:=Nat.le_trans HB4.out.size HLw6.size
   refine wpAnyF_turn 12 (by kernel_rfl) rfl (by decide) (by decide) (fun K hK=>?_)
   refine step_push4 w6 rfl _ _ 48 rfl w.heap.size 54 i0 _ 3 56 Try.underlying48 hi0 hz0 hsz0 hy0 rfl (by omega) (.slice VA k vc) k vs rfl hO6 [.int .u8 x.kind,.slice A1 nA c1,.slice A2 nE c2] 1 _ rfl rfl rfl (by simp[Value.oneCell']) Nat.zero_lt_one (by simp only[maxLen];omega) (by omega) hsz6 ?_
   intro gn cn wn hownN hgN hoN
   refine hK _ _ ?_
   clear hK
   clear K
   have HFIN:=hid (aof_push (HB4.out.trans (HLw6.mono HB4.out.size)) hO6 t26 HRA.out HRE.out hownN hgN hoN hst6 hkl HX.out HNA.out HNE.out (by omega))
   have t2n:=(hoN.block b2 (heap_lt t26) (row_not hO6 t26 (by decide))).trans t26
   have y0:wn.cell? ⟨b2,0,none⟩=some (.slice VA k vc):=by rw[Lib.cell_of_heap t2n];rfl
   have yz:=Lib.frozen_of_heap t2n 0
   clear hownN hgN hoN hO6 t26 t2n hst6
   refine wpAny_take (i:=13) (v:=.pointer (some ⟨b2,0,none⟩)) rfl (by kernel_rfl) (by kernel_rfl) (by kernel_rfl) (fun _ _ _ h=>h) (Or.inl ⟨by rfl,fun w=>(by go_simp)⟩) ?_
   simp only[Act.put]
   refine wpAny_ready (rs:=[14]) (by kernel_rfl) (by simp) (AllReady.cons rfl (fun K hK=>?_) AllReady.nil)
   go_simp
   refine hK _ _ (wpAny_done (by kernel_rfl) ?_ _)
   clear hK
   clear K y0 yz
   generalize wn.setCell ⟨b2,0,none⟩ (.slice (some ⟨gn,0,none⟩) (k+1) cn)=wF at HFIN⊢
   go_wp2_with fail
   go_roundw
   case rel=>exact⟨k+1,by omega,by go_num,HFIN⟩
   case measure=>simp[intOf];omega
  ·have hkn:k=n:=by omega
   subst hkn
   obtain⟨VA,vc,rfl⟩:=row_form hown
   have c2:wr.cell? ⟨w.heap.size+1,0,none⟩=some (.slice VA k vc):=by rw[Lib.cell_of_heap t2];rfl
   have z2:=Lib.frozen_of_heap t2 0
   have i0:=set_same (j:=0) (x:=.slice VA k vc) t2 rfl
   have HFIN:Hid (AofP w a (.returned (.agg #[.slice VA k vc])) wr):=hid ⟨VA,vc,by rw[HN.out],hb,fun u hu=>by
    refine⟨vs,?_,fun i hi=>?_⟩
    ·rw[HN.out]
     exact(roOwn (T:=fun j=>j<w.heap.size) hown (Nat.le_refl _) (fun j hj=>by omega)).up hu (fun _ e=>e)
    ·obtain⟨AA,ac,EA,ec,e0,e1,e2,r0,r1⟩:=hst i hi (by rw[←HN.out];exact hi)
     exact⟨AA,ac,EA,ec,e0,e1,e2,r0.up hu (fun _ e=>.inl e),r1.up hu (fun _ e=>.inl e)⟩⟩
   have HT2:=hid t2
   clear hst hown hb t2
   go_wp2_with fail
   refine bodyPost_ret (results_cell_row rfl _ _ (w.heap.size+1) 50 _ _ _ rfl HT2.out Try.underlying50 rfl infoAutoP) rfl ?_
   exact HFIN.out
end Go.Proofs.Ytgflanlniejflaa
