/-
  Drivers: Memo, Memo2 (texts joined).
-/
import Derived.Test.YtgflanlniejflaaRows
import Derived.Test.YtgflanlniejflaaK01
import Derived.Test.YtgflanlniejflaaK02
namespace Go.Proofs.Ytgflanlniejflaa
open Go.RowKit Go.Maps
open Go.Sort (grow)
set_option maxRecDepth 100000
theorem laidOutD:laidOutB Try.prog=true:=by kernel_rfl
theorem spotKey:WideMaps.KeyLaw Try.prog 185:=deep_law_gate laidOutD (of_decide_eq_true (by kernel_rfl)) (of_decide_eq_true (by kernel_rfl)) (by kernel_rfl) (by kernel_rfl)
theorem lawSpot:Keyed Try.prog 185:=Keyed.of_law spotKey
theorem zeroInt (w:World):(zeroValue 3).run Try.prog w= .ok (.int .i64 0) w:=by kernel_rfl
def I64 (a:Int):Prop:=(Lit.int .i64 a).wf=true
def keyS (a b:Int):Lit:=.string (keyBytes [.int .i64 a,.int .i64 b])
theorem keyOf_spot {a b:Int}(wa:I64 a) (wb:I64 b):keyOf Try.prog 185 (.agg #[.int .i64 a,.int .i64 b])=some (keyS a b):=by
 unfold I64 at wa wb
 unfold keyOf
 simp only[Try.underlying185]
 rw[if_pos (by rw[show Try.prog.keyType 185=true by kernel_rfl];simp[Value.formed,Try.underlying185,show Try.prog.cellsOf 185=2 by kernel_rfl])]
 obtain⟨m,hm⟩:∃m,Try.prog.types.size=m+1:=⟨Try.prog.types.size-1,by kernel_rfl⟩
 rw[hm]
 unfold Program.keyLits
 simp only[Try.underlying185,Value.cells]
 rw[if_pos (by rw[show Try.prog.cellsOf 185=2 by kernel_rfl];exact⟨rfl,by kernel_rfl⟩)]
 simp[Program.keyLits,Try.underlying3,show Try.prog.cellsOf 3=1 by kernel_rfl,wa,wb,keyS]
theorem keyS_inj {a b a' b':Int}(wa:I64 a) (wb:I64 b) (wa':I64 a') (wb':I64 b') (h:keyS a b=keyS a' b'):a=a'∧b=b':=by
 have h1:=keyOf_spot wa wb
 have h2:=keyOf_spot wa' wb'
 rw[h]at h1
 have h3:=keyOf_inj_deep (m:=Try.prog.types.size) (k:=185) (by kernel_rfl) (by kernel_rfl) h1 h2
 injection h3 with h3
 injection h3 with h3
 injection h3 with h4 h5
 injection h4 with _ h4
 injection h5 with h5 _
 injection h5 with _ h5
 exact⟨h4,h5⟩
def MapIs (D:DataW Unit) (f:Int→Int→Option Int):Prop:=
 IsMap D∧∀a b,I64 a→I64 b→match f a b with
  | none=>has D (keyS a b)=false
  | some t=>has D (keyS a b)=true∧D.atKey (keyS a b) (.lit (.int .i64 0))= .lit (.int .i64 t)
theorem MapIs.none {D:DataW Unit}{f:Int→Int→Option Int}(h:MapIs D f){a b:Int}(wa:I64 a) (wb:I64 b) (e:f a b=none):has D (keyS a b)=false:=by
 have:=h.2 a b wa wb;rw[e]at this;exact this
theorem MapIs.some {D:DataW Unit}{f:Int→Int→Option Int}(h:MapIs D f){a b t:Int}(wa:I64 a) (wb:I64 b) (e:f a b=some t):has D (keyS a b)=true∧D.atKey (keyS a b) (.lit (.int .i64 0))= .lit (.int .i64 t):=by
 have:=h.2 a b wa wb;rw[e]at this;exact this
theorem MapIs.start:MapIs (.map []) (fun _ _=>Option.none):=⟨isMap_empty,fun _ _ _ _=>rfl⟩
def putF (f:Int→Int→Option Int) (a b t:Int):Int→Int→Option Int:=fun a' b'=>match f a' b' with
 | some u=>some u
 | none=>if a=a'∧b=b' then some t else none
theorem putF_some {f:Int→Int→Option Int}{a b t u:Int}(h:f a b=some u):putF f a b t=f:=by
 funext a' b'
 unfold putF
 cases h':f a' b' with
 | some v=>rfl
 | none=>
  simp only
  rw[if_neg]
  rintro⟨rfl,rfl⟩
  rw[h]at h'
  cases h'
theorem MapIs.put {D:DataW Unit}{f:Int→Int→Option Int}(h:MapIs D f){a b:Int}(wa:I64 a) (wb:I64 b) (e:f a b=Option.none) (t:Int):MapIs (D.put (keyS a b) (.lit (.int .i64 t))) (putF f a b t):=by
 refine⟨h.1.put _ _,fun a' b' wa' wb'=>?_⟩
 by_cases hq:a=a'∧b=b'
 ·obtain⟨rfl,rfl⟩:=hq
  have:putF f a b t a b=Option.some t:=by unfold putF;rw[e];simp
  rw[this]
  exact⟨has_put_same h.1 (by trivial) _,atKey_put_same h.1 (by trivial) _ _⟩
 ·have hne:keyS a' b'≠keyS a b:=fun h=>hq (by have:=keyS_inj wa' wb' wa wb h;exact⟨this.1.symm,this.2.symm⟩)
  have:putF f a b t a' b'=f a' b':=by
   unfold putF
   cases f a' b' with
   | some u=>rfl
   | none=>simp only;rw[if_neg hq]
  rw[this,has_put_other hne,atKey_put_other hne]
  exact h.2 a' b' wa' wb'
def OwnF (w:World) (b n:Nat) (f:Int→Int→Option Int):Prop:=∃m D,m≤n∧w.ownsMap Try.prog 185 (plainElem (H:=Unit) Try.prog 3) b m D∧MapIs D f
theorem OwnF.only {w w':World}{b n:Nat}{f:Int→Int→Option Int}{S:Nat→Prop}(h:OwnF w b n f) (ho:Only S w w') (hn:¬S b):OwnF w' b n f:=by
 obtain⟨m,D,h1,h2,h3⟩:=h
 exact⟨m,D,h1,ownsMap_only h2 ho hn,h3⟩
theorem OwnF.lt {w:World}{b n:Nat}{f:Int→Int→Option Int}(h:OwnF w b n f):b<w.heap.size:=by
 obtain⟨m,D,h1,h2,h3⟩:=h
 exact h2.lt
def memoCells (nr np tk ca ck:Int) (br bp:Nat):Array Value:=#[.int .i64 nr,.map (some br),.int .i64 np,.map (some bp),.int .i64 tk,.int .i64 ca,.int .i64 ck]
structure MemoAt (w:World) (M br bp n:Nat) (nr np tk:Int) (f g:Int→Int→Option Int):Prop where
 blk:∃ca ck,w.heap[M]? =some (.cells (memoCells nr np tk ca ck br bp) 150 (0,0))
 rules:OwnF w br n f
 picks:OwnF w bp n g
 ne:br≠bp
 ner:br≠M
 nep:bp≠M
def MemoS (M br bp:Nat) (k:Nat):Prop:=k=M∨k=br∨k=bp
theorem MemoAt.only {w w':World}{M br bp n:Nat}{nr np tk:Int}{f g:Int→Int→Option Int}{S:Nat→Prop}(h:MemoAt w M br bp n nr np tk f g) (ho:Only S w w') (hn:∀k,MemoS M br bp k→¬S k):MemoAt w' M br bp n nr np tk f g:=by
 obtain⟨ca,ck,hb⟩:=h.blk
 exact⟨⟨ca,ck,(ho.block M (heap_lt hb) (hn M (.inl rfl))).trans hb⟩,h.rules.only ho (hn br (.inr (.inl rfl))),h.picks.only ho (hn bp (.inr (.inr rfl))),h.ne,h.ner,h.nep⟩
theorem memo_cells {w:World}{M br bp:Nat}{nr np tk ca ck:Int}(h:w.heap[M]? =some (.cells (memoCells nr np tk ca ck br bp) 150 (0,0))):
 w.cell? ⟨M,0,none⟩=some (.int .i64 nr)∧w.cell? ⟨M,1,none⟩=some (.map (some br))∧w.cell? ⟨M,2,none⟩=some (.int .i64 np)∧w.cell? ⟨M,3,none⟩=some (.map (some bp))∧w.cell? ⟨M,4,none⟩=some (.int .i64 tk)∧
 w.cell? ⟨M,5,none⟩=some (.int .i64 ca)∧w.cell? ⟨M,6,none⟩=some (.int .i64 ck)∧w.frozen? ⟨M,5,none⟩=false∧w.frozen? ⟨M,6,none⟩=false:=by
 refine⟨?_,?_,?_,?_,?_,?_,?_,Lib.frozen_of_heap h 5,Lib.frozen_of_heap h 6⟩ <;> (rw[Lib.cell_of_heap h];rfl)
set_option maxHeartbeats 400000 in
theorem there_any (M:Nat) (br:Nat) (w:World) (h:w.cell? ⟨M,1,none⟩=some (.map (some br))):Calls Try.prog 94 #[.pointer (some ⟨M,0,none⟩)] w fun e w'=>e= .returned (.bool true)∧Below w.heap.size w w':=by
 have hnq:∀w,(binOp BinOp.neq 139 (.map (some br)) (.map none)).run Try.prog w= .ok (.bool true) w:=fun w=>by kernel_rfl
 go_enter Try.func94,Try.ntmps94
 go_wp2
 go_ret
 exact⟨rfl,Below.refl _ _⟩
set_option maxHeartbeats 400000 in
theorem atomicAdd_any (b o:Nat) (x:Int) (w:World) (hc:w.cell? ⟨b,o,none⟩=some (.int .i64 x)) (hz:w.frozen? ⟨b,o,none⟩=false):
 Calls Try.prog 102 #[.pointer (some ⟨b,o,none⟩),.int .i64 1] w fun e w'=>∃s,e= .returned (.int .i64 s)∧w'=w.setCell ⟨b,o,none⟩ (.int .i64 s):=by
 obtain⟨s,hs⟩:∃s,(Op.intArith .add .i64 x 1).run Try.prog w= .ok (.int .i64 s) w:=⟨_,rfl⟩
 have hadd:=run_call_add (P:=Try.prog) Try.func103 (by kernel_rfl) (by kernel_rfl) (by kernel_rfl) .i64 (by kernel_rfl) hc hz hs
 go_enter Try.func102,Try.ntmps102
 go_wp2
 go_ret
 exact⟨s,rfl,rfl⟩
def hasB (many tk a b:Int):Bool:=decide (0≤a) && decide (a<many) && decide (0≤b) && decide (b≤tk)
set_option maxHeartbeats 800000 in
theorem has_any (M o:Nat) (many tk a b:Int) (w:World) (hm:w.cell? ⟨M,o,none⟩=some (.int .i64 many)) (ht:w.cell? ⟨M,4,none⟩=some (.int .i64 tk)):
 Calls Try.prog 95 #[.pointer (some ⟨M,0,none⟩),.pointer (some ⟨M,o,none⟩),.agg #[.int .i64 a,.int .i64 b]] w fun e w'=>e= .returned (.bool (hasB many tk a b))∧Below w.heap.size w w':=by
 obtain⟨w1,hw1⟩:∃w1,Hid (w.alloc (.cells #[.int .i64 a,.int .i64 b] 185)=w1):=⟨_,hid rfl⟩
 have hb1:Below w.heap.size w w1:=by rw[←hw1.out];exact below_new _ _
 have h1:w1.heap[w.heap.size]? =some (.cells #[.int .i64 a,.int .i64 b] 185 (0,0)):=by rw[←hw1.out];exact heap_alloc_new _ _
 have s0:w1.cell? ⟨w.heap.size,0,none⟩=some (.int .i64 a):=by rw[Lib.cell_of_heap h1];rfl
 have s1:w1.cell? ⟨w.heap.size,1,none⟩=some (.int .i64 b):=by rw[Lib.cell_of_heap h1];rfl
 have hm:=(hb1.cell (p:=⟨M,o,none⟩) (World.block_lt_of_cell? w _ hm)).trans hm
 have ht:=(hb1.cell (p:=⟨M,4,none⟩) (World.block_lt_of_cell? w _ ht)).trans ht
 obtain⟨b0,e0⟩:∃b0,decide (0≤a)=b0:=⟨_,rfl⟩
 obtain⟨b1,e1⟩:∃b1,decide (a<many)=b1:=⟨_,rfl⟩
 obtain⟨b2,e2⟩:∃b2,decide (0≤b)=b2:=⟨_,rfl⟩
 obtain⟨b3,e3⟩:∃b3,decide (b≤tk)=b3:=⟨_,rfl⟩
 unfold hasB
 rw[e0,e1,e2,e3]
 go_enter Try.func95,Try.ntmps95
 go_wp2_with fail
 rw[hw1.out]
 clear hw1
 cases b0 with
 | false=>
  go_quiet (fail)
  go_wp2
  go_ret
  exact⟨rfl,below_drewN hb1 _⟩
 | true=>
  cases b1 with
  | false=>
   go_quiet (fail)
   go_wp2
   go_ret
   exact⟨rfl,below_drewN hb1 _⟩
  | true=>
   cases b2 with
   | false=>
    go_quiet (fail)
    go_wp2
    go_ret
    exact⟨rfl,below_drewN hb1 _⟩
   | true=>
    cases b3 with
    | false=>
     go_quiet (fail)
     go_wp2
     go_ret
     exact⟨rfl,below_drewN hb1 _⟩
    | true=>
     go_quiet (fail)
     go_wp2
     go_ret
     exact⟨rfl,below_drewN hb1 _⟩
theorem Only.none_drew {w w1:World}(h:Only (fun _=>False) w w1) (k:Nat):Only (fun _=>False) w (w1.drewN k):=⟨h.os,h.tape,h.output,h.size,h.block⟩
theorem OwnF.look {w:World}{b n:Nat}{f:Int→Int→Option Int}(h:OwnF w b n f){a c:Int}(wa:I64 a) (wc:I64 c):
 ∃t,(∀u,f a c=some u→t=u)∧∀w',Only (fun _=>False) w w'→(Instr.lookup 139 (.map (some b)) (.agg #[.int .i64 a,.int .i64 c]) true).run Try.prog w'= .ok (.tuple #[.int .i64 t,.bool (f a c).isSome]) w':=by
 obtain⟨m,D,_,h2,h3⟩:=h
 have hz:plainElem (H:=Unit) Try.prog 3 (.int .i64 0)=some (.lit (.int .i64 0),[]):=plainElem_int Try.underlying3 (by decide)
 have look:∀w',Only (fun _=>False) w w'→∃t,(Instr.lookup 139 (.map (some b)) (.agg #[.int .i64 a,.int .i64 c]) true).run Try.prog w'= .ok (.tuple #[.int .i64 t,.bool (has D (keyS a c))]) w'∧D.atKey (keyS a c) (.lit (.int .i64 0))= .lit (.int .i64 t):=fun w' ho=>by
  obtain⟨v,ps,hr,hv⟩:=(ownsMap_only h2 ho (fun e=>e)).look_ok lawSpot Try.underlying139 (zeroInt w') hz (keyOf_spot wa wc)
  obtain⟨t,rfl,ht,_⟩:=plainElem_int_inv Try.underlying3 hv
  exact⟨t,hr,congrArg Prod.fst ht⟩
 obtain⟨t,_,ht⟩:=look w (Only.refl _ _)
 refine⟨t,fun u hu=>?_,fun w' ho=>?_⟩
 ·have:=(h3.some wa wc hu).2
  rw[ht]at this
  injection this with this
  injection this
 ·obtain⟨t',h1,ht'⟩:=look w' ho
  rw[ht]at ht'
  injection ht' with ht'
  injection ht' with _ ht'
  subst ht'
  have hh:has D (keyS a c)=(f a c).isSome:=by
   cases hf:f a c with
   | none=>exact h3.none wa wc hf
   | some u=>exact(h3.some wa wc hf).1
  rw[h1,hh]
def moreN (n:Nat):Option Int→Nat
 | some _=>n
 | none=>n+1
theorem moreN_le (n:Nat) (o:Option Int):n≤moreN n o∧moreN n o≤n+1:=by
 cases o <;> simp[moreN]
set_option maxHeartbeats 1600000 in
theorem say_any (M o b n:Nat) (f:Int→Int→Option Int) (a c t:Int) (w:World) (wa:I64 a) (wc:I64 c) (wt:I64 t) (hn:n<4000000000) (hk:w.cell? ⟨M,o+1,none⟩=some (.map (some b))) (hf:OwnF w b n f):
 Calls Try.prog 96 #[.pointer (some ⟨M,o,none⟩),.agg #[.int .i64 a,.int .i64 c],.int .i64 t] w fun e w'=>e= .returned (.tuple #[])∧Only (fun k=>k=b) w w'∧OwnF w' b (moreN n (f a c)) (putF f a c t):=by
 obtain⟨w1,hw1⟩:∃w1,Hid (w.alloc (.cells #[.int .i64 a,.int .i64 c] 185)=w1):=⟨_,hid rfl⟩
 have hb1:Below w.heap.size w w1:=by rw[←hw1.out];exact below_new _ _
 have h1:w1.heap[w.heap.size]? =some (.cells #[.int .i64 a,.int .i64 c] 185 (0,0)):=by rw[←hw1.out];exact heap_alloc_new _ _
 have s0:w1.cell? ⟨w.heap.size,0,none⟩=some (.int .i64 a):=by rw[Lib.cell_of_heap h1];rfl
 have s1:w1.cell? ⟨w.heap.size,1,none⟩=some (.int .i64 c):=by rw[Lib.cell_of_heap h1];rfl
 have hk:=(hb1.cell (p:=⟨M,o+1,none⟩) (World.block_lt_of_cell? w _ hk)).trans hk
 have hf1:=hf.only (Only.of_below (S:=fun _=>False) hb1) (fun e=>e)
 obtain⟨u,hu,hlk⟩:=hf1.look wa wc
 have hl1:∀k,(Instr.lookup 139 (.map (some b)) (.agg #[.int .i64 a,.int .i64 c]) true).run Try.prog (w1.drewN k)= .ok (.tuple #[.int .i64 u,.bool (f a c).isSome]) (w1.drewN k):=fun k=>hlk _ ((Only.refl _ _).none_drew k)
 have HF:=hid hf1
 have HB:=hid hb1
 clear hlk hf hf1 hb1
 go_enter Try.func96,Try.ntmps96
 go_wp2_with fail
 rw[hw1.out]
 clear hw1
 go_quiet (fail)
 obtain⟨w2,hw2⟩:∃w2,Hid (w1.drewN nq=w2):=⟨_,hid rfl⟩
 have ho2:Only (fun _=>False) w1 w2:=by rw[←hw2.out];exact(Only.refl _ _).none_drew nq
 rw[hw2.out]
 clear hw2 hl1
 have s0:=(ho2.cell (o:=0) (heap_lt h1) (fun e=>e)).trans s0
 have s1:=(ho2.cell (o:=1) (heap_lt h1) (fun e=>e)).trans s1
 have hk:=(ho2.cell (o:=o+1) (World.block_lt_of_cell? w1 _ hk) (fun e=>e)).trans hk
 have HO:=hid ((Only.of_below (S:=fun k=>k=b) HB.out).trans ho2 (fun _ _ e=>e.elim))
 have HF2:=hid (HF.out.only ho2 (fun e=>e))
 cases hfa:f a c with
 | some v=>
  simp only[Option.isSome_some]
  have HP:=hid (putF_some (t:=t) hfa)
  have HFS:=hid hfa
  clear s0 s1 hk hfa hu
  go_wp2
  go_end0
  refine⟨rfl,HO.out,?_⟩
  rw[HP.out,HFS.out]
  exact HF2.out
 | none=>
  simp only[Option.isSome_none]
  have HFA:=hid hfa
  clear hfa hu
  obtain⟨m,D,q1,q2,q3⟩:=HF2.out
  have Q3:=hid q3
  clear q3
  go_wp2_with fail
  refine still_tail 6 (by kernel_rfl) (by kernel_rfl) ?_
  intro w3 HW3
  have ho3:Only (fun _=>False) w2 w3:=by rw[HW3.out];exact⟨rfl,rfl,rfl,Nat.le_refl _,fun _ _ _=>rfl⟩
  clear HW3
  have h2:=(ho2.block _ (heap_lt h1) (fun e=>e)).trans h1
  have s0:=(ho3.cell (o:=0) (heap_lt h2) (fun e=>e)).trans s0
  have s1:=(ho3.cell (o:=1) (heap_lt h2) (fun e=>e)).trans s1
  have hk:=(ho3.cell (o:=o+1) (World.block_lt_of_cell? w2 _ hk) (fun e=>e)).trans hk
  have hmap:=ownsMap_only q2 ho3 (fun e=>e)
  have HO3:=hid (HO.out.trans ho3 (fun _ _ e=>e.elim))
  have hmx:m<maxLen:=by simp only[maxLen];omega
  simp only[List.take_succ_cons,List.take_zero,List.drop_succ_cons,List.drop_zero]
  repeat still_step
  refine wpStill_nil ?_
  go_wp2_with (at_mapUpdate;refine wpList_mapUpdate_own _ rfl _ _ _ 139 rfl 185 3 lawSpot Try.underlying139 _ b m D rfl hmap hmx _ _ (keyS a c) rfl rfl (keyOf_spot wa wc) _ [] (plainElem_int Try.underlying3 wt) ?_;intro w4 hmap4 hg4)
  go_end0
  refine⟨rfl,?_,m+1,_,by rw[HFA.out];show m+1≤n+1;omega,hmap4,Q3.out.put wa wc HFA.out t⟩
  exact(HO3.out.trans (Only.of_grown hg4) fun k _ e=>by injection e)
end Go.Proofs.Ytgflanlniejflaa
namespace Go.Proofs.Ytgflanlniejflaa
open Go.RowKit Go.Maps
open Go.Sort (grow)
set_option maxRecDepth 100000
def PartIs (o:Nat) (many:Int) (b:Nat) (F:Int→Int→Option Int) (nr np:Int) (br bp:Nat) (f g:Int→Int→Option Int):Prop:=
 (o=0∧many=nr∧b=br∧F=f)∨(o=2∧many=np∧b=bp∧F=g)
theorem part_cells {w:World}{M br bp o b:Nat}{nr np tk ca ck many:Int}{F f g:Int→Int→Option Int}(h:w.heap[M]? =some (.cells (memoCells nr np tk ca ck br bp) 150 (0,0))) (hO:PartIs o many b F nr np br bp f g):
 w.cell? ⟨M,o,none⟩=some (.int .i64 many)∧w.cell? ⟨M,o+1,none⟩=some (.map (some b)):=by
 obtain⟨c0,c1,c2,c3,_⟩:=memo_cells h
 rcases hO with⟨rfl,rfl,rfl,rfl⟩ | ⟨rfl,rfl,rfl,rfl⟩
 ·exact⟨c0,c1⟩
 ·exact⟨c2,c3⟩
theorem MemoAt.part {w:World}{M br bp n o b:Nat}{nr np tk many:Int}{F f g:Int→Int→Option Int}(h:MemoAt w M br bp n nr np tk f g) (hO:PartIs o many b F nr np br bp f g):OwnF w b n F∧b≠M:=by
 rcases hO with⟨rfl,rfl,rfl,rfl⟩ | ⟨rfl,rfl,rfl,rfl⟩
 ·exact⟨h.rules,h.ner⟩
 ·exact⟨h.picks,h.nep⟩
theorem memo_set {w:World}{M br bp n:Nat}{nr np tk ca ck:Int}{f g:Int→Int→Option Int}(h:MemoAt w M br bp n nr np tk f g) (hb:w.heap[M]? =some (.cells (memoCells nr np tk ca ck br bp) 150 (0,0))) (s:Int):
 (MemoAt (w.setCell ⟨M,5,none⟩ (.int .i64 s)) M br bp n nr np tk f g∧(w.setCell ⟨M,5,none⟩ (.int .i64 s)).heap[M]? =some (.cells (memoCells nr np tk s ck br bp) 150 (0,0)))∧
 (MemoAt (w.setCell ⟨M,6,none⟩ (.int .i64 s)) M br bp n nr np tk f g∧(w.setCell ⟨M,6,none⟩ (.int .i64 s)).heap[M]? =some (.cells (memoCells nr np tk ca s br bp) 150 (0,0))):=by
 have h5:(w.setCell ⟨M,5,none⟩ (.int .i64 s)).heap[M]? =some (.cells (memoCells nr np tk s ck br bp) 150 (0,0)):=heap_setCell_same w M 5 _ _ _ hb
 have h6:(w.setCell ⟨M,6,none⟩ (.int .i64 s)).heap[M]? =some (.cells (memoCells nr np tk ca s br bp) 150 (0,0)):=heap_setCell_same w M 6 _ _ _ hb
 exact⟨⟨⟨⟨s,ck,h5⟩,h.rules.only (Only.of_set _ _ _ _) h.ner,h.picks.only (Only.of_set _ _ _ _) h.nep,h.ne,h.ner,h.nep⟩,h5⟩,⟨⟨⟨ca,s,h6⟩,h.rules.only (Only.of_set _ _ _ _) h.ner,h.picks.only (Only.of_set _ _ _ _) h.nep,h.ne,h.ner,h.nep⟩,h6⟩⟩
set_option maxHeartbeats 1600000 in
theorem ask_any (M br bp n o b:Nat) (nr np tk many a c:Int) (F f g:Int→Int→Option Int) (w:World) (wa:I64 a) (wc:I64 c) (h:MemoAt w M br bp n nr np tk f g) (hO:PartIs o many b F nr np br bp f g) (hh:hasB many tk a c=true):
 Calls Try.prog 97 #[.pointer (some ⟨M,0,none⟩),.pointer (some ⟨M,o,none⟩),.agg #[.int .i64 a,.int .i64 c]] w fun e w'=>
  (∃t,(∀u,F a c=some u→t=u)∧e= .returned (.tuple #[.int .i64 t,.bool (F a c).isSome]))∧Only (fun k=>k=M) w w'∧MemoAt w' M br bp n nr np tk f g:=by
 obtain⟨w1,hw1⟩:∃w1,Hid (w.alloc (.cells #[.int .i64 a,.int .i64 c] 185)=w1):=⟨_,hid rfl⟩
 have hb1:Below w.heap.size w w1:=by rw[←hw1.out];exact below_new _ _
 have h1:w1.heap[w.heap.size]? =some (.cells #[.int .i64 a,.int .i64 c] 185 (0,0)):=by rw[←hw1.out];exact heap_alloc_new _ _
 have s0:w1.cell? ⟨w.heap.size,0,none⟩=some (.int .i64 a):=by rw[Lib.cell_of_heap h1];rfl
 have s1:w1.cell? ⟨w.heap.size,1,none⟩=some (.int .i64 c):=by rw[Lib.cell_of_heap h1];rfl
 have hm1:=h.only (Only.of_below (S:=fun _=>False) hb1) (fun _ _ e=>e)
 obtain⟨ca,ck,hB1⟩:=hm1.blk
 have HM1:=hid hm1
 have HB1:=hid hB1
 have HO1:=hid (Only.of_below (S:=fun k=>k=M) hb1)
 have hlt:=heap_lt hB1
 have hne:w.heap.size≠M:=fun e=>by obtain⟨_,_,q⟩:=h.blk;have:=heap_lt q;omega
 obtain⟨k0,k1⟩:=part_cells hB1 hO
 have k4:=(memo_cells hB1).2.2.2.2.1
 have HPI:=hid hO
 have HH1:=hid h1
 clear hm1 hB1 hb1 h hO h1
 go_enter Try.func97,Try.ntmps97
 go_wp2_with fail
 rw[hw1.out]
 clear hw1
 refine(has_any M o many tk a c w1 k0 k4).mono ?_
 rintro e w2 ⟨rfl,hb2⟩
 rw[hh]
 have ho2:=Only.of_below (S:=fun _=>False) hb2
 have HM2:=hid (HM1.out.only ho2 (fun _ _ e=>e))
 have HB2:=hid ((hb2.block _ hlt).trans HB1.out)
 have HO2:=hid (HO1.out.trans ho2 (fun _ _ e=>e.elim))
 have HH2:=hid ((hb2.block _ (heap_lt HH1.out)).trans HH1.out)
 clear k0 k1 k4 s0 s1 HM1 HB1 HO1 hb2 ho2
 obtain⟨_,_,_,_,_,k5,_,z5,_⟩:=memo_cells HB2.out
 go_wp2_with fail
 refine(atomicAdd_any M 5 ca w2 k5 z5).mono ?_
 rintro e w3 ⟨s,rfl,rfl⟩
 obtain⟨⟨hm3,hB3⟩,_⟩:=memo_set HM2.out HB2.out s
 have ho3:=Only.of_set w2 M 5 (.int .i64 s)
 have h3:=(ho3.block _ (heap_lt HH2.out) hne).trans HH2.out
 have HO3:=hid (HO2.out.trans ho3 (fun _ _ e=>e))
 clear k5 z5 HO2 ho3 HH2 HM2 HB2
 generalize w2.setCell ⟨M,5,none⟩ (.int .i64 s)=w3 at hm3 hB3 h3 HO3⊢
 have s0:w3.cell? ⟨w.heap.size,0,none⟩=some (.int .i64 a):=by rw[Lib.cell_of_heap h3];rfl
 have s1:w3.cell? ⟨w.heap.size,1,none⟩=some (.int .i64 c):=by rw[Lib.cell_of_heap h3];rfl
 obtain⟨_,k1⟩:=part_cells hB3 HPI.out
 obtain⟨t,ht,hlk⟩:=(hm3.part HPI.out).1.look wa wc
 have hl1:∀k,(Instr.lookup 139 (.map (some b)) (.agg #[.int .i64 a,.int .i64 c]) true).run Try.prog (w3.drewN k)= .ok (.tuple #[.int .i64 t,.bool (F a c).isSome]) (w3.drewN k):=fun k=>hlk _ ((Only.refl _ _).none_drew k)
 have HM3:=hid hm3
 have HB3:=hid hB3
 have HT:=hid ht
 clear hlk hm3 hB3 ht h3
 go_wp2_with fail
 go_quiet (fail)
 have ho4:=(Only.refl (fun _=>False) w3).none_drew nq
 have HM4:=hid (HM3.out.only ho4 (fun _ _ e=>e))
 have HB4:=hid ((ho4.block M (heap_lt HB3.out) (fun e=>e)).trans HB3.out)
 have HO4:=hid (HO3.out.trans ho4 (fun _ _ e=>e.elim))
 clear s0 s1 k1 hl1 HM3 HB3 HO3 ho4
 generalize w3.drewN nq=w4 at HM4 HB4 HO4⊢
 cases hfa:F a c with
 | none=>
  simp only[Option.isSome_none]
  have HFA:=hid hfa
  clear hfa HT
  go_wp2_with fail
  go_ret2
  exact⟨⟨t,fun u e=>(by rw[HFA.out]at e;cases e),by rw[HFA.out];rfl⟩,HO4.out,HM4.out⟩
 | some v=>
  simp only[Option.isSome_some]
  have HTV:=hid (HT.out v hfa)
  have HFA:=hid hfa
  clear hfa HT
  obtain⟨_,_,_,_,_,_,k6,_,z6⟩:=memo_cells HB4.out
  go_wp2_with fail
  refine(atomicAdd_any M 6 ck w4 k6 z6).mono ?_
  rintro e w5 ⟨s',rfl,rfl⟩
  obtain⟨_,hm5,_⟩:=memo_set HM4.out HB4.out s'
  have HO5:=hid (HO4.out.trans (Only.of_set w4 M 6 (.int .i64 s')) (fun _ _ e=>e))
  have HM5:=hid hm5
  clear k6 z6 hm5
  go_wp2_with fail
  go_ret2
  exact⟨⟨t,fun u e=>(by rw[HFA.out]at e;injection e with e;rw[←e];exact HTV.out),by rw[HFA.out];rfl⟩,HO5.out,HM5.out⟩
set_option maxHeartbeats 800000 in
theorem Pick_any (M br bp n:Nat) (nr np tk a c:Int) (f g:Int→Int→Option Int) (w:World) (wa:I64 a) (wc:I64 c) (h:MemoAt w M br bp n nr np tk f g) (hh:hasB np tk a c=true):
 Calls Try.prog 86 #[.pointer (some ⟨M,0,none⟩),.int .i64 a,.int .i64 c] w fun e w'=>
  (∃t,(∀u,g a c=some u→t=u)∧e= .returned (.tuple #[.int .i64 t,.bool (g a c).isSome]))∧Only (fun k=>k=M) w w'∧MemoAt w' M br bp n nr np tk f g:=by
 obtain⟨ca,ck,hb⟩:=h.blk
 obtain⟨_,k1,_⟩:=memo_cells hb
 have H:=hid h
 clear h hb
 go_enter Try.func86,Try.ntmps86
 go_wp2_with fail
 refine(there_any M br w k1).mono ?_
 rintro e w1 ⟨rfl,hb1⟩
 have ho1:=Only.of_below (S:=fun _=>False) hb1
 have H1:=hid (H.out.only ho1 (fun _ _ e=>e))
 have HO1:=hid (Only.of_below (S:=fun k=>k=M) hb1)
 clear k1 H hb1 ho1
 go_wp2_with fail
 refine(ask_any M br bp n 2 bp nr np tk np a c g f g w1 wa wc H1.out (.inr ⟨rfl,rfl,rfl,rfl⟩) hh).mono ?_
 rintro e w2 ⟨⟨t,ht,rfl⟩,ho2,hm2⟩
 have HT:=hid ht
 have HO2:=hid (HO1.out.trans ho2 (fun _ _ e=>e))
 have HM2:=hid hm2
 clear ht ho2 hm2 HO1
 go_wp2_with fail
 go_ret2
 exact⟨⟨t,HT.out,rfl⟩,HO2.out,HM2.out⟩
set_option maxHeartbeats 800000 in
theorem Rule_any (M br bp n:Nat) (nr np tk a c:Int) (f g:Int→Int→Option Int) (w:World) (wa:I64 a) (wc:I64 c) (h:MemoAt w M br bp n nr np tk f g) (hh:hasB nr tk a c=true):
 Calls Try.prog 101 #[.pointer (some ⟨M,0,none⟩),.int .i64 a,.int .i64 c] w fun e w'=>
  (∃t,(∀u,f a c=some u→t=u)∧e= .returned (.tuple #[.int .i64 t,.bool (f a c).isSome]))∧Only (fun k=>k=M) w w'∧MemoAt w' M br bp n nr np tk f g:=by
 obtain⟨ca,ck,hb⟩:=h.blk
 obtain⟨_,k1,_⟩:=memo_cells hb
 have H:=hid h
 clear h hb
 go_enter Try.func101,Try.ntmps101
 go_wp2_with fail
 refine(there_any M br w k1).mono ?_
 rintro e w1 ⟨rfl,hb1⟩
 have ho1:=Only.of_below (S:=fun _=>False) hb1
 have H1:=hid (H.out.only ho1 (fun _ _ e=>e))
 have HO1:=hid (Only.of_below (S:=fun k=>k=M) hb1)
 clear k1 H hb1 ho1
 go_wp2_with fail
 refine(ask_any M br bp n 0 br nr np tk nr a c f f g w1 wa wc H1.out (.inl ⟨rfl,rfl,rfl,rfl⟩) hh).mono ?_
 rintro e w2 ⟨⟨t,ht,rfl⟩,ho2,hm2⟩
 have HT:=hid ht
 have HO2:=hid (HO1.out.trans ho2 (fun _ _ e=>e))
 have HM2:=hid hm2
 clear ht ho2 hm2 HO1
 go_wp2_with fail
 go_ret2
 exact⟨⟨t,HT.out,rfl⟩,HO2.out,HM2.out⟩
theorem MemoAt.say0 {w w':World}{M br bp n:Nat}{nr np tk:Int}{f g f':Int→Int→Option Int}(h:MemoAt w M br bp n nr np tk f g) (ho:Only (fun k=>k=br) w w'){n':Nat}(hn:n≤n') (hf:OwnF w' br n' f'):MemoAt w' M br bp n' nr np tk f' g:=by
 obtain⟨ca,ck,hb⟩:=h.blk
 obtain⟨m,D,q1,q2,q3⟩:=h.picks.only ho (fun e=>h.ne e.symm)
 exact⟨⟨ca,ck,(ho.block M (heap_lt hb) (fun e=>h.ner e.symm)).trans hb⟩,hf,⟨m,D,by omega,q2,q3⟩,h.ne,h.ner,h.nep⟩
theorem MemoAt.say2 {w w':World}{M br bp n:Nat}{nr np tk:Int}{f g g':Int→Int→Option Int}(h:MemoAt w M br bp n nr np tk f g) (ho:Only (fun k=>k=bp) w w'){n':Nat}(hn:n≤n') (hg:OwnF w' bp n' g'):MemoAt w' M br bp n' nr np tk f g':=by
 obtain⟨ca,ck,hb⟩:=h.blk
 obtain⟨m,D,q1,q2,q3⟩:=h.rules.only ho (fun e=>h.ne e)
 exact⟨⟨ca,ck,(ho.block M (heap_lt hb) (fun e=>h.nep e.symm)).trans hb⟩,⟨m,D,by omega,q2,q3⟩,hg,h.ne,h.ner,h.nep⟩
set_option maxHeartbeats 1600000 in
theorem SayPick_any (M br bp n:Nat) (nr np tk a c t:Int) (f g:Int→Int→Option Int) (w:World) (wa:I64 a) (wc:I64 c) (wt:I64 t) (hn:n<4000000000) (h:MemoAt w M br bp n nr np tk f g) (hh:hasB np tk a c=true) (ht:-1≤t) (ht2:t<32):
 Calls Try.prog 84 #[.pointer (some ⟨M,0,none⟩),.int .i64 a,.int .i64 c,.int .i64 t] w fun e w'=>
  e= .returned (.int .i64 0)∧Only (MemoS M br bp) w w'∧MemoAt w' M br bp (moreN n (g a c)) nr np tk f (putF g a c t):=by
 obtain⟨w1,hw1⟩:∃w1,Hid (w.alloc (.cells #[.int .i64 a,.int .i64 c] 185)=w1):=⟨_,hid rfl⟩
 have hb1:Below w.heap.size w w1:=by rw[←hw1.out];exact below_new _ _
 have h1:w1.heap[w.heap.size]? =some (.cells #[.int .i64 a,.int .i64 c] 185 (0,0)):=by rw[←hw1.out];exact heap_alloc_new _ _
 have hm1:=h.only (Only.of_below (S:=fun _=>False) hb1) (fun _ _ e=>e)
 have HO1:=hid (Only.of_below (S:=MemoS M br bp) hb1)
 obtain⟨ca,ck,hB1⟩:=hm1.blk
 obtain⟨_,k1,_⟩:=memo_cells hB1
 have HM1:=hid hm1
 have HB1:=hid hB1
 have HH1:=hid h1
 have hlt:=heap_lt hB1
 clear h hm1 hb1 hB1 h1
 have d1:decide (t< -1)=false:=decide_eq_false (by omega)
 have d2:decide (32≤t)=false:=decide_eq_false (by omega)
 go_enter Try.func84,Try.ntmps84
 go_wp2_with fail
 rw[hw1.out]
 clear hw1
 refine(there_any M br w1 k1).mono ?_
 rintro e w2 ⟨rfl,hb2⟩
 have h2:=(hb2.block _ (heap_lt HH1.out)).trans HH1.out
 have hB2:=(hb2.block _ hlt).trans HB1.out
 have ho2:=Only.of_below (S:=fun _=>False) hb2
 have HM2:=hid (HM1.out.only ho2 (fun _ _ e=>e))
 have HO2:=hid (HO1.out.trans ho2 (fun _ _ e=>e.elim))
 have HH2:=hid h2
 have HB2:=hid hB2
 have s0:w2.cell? ⟨w.heap.size,0,none⟩=some (.int .i64 a):=by rw[Lib.cell_of_heap h2];rfl
 have s1:w2.cell? ⟨w.heap.size,1,none⟩=some (.int .i64 c):=by rw[Lib.cell_of_heap h2];rfl
 obtain⟨_,_,k2,_,k4,_⟩:=memo_cells hB2
 have q0:=fun d os=>cell_regrown s0 d os
 have q1:=fun d os=>cell_regrown s1 d os
 have ca1:=fun i os=>Calls.regrown_of (by have h9:=has_any M 2 np tk a c (grow (redrawn w2 i) os) (cell_regrown k2 i os) (cell_regrown k4 i os);rw[hh]at h9;exact h9)
 have hlt2:=heap_lt hB2
 clear k1 HM1 HO1 HH1 HB1 h2 hB2 hb2 ho2 s0 s1 k2 k4
 go_wp2_with fail
 refine wp_region_quiet_below (by kernel_rfl) (by kernel_rfl) ?_
 repeat (quiet_step (exact ca1 _ _))
 refine wpQuiet_nil ?_
 rintro _ ⟨⟨dq,osq⟩,rfl⟩
 have hb3:=below_regrown w2 dq osq
 clear q0 q1 ca1
 generalize grow (redrawn w2 dq) osq=w3 at hb3⊢
 have h3:=(hb3.block _ (heap_lt HH2.out)).trans HH2.out
 have hB3:=(hb3.block _ hlt2).trans HB2.out
 have ho3:=Only.of_below (S:=fun _=>False) hb3
 have HM3:=hid (HM2.out.only ho3 (fun _ _ e=>e))
 have HO3:=hid (HO2.out.trans ho3 (fun _ _ e=>e.elim))
 have HH3:=hid h3
 have HB3:=hid hB3
 have s0:w3.cell? ⟨w.heap.size,0,none⟩=some (.int .i64 a):=by rw[Lib.cell_of_heap h3];rfl
 have s1:w3.cell? ⟨w.heap.size,1,none⟩=some (.int .i64 c):=by rw[Lib.cell_of_heap h3];rfl
 have k4:=(memo_cells hB3).2.2.2.2.1
 clear h3 hB3 hb3 ho3 HM2 HO2 HH2 HB2
 go_wp2_with fail
 refine still_tail 5 (by kernel_rfl) (by kernel_rfl) ?_
 intro w4 HW4
 have ho4:Only (fun _=>False) w3 w4:=by rw[HW4.out];exact⟨rfl,rfl,rfl,Nat.le_refl _,fun _ _ _=>rfl⟩
 clear HW4
 have s0:=(ho4.cell (o:=0) (heap_lt HH3.out) (fun e=>e)).trans s0
 have s1:=(ho4.cell (o:=1) (heap_lt HH3.out) (fun e=>e)).trans s1
 have HM4:=hid (HM3.out.only ho4 (fun _ _ e=>e))
 have HO4:=hid (HO3.out.trans ho4 (fun _ _ e=>e.elim))
 have hB4:=(ho4.block _ (heap_lt HB3.out) (fun e=>e)).trans HB3.out
 obtain⟨_,k1⟩:=part_cells (o:=2) (b:=bp) (many:=np) (F:=g) (f:=f) (g:=g) hB4 (.inr ⟨rfl,rfl,rfl,rfl⟩)
 have hown:=HM4.out.picks
 clear HM3 HO3 HH3 HB3 ho4 hB4 k4
 simp only[List.take_succ_cons,List.take_zero,List.drop_succ_cons,List.drop_zero]
 repeat still_step
 refine wpStill_nil ?_
 go_wp2_with fail
 refine(say_any M 2 bp n g a c t w4 wa wc wt hn k1 hown).mono ?_
 rintro e w5 ⟨rfl,ho5,hf5⟩
 have HM5:=hid (HM4.out.say2 ho5 (moreN_le _ _).1 hf5)
 have HO5:=hid (HO4.out.trans (ho5.more (S':=MemoS M br bp) fun k _ e=>.inr (.inr e)) (fun _ _ e=>e))
 clear s0 s1 k1 hown HM4 HO4 ho5 hf5
 go_wp2
 go_ret
 exact⟨rfl,HO5.out,HM5.out⟩
set_option maxHeartbeats 1600000 in
theorem sayRule_none (M br bp n:Nat) (nr np tk a c:Int) (f g:Int→Int→Option Int) (w:World) (wa:I64 a) (wc:I64 c) (hn:n<4000000000) (h:MemoAt w M br bp n nr np tk f g) (hh:hasB nr tk a c=true) (ht2:0≤tk):
 Calls Try.prog 83 #[.pointer (some ⟨M,0,none⟩),.int .i64 a,.int .i64 c,.int .i64 (-1)] w fun e w'=>
  e= .returned (.int .i64 0)∧Only (MemoS M br bp) w w'∧MemoAt w' M br bp (moreN n (f a c)) nr np tk (putF f a c (-1)) g:=by
 obtain⟨w1,hw1⟩:∃w1,Hid (w.alloc (.cells #[.int .i64 a,.int .i64 c] 185)=w1):=⟨_,hid rfl⟩
 have hb1:Below w.heap.size w w1:=by rw[←hw1.out];exact below_new _ _
 have h1:w1.heap[w.heap.size]? =some (.cells #[.int .i64 a,.int .i64 c] 185 (0,0)):=by rw[←hw1.out];exact heap_alloc_new _ _
 have hm1:=h.only (Only.of_below (S:=fun _=>False) hb1) (fun _ _ e=>e)
 have HO1:=hid (Only.of_below (S:=MemoS M br bp) hb1)
 obtain⟨ca,ck,hB1⟩:=hm1.blk
 obtain⟨_,k1,_⟩:=memo_cells hB1
 have HM1:=hid hm1
 have HB1:=hid hB1
 have HH1:=hid h1
 have hlt:=heap_lt hB1
 clear h hm1 hb1 hB1 h1
 have d2:decide (tk< -1)=false:=decide_eq_false (by omega)
 go_enter Try.func83,Try.ntmps83
 go_wp2_with fail
 rw[hw1.out]
 clear hw1
 refine(there_any M br w1 k1).mono ?_
 rintro e w2 ⟨rfl,hb2⟩
 have h2:=(hb2.block _ (heap_lt HH1.out)).trans HH1.out
 have hB2:=(hb2.block _ hlt).trans HB1.out
 have ho2:=Only.of_below (S:=fun _=>False) hb2
 have HM2:=hid (HM1.out.only ho2 (fun _ _ e=>e))
 have HO2:=hid (HO1.out.trans ho2 (fun _ _ e=>e.elim))
 have HH2:=hid h2
 have HB2:=hid hB2
 have s0:w2.cell? ⟨w.heap.size,0,none⟩=some (.int .i64 a):=by rw[Lib.cell_of_heap h2];rfl
 have s1:w2.cell? ⟨w.heap.size,1,none⟩=some (.int .i64 c):=by rw[Lib.cell_of_heap h2];rfl
 obtain⟨k2,_,_,_,k4,_⟩:=memo_cells hB2
 have q0:=fun d os=>cell_regrown s0 d os
 have q1:=fun d os=>cell_regrown s1 d os
 have ca1:=fun i os=>Calls.regrown_of (by have h9:=has_any M 0 nr tk a c (grow (redrawn w2 i) os) (cell_regrown k2 i os) (cell_regrown k4 i os);rw[hh]at h9;exact h9)
 have hlt2:=heap_lt hB2
 clear k1 HM1 HO1 HH1 HB1 h2 hB2 hb2 ho2 s0 s1 k2 k4
 go_wp2_with fail
 refine wp_region_quiet_below (by kernel_rfl) (by kernel_rfl) ?_
 repeat (quiet_step (exact ca1 _ _))
 refine wpQuiet_nil ?_
 rintro _ ⟨⟨dq,osq⟩,rfl⟩
 have hb3:=below_regrown w2 dq osq
 clear q0 q1 ca1
 generalize grow (redrawn w2 dq) osq=w3 at hb3⊢
 have h3:=(hb3.block _ (heap_lt HH2.out)).trans HH2.out
 have hB3:=(hb3.block _ hlt2).trans HB2.out
 have ho3:=Only.of_below (S:=fun _=>False) hb3
 have HM3:=hid (HM2.out.only ho3 (fun _ _ e=>e))
 have HO3:=hid (HO2.out.trans ho3 (fun _ _ e=>e.elim))
 have HH3:=hid h3
 have HB3:=hid hB3
 have s0:w3.cell? ⟨w.heap.size,0,none⟩=some (.int .i64 a):=by rw[Lib.cell_of_heap h3];rfl
 have s1:w3.cell? ⟨w.heap.size,1,none⟩=some (.int .i64 c):=by rw[Lib.cell_of_heap h3];rfl
 have k4:=(memo_cells hB3).2.2.2.2.1
 clear h3 hB3 hb3 ho3 HM2 HO2 HH2 HB2
 go_wp2_with fail
 refine still_tail 5 (by kernel_rfl) (by kernel_rfl) ?_
 intro w4 HW4
 have ho4:Only (fun _=>False) w3 w4:=by rw[HW4.out];exact⟨rfl,rfl,rfl,Nat.le_refl _,fun _ _ _=>rfl⟩
 clear HW4
 have s0:=(ho4.cell (o:=0) (heap_lt HH3.out) (fun e=>e)).trans s0
 have s1:=(ho4.cell (o:=1) (heap_lt HH3.out) (fun e=>e)).trans s1
 have HM4:=hid (HM3.out.only ho4 (fun _ _ e=>e))
 have HO4:=hid (HO3.out.trans ho4 (fun _ _ e=>e.elim))
 have hB4:=(ho4.block _ (heap_lt HB3.out) (fun e=>e)).trans HB3.out
 obtain⟨_,k1⟩:=part_cells (o:=0) (b:=br) (many:=nr) (F:=f) (f:=f) (g:=g) hB4 (.inl ⟨rfl,rfl,rfl,rfl⟩)
 have hown:=HM4.out.rules
 clear HM3 HO3 HH3 HB3 ho4 hB4 k4
 simp only[List.take_succ_cons,List.take_zero,List.drop_succ_cons,List.drop_zero]
 repeat still_step
 refine wpStill_nil ?_
 go_wp2_with fail
 refine(say_any M 0 br n f a c (-1) w4 wa wc (by unfold I64;decide) hn k1 hown).mono ?_
 rintro e w5 ⟨rfl,ho5,hf5⟩
 have HM5:=hid (HM4.out.say0 ho5 (moreN_le _ _).1 hf5)
 have HO5:=hid (HO4.out.trans (ho5.more (S':=MemoS M br bp) fun k _ e=>.inr (.inl e)) (fun _ _ e=>e))
 clear s0 s1 k1 hown HM4 HO4 ho5 hf5
 go_wp2
 go_ret
 exact⟨rfl,HO5.out,HM5.out⟩
set_option maxHeartbeats 1600000 in
theorem sayRule_some (M br bp n:Nat) (nr np tk a c t:Int) (f g:Int→Int→Option Int) (w:World) (wa:I64 a) (wc:I64 c) (wt:I64 t) (hn:n<4000000000) (h:MemoAt w M br bp n nr np tk f g) (hh:hasB nr tk a c=true) (hq:¬t= -1) (ht:c≤t) (ht2:t≤tk):
 Calls Try.prog 83 #[.pointer (some ⟨M,0,none⟩),.int .i64 a,.int .i64 c,.int .i64 t] w fun e w'=>
  e= .returned (.int .i64 0)∧Only (MemoS M br bp) w w'∧MemoAt w' M br bp (moreN n (f a c)) nr np tk (putF f a c t) g:=by
 obtain⟨w1,hw1⟩:∃w1,Hid (w.alloc (.cells #[.int .i64 a,.int .i64 c] 185)=w1):=⟨_,hid rfl⟩
 have hb1:Below w.heap.size w w1:=by rw[←hw1.out];exact below_new _ _
 have h1:w1.heap[w.heap.size]? =some (.cells #[.int .i64 a,.int .i64 c] 185 (0,0)):=by rw[←hw1.out];exact heap_alloc_new _ _
 have hm1:=h.only (Only.of_below (S:=fun _=>False) hb1) (fun _ _ e=>e)
 have HO1:=hid (Only.of_below (S:=MemoS M br bp) hb1)
 obtain⟨ca,ck,hB1⟩:=hm1.blk
 obtain⟨_,k1,_⟩:=memo_cells hB1
 have HM1:=hid hm1
 have HB1:=hid hB1
 have HH1:=hid h1
 have hlt:=heap_lt hB1
 clear h hm1 hb1 hB1 h1
 have d4:decide (t<c)=false:=decide_eq_false (by omega)
 have d2:decide (tk<t)=false:=decide_eq_false (by omega)
 go_enter Try.func83,Try.ntmps83
 go_wp2_with fail
 rw[hw1.out]
 clear hw1
 refine(there_any M br w1 k1).mono ?_
 rintro e w2 ⟨rfl,hb2⟩
 have h2:=(hb2.block _ (heap_lt HH1.out)).trans HH1.out
 have hB2:=(hb2.block _ hlt).trans HB1.out
 have ho2:=Only.of_below (S:=fun _=>False) hb2
 have HM2:=hid (HM1.out.only ho2 (fun _ _ e=>e))
 have HO2:=hid (HO1.out.trans ho2 (fun _ _ e=>e.elim))
 have HH2:=hid h2
 have HB2:=hid hB2
 have s0:w2.cell? ⟨w.heap.size,0,none⟩=some (.int .i64 a):=by rw[Lib.cell_of_heap h2];rfl
 have s1:w2.cell? ⟨w.heap.size,1,none⟩=some (.int .i64 c):=by rw[Lib.cell_of_heap h2];rfl
 obtain⟨k2,_,_,_,k4,_⟩:=memo_cells hB2
 have q0:=fun d os=>cell_regrown s0 d os
 have q1:=fun d os=>cell_regrown s1 d os
 have ca1:=fun i os=>Calls.regrown_of (by have h9:=has_any M 0 nr tk a c (grow (redrawn w2 i) os) (cell_regrown k2 i os) (cell_regrown k4 i os);rw[hh]at h9;exact h9)
 have hlt2:=heap_lt hB2
 clear k1 HM1 HO1 HH1 HB1 h2 hB2 hb2 ho2 s0 s1 k2 k4
 go_wp2_with fail
 refine wp_region_quiet_below (by kernel_rfl) (by kernel_rfl) ?_
 repeat (quiet_step (exact ca1 _ _))
 refine wpQuiet_nil ?_
 rintro _ ⟨⟨dq,osq⟩,rfl⟩
 have hb3:=below_regrown w2 dq osq
 clear q0 q1 ca1
 generalize grow (redrawn w2 dq) osq=w3 at hb3⊢
 have h3:=(hb3.block _ (heap_lt HH2.out)).trans HH2.out
 have hB3:=(hb3.block _ hlt2).trans HB2.out
 have ho3:=Only.of_below (S:=fun _=>False) hb3
 have HM3:=hid (HM2.out.only ho3 (fun _ _ e=>e))
 have HO3:=hid (HO2.out.trans ho3 (fun _ _ e=>e.elim))
 have HH3:=hid h3
 have HB3:=hid hB3
 have s0:w3.cell? ⟨w.heap.size,0,none⟩=some (.int .i64 a):=by rw[Lib.cell_of_heap h3];rfl
 have s1:w3.cell? ⟨w.heap.size,1,none⟩=some (.int .i64 c):=by rw[Lib.cell_of_heap h3];rfl
 have k4:=(memo_cells hB3).2.2.2.2.1
 clear h3 hB3 hb3 ho3 HM2 HO2 HH2 HB2
 go_wp2_with fail
 refine still_tail 5 (by kernel_rfl) (by kernel_rfl) ?_
 intro w4 HW4
 have ho4:Only (fun _=>False) w3 w4:=by rw[HW4.out];exact⟨rfl,rfl,rfl,Nat.le_refl _,fun _ _ _=>rfl⟩
 clear HW4
 have s0:=(ho4.cell (o:=0) (heap_lt HH3.out) (fun e=>e)).trans s0
 have s1:=(ho4.cell (o:=1) (heap_lt HH3.out) (fun e=>e)).trans s1
 have HM4:=hid (HM3.out.only ho4 (fun _ _ e=>e))
 have HO4:=hid (HO3.out.trans ho4 (fun _ _ e=>e.elim))
 have hB4:=(ho4.block _ (heap_lt HB3.out) (fun e=>e)).trans HB3.out
 obtain⟨_,k1⟩:=part_cells (o:=0) (b:=br) (many:=nr) (F:=f) (f:=f) (g:=g) hB4 (.inl ⟨rfl,rfl,rfl,rfl⟩)
 have hown:=HM4.out.rules
 clear HM3 HO3 HH3 HB3 ho4 hB4 k4
 simp only[List.take_succ_cons,List.take_zero,List.drop_succ_cons,List.drop_zero]
 repeat still_step
 refine wpStill_nil ?_
 go_wp2_with fail
 refine(say_any M 0 br n f a c t w4 wa wc wt hn k1 hown).mono ?_
 rintro e w5 ⟨rfl,ho5,hf5⟩
 have HM5:=hid (HM4.out.say0 ho5 (moreN_le _ _).1 hf5)
 have HO5:=hid (HO4.out.trans (ho5.more (S':=MemoS M br bp) fun k _ e=>.inr (.inl e)) (fun _ _ e=>e))
 clear s0 s1 k1 hown HM4 HO4 ho5 hf5
 go_wp2
 go_ret
 exact⟨rfl,HO5.out,HM5.out⟩
theorem SayRule_any (M br bp n:Nat) (nr np tk a c t:Int) (f g:Int→Int→Option Int) (w:World) (wa:I64 a) (wc:I64 c) (wt:I64 t) (hn:n<4000000000) (h:MemoAt w M br bp n nr np tk f g) (hh:hasB nr tk a c=true) (ht:t= -1∨c≤t) (ht2:t≤tk):
 Calls Try.prog 83 #[.pointer (some ⟨M,0,none⟩),.int .i64 a,.int .i64 c,.int .i64 t] w fun e w'=>
  e= .returned (.int .i64 0)∧Only (MemoS M br bp) w w'∧MemoAt w' M br bp (moreN n (f a c)) nr np tk (putF f a c t) g:=by
 have h0:0≤c∧c≤tk:=by
  unfold hasB at hh
  simp only[Bool.and_eq_true,decide_eq_true_eq]at hh
  omega
 by_cases hq:t= -1
 ·subst hq
  exact sayRule_none M br bp n nr np tk a c f g w wa wc hn h hh (by omega)
 ·exact sayRule_some M br bp n nr np tk a c t f g w wa wc wt hn h hh hq (by omega) ht2
def MemoNewPost (nr np tk:Int) (w:World) (e:Ending) (w':World):Prop:=
 ∃M br bp,e= .returned (.tuple #[.pointer (some ⟨M,0,none⟩),.int .i64 0])∧Below w.heap.size w w'∧(∀k,MemoS M br bp k→w.heap.size≤k)∧MemoAt w' M br bp 0 nr np tk (fun _ _=>none) (fun _ _=>none)
set_option maxHeartbeats 800000 in
theorem memoNew_any (nr np tk:Int) (w:World) (h0:0≤nr) (h1:nr≤64) (h2:0≤np) (h3:np≤65536) (h4:0≤tk) (h5:tk≤16384):
 Calls Try.prog 32 #[.int .i64 nr,.int .i64 np,.int .i64 tk] w (MemoNewPost nr np tk w):=by
 have hmm:∀u:World,(Instr.makeMap 139 none).run Try.prog u= .ok (.map (some u.heap.size)) (u.alloc (.map #[] 0)):=fun _=>rfl
 obtain⟨w1,hw1⟩:∃w1,w1=w.alloc (.map #[] 0):=⟨_,rfl⟩
 obtain⟨w2,hw2⟩:∃w2,w2=w1.alloc (.map #[] 0):=⟨_,rfl⟩
 obtain⟨w3,hw3⟩:∃w3,w3=w2.alloc (.cells (memoCells nr np tk 0 0 w.heap.size w1.heap.size) 150):=⟨_,rfl⟩
 have s1:w1.heap.size=w.heap.size+1:=by rw[hw1];simp
 have s2:w2.heap.size=w.heap.size+1+1:=by rw[hw2];simp[s1]
 have b1:Below w.heap.size w w1:=by rw[hw1];exact below_new _ _
 have b2:Below w.heap.size w w2:=by rw[hw2];exact b1.alloc (by omega) _
 have b3:Below w.heap.size w w3:=by rw[hw3];exact b2.alloc (by omega) _
 have m0:OwnF w3 w.heap.size 0 (fun _ _=>none):=by
  refine⟨0,_,Nat.le_refl _,?_,MapIs.start⟩
  rw[hw3,hw2,hw1]
  exact((World.ownsMap_made w Try.prog 185 _).alloc _).alloc _
 have m1:OwnF w3 w1.heap.size 0 (fun _ _=>none):=by
  refine⟨0,_,Nat.le_refl _,?_,MapIs.start⟩
  rw[hw3,hw2]
  exact(World.ownsMap_made w1 Try.prog 185 _).alloc _
 have m2:w3.heap[w2.heap.size]? =some (.cells (memoCells nr np tk 0 0 w.heap.size w1.heap.size) 150 (0,0)):=by rw[hw3];exact heap_alloc_new _ _
 have HM:Hid (MemoAt w3 w2.heap.size w.heap.size w1.heap.size 0 nr np tk (fun _ _=>none) (fun _ _=>none)):=hid ⟨⟨0,0,m2⟩,m0,m1,by omega,by omega,by omega⟩
 have HW:Hid (((w.alloc (.map #[] 0)).alloc (.map #[] 0)).alloc (.cells #[.int .i64 nr,.map (some w.heap.size),.int .i64 np,.map (some (w.heap.size+1)),.int .i64 tk,.int .i64 0,.int .i64 0] 150)=w3):=hid (by rw[hw3,hw2,hw1];simp[memoCells])
 have HS:=hid s1
 have HS2:=hid s2
 clear m0 m1 m2 hw1 hw2 hw3 b1 b2 s1 s2
 go_enter Try.func32,Try.ntmps32
 go_wp2
 rw[HW.out]
 go_ret2
 have q1:=HS.out
 have q2:=HS2.out
 refine⟨w2.heap.size,w.heap.size,w1.heap.size,by rw[q2];rfl,b3,?_,HM.out⟩
 rintro k (rfl | rfl | rfl) <;> omega
end Go.Proofs.Ytgflanlniejflaa
