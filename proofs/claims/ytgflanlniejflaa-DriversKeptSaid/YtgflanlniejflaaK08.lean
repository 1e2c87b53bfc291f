/-
  Drivers: Pst, Pst2, Pst3, Pst4, Pst5 (texts joined).
-/
import Derived.Test.YtgflanlniejflaaK03
import Derived.Test.YtgflanlniejflaaK07
namespace Go.Proofs.Ytgflanlniejflaa
open Go.RowKit Go.Maps
set_option maxRecDepth 100000
def fRules (K:List Drv.K4):Int→Int→Option Int:=fun a b=>Drv.know K 2 a b
def fPicks (nd:Nat) (K:List Drv.K4):Int→Int→Option Int:=fun a b=>if a<nd then Drv.know K 0 a b else Drv.know K 1 (a-nd) b
theorem know_none_of {K:List Drv.K4}{a b p t a' b' p':Int}(h:¬(a=a'∧b=b'∧p=p')):Drv.know (Drv.say K a b p t) a' b' p'=Drv.know K a' b' p':=by
 rw[Drv.know_say]
 cases Drv.know K a' b' p' with
 | some u=>rfl
 | none=>simp only;rw[if_neg h]
theorem know_put {K:List Drv.K4}{a b p t b' p':Int}:Drv.know (Drv.say K a b p t) a b' p'=match Drv.know K a b' p' with
 | some u=>some u
 | none=>if b=b'∧p=p' then some t else none:=by
 rw[Drv.know_say]
 cases Drv.know K a b' p' with
 | some u=>rfl
 | none=>simp
theorem fRules_say2 (K:List Drv.K4) (a p t:Int):fRules (Drv.say K 2 a p t)=putF (fRules K) a p t:=by
 funext a' p'
 exact know_put
theorem fPicks_say2 (nd:Nat) (K:List Drv.K4) (a p t:Int):fPicks nd (Drv.say K 2 a p t)=fPicks nd K:=by
 funext a' p'
 unfold fPicks
 rw[know_none_of (by omega),know_none_of (by omega)]
theorem fRules_say (K:List Drv.K4) (a b p t:Int) (h:a≠2):fRules (Drv.say K a b p t)=fRules K:=by
 funext a' p'
 unfold fRules
 rw[know_none_of (by omega)]
theorem fPicks_say0 (nd:Nat) (K:List Drv.K4) (a p t:Int) (h:a<nd):fPicks nd (Drv.say K 0 a p t)=putF (fPicks nd K) a p t:=by
 funext a' p'
 unfold fPicks putF
 by_cases h':a'<nd
 ·simp only[if_pos h']
  exact know_put
 ·simp only[if_neg h']
  rw[know_none_of (by omega)]
  cases Drv.know K 1 (a'-nd) p' with
  | some u=>rfl
  | none=>simp only;rw[if_neg (by omega)]
theorem fPicks_say1 (nd:Nat) (K:List Drv.K4) (a p t:Int) (h:0≤a):fPicks nd (Drv.say K 1 a p t)=putF (fPicks nd K) (nd+a) p t:=by
 funext a' p'
 unfold fPicks putF
 by_cases h':a'<nd
 ·simp only[if_pos h']
  rw[know_none_of (by omega)]
  cases Drv.know K 0 a' p' with
  | some u=>rfl
  | none=>simp only;rw[if_neg (by omega)]
 ·simp only[if_neg h']
  rw[know_put]
  cases Drv.know K 1 (a'-nd) p' with
  | some u=>rfl
  | none=>
   simp only
   by_cases e:a=a'-nd∧p=p'
   ·rw[if_pos e,if_pos (by omega)]
   ·rw[if_neg e,if_neg (by omega)]
mutual
def TrV (w:World) (S:Nat→Prop):Drv.Tr→List Value→Prop
 | .node r t k e subs,vs=>∃A c xs,vs= [.int .i64 r,.int .i64 t,.int .i64 k,.bool e,.slice A subs.length c]∧RO w S 5 A subs.length xs∧TrsV w S subs xs
def TrsV (w:World) (S:Nat→Prop):List Drv.Tr→List Value→Prop
 | [],vs=>vs= []
 | t ::l,vs=>∃a b,vs=a++b∧TrV w S t a∧TrsV w S l b
end
mutual
theorem TrV.only {w w':World}{S S':Nat→Prop}(ho:Only S w w') (hS:∀b,b<w.heap.size→S' b→S b):∀(t:Drv.Tr) (vs:List Value),TrV w S t vs→TrV w' S' t vs
 | .node _ _ _ _ subs,_,h=>by
  unfold TrV at h⊢
  obtain⟨A,c,xs,h1,h2,h3⟩:=h
  exact⟨A,c,xs,h1,h2.only ho hS,TrsV.only ho hS subs xs h3⟩
theorem TrsV.only {w w':World}{S S':Nat→Prop}(ho:Only S w w') (hS:∀b,b<w.heap.size→S' b→S b):∀(l:List Drv.Tr) (vs:List Value),TrsV w S l vs→TrsV w' S' l vs
 | [],_,h=>by unfold TrsV at h⊢;exact h
 | t ::l,_,h=>by
  unfold TrsV at h⊢
  obtain⟨a,b,h1,h2,h3⟩:=h
  exact⟨a,b,h1,TrV.only ho hS t a h2,TrsV.only ho hS l b h3⟩
end
theorem TrV.len {w:World}{S:Nat→Prop}{t:Drv.Tr}{vs:List Value}(h:TrV w S t vs):vs.length=5:=by
 cases t with
 | node r t k e subs=>
  unfold TrV at h
  obtain⟨A,c,xs,rfl,_⟩:=h
  rfl
theorem TrsV.snoc {w:World}{S:Nat→Prop}{t:Drv.Tr}{a:List Value}(ht:TrV w S t a):∀{l:List Drv.Tr}{vs:List Value},TrsV w S l vs→TrsV w S (l++ [t]) (vs++a)
 | [],_,h=>by
  unfold TrsV at h
  subst h
  show TrsV w S [t] a
  unfold TrsV
  exact⟨a,[],by simp,ht,by unfold TrsV;rfl⟩
 | x ::l,_,h=>by
  unfold TrsV at h
  obtain⟨p,q,rfl,h2,h3⟩:=h
  show TrsV w S (x ::(l++ [t])) _
  unfold TrsV
  exact⟨p,q++a,by rw[List.append_assoc],h2,TrsV.snoc ht h3⟩
def TopT (w:World) (S:Nat→Prop) (B:Nat) (vs:List Value):Prop:=∀A m c,vs[4]? =some (Value.slice A m c)→0<m→∃(ab:Nat) (arr:Array Value),A=some ⟨ab,0,none⟩∧¬S ab∧B≤ab∧w.heap[ab]? =some (.cells arr 65 (0,0))∧m*5≤arr.size
theorem TopT.only {w w':World}{S S' S2:Nat→Prop}{B B':Nat}{vs:List Value}(h:TopT w S B vs) (ho:Only S2 w w') (h2:∀b,B≤b→b<w.heap.size→S2 b→S b) (hS:∀b,B≤b→b<w.heap.size→S' b→S b) (hB:B'≤B):TopT w' S' B' vs:=fun A m c e hm=>by
 obtain⟨ab,arr,e1,e2,e3,e4,e5⟩:=h A m c e hm
 have hl:=heap_lt e4
 exact⟨ab,arr,e1,fun e=>e2 (hS ab e3 hl e),Nat.le_trans hB e3,(ho.block ab hl fun e=>e2 (h2 ab e3 hl e)).trans e4,e5⟩
theorem TopT.nil (w:World) (S:Nat→Prop) (B:Nat) (a b c d:Value):TopT w S B [a,b,c,d,.slice none 0 0]:=fun A m c e hm=>by
 have e:some (Value.slice none 0 0)=some (Value.slice A m c):=e
 injection e with e
 injection e with _ e _
 omega
theorem TopT.of_row {w:World}{S:Nat→Prop}{B n c c':Nat}{A:Option Addr}{xs:List Value}{v0 v1 v2 v3:Value}(h:w.ownsRow B 65 5 (.slice A n c) n xs) (hS:∀j,(Value.slice A n c).ownBlock=some j→¬S j):TopT w S B [v0,v1,v2,v3,.slice A n c']:=fun A' m k e hm=>by
 have e:some (Value.slice A n c')=some (Value.slice A' m k):=e
 injection e with e
 injection e with e1 e2 _
 subst e1 e2
 rcases h.2 with⟨_,h0⟩ | ⟨g,cap,cur,hv,hg,hh,hc,_,hz,_⟩
 ·omega
 ·injection hv with hv
  subst hv
  refine⟨g,cur,rfl,hS g rfl,hg,hh,?_⟩
  have:=Nat.mul_le_mul_right 5 hc
  omega
def TrB (w:World) (S:Nat→Prop) (B:Nat) (t:Drv.Tr) (vs:List Value):Prop:=TrV w (fun j=>S j∨j<B) t vs∧TopT w S B vs
def TrsB (w:World) (S:Nat→Prop) (B:Nat) (l:List Drv.Tr) (vs:List Value):Prop:=TrsV w (fun j=>S j∨j<B) l vs
theorem TrB.only {w w':World}{S S':Nat→Prop}{B:Nat}(ho:Only S w w') (hS:∀b,b<w.heap.size→S' b→S b) (t:Drv.Tr) (vs:List Value) (h:TrB w S B t vs):TrB w' S' B t vs:=
 ⟨TrV.only (ho.more fun _ _ e=>.inl e) (fun b hb e=>e.imp (hS b hb) id) t vs h.1,h.2.only ho (fun _ _ _ e=>e) (fun b _ hb e=>hS b hb e) (Nat.le_refl _)⟩
theorem TrsB.only {w w':World}{S S':Nat→Prop}{B:Nat}(ho:Only S w w') (hS:∀b,b<w.heap.size→S' b→S b) (l:List Drv.Tr) (vs:List Value) (h:TrsB w S B l vs):TrsB w' S' B l vs:=
 TrsV.only (ho.more fun _ _ e=>.inl e) (fun b hb e=>e.imp (hS b hb) id) l vs h
theorem TrsB.snoc {w:World}{S:Nat→Prop}{B:Nat}{t:Drv.Tr}{a:List Value}(ht:TrB w S B t a){l:List Drv.Tr}{vs:List Value}(h:TrsB w S B l vs):TrsB w S B (l++ [t]) (vs++a):=TrsV.snoc ht.1 h
def WalkAt (w:World) (S:Nat→Prop) (B0 g:Nat) (s:Value) (x:Drv.Wk):Prop:=
 ∃A ca xs,w.heap[g]? =some (.cells (walkCells (x.sort:Nat) x.what x.start x.state x.over s (.slice A x.alts.length ca)) 116 (0,0))∧RO w S 1 A x.alts.length (x.alts.map (Value.int .i64))∧w.ownsRow B0 65 5 s x.subs.length xs∧TrsB w S B0 x.subs xs∧x.alts.length≤ca
theorem WalkAt.only {w w':World}{S S' S2:Nat→Prop}{B0 g:Nat}{s:Value}{x:Drv.Wk}(h:WalkAt w S B0 g s x) (ho:Only S2 w w') (h1:∀b,b<w.heap.size→S2 b→S b) (h2:∀b,b<w.heap.size→S' b→S b) (hg:¬S2 g) (hs:∀k,s.ownBlock=some k→¬S2 k):WalkAt w' S' B0 g s x:=by
 obtain⟨A,ca,xs,q1,q2,q3,q4⟩:=h
 have ho':=ho.more h1
 exact⟨A,ca,xs,(ho.block g (heap_lt q1) hg).trans q1,q2.only ho' h2,ownsRow_only q3 ho hs,TrsB.only ho' h2 _ _ q4.1,q4.2⟩
structure Fx where
 B0:Nat
 P:Nat
 pc:Pc
 br:Nat
 bp:Nat
 c:Drv.DC
structure Vx where
 vo:Value
 gs:List Nat
 ss:List Value
def TS (f:Fx) (v:Vx) (k:Nat):Prop:=k=f.P∨MemoS f.pc.M f.br f.bp k∨v.vo.ownBlock=some k∨k∈v.gs∨∃s∈v.ss,s.ownBlock=some k
structure PstAt (w:World) (f:Fx) (v:Vx) (k:Drv.Cf):Prop where
 par:∃r t q b s,ParAt w f.P f.pc ⟨k.used,k.deep,k.spec,v.vo,k.pos,(Drv.nonreal k.opn:Nat),r,t,q,b,s,k.e,k.ended⟩∧TrB w (TS f v) f.B0 k.tree [.int .i64 r,.int .i64 t,.int .i64 q,.bool b,s]
 memo:MemoAt w f.pc.M f.br f.bp k.known.length f.c.starts.length (f.c.decs.length+f.c.preds.length:Nat) f.c.w.length (fRules k.known) (fPicks f.c.decs.length k.known)
 row:OwnO w f.B0 152 1 v.vo k.opn.length (v.gs.reverse.map fun g=>.pointer (some ⟨g,0,none⟩))
 gl:v.gs.length=k.opn.length
 sl:v.ss.length=k.opn.length
 walks:∀(i:Nat) (x:Drv.Wk) (g:Nat) (s:Value),k.opn[i]? =some x→v.gs[i]? =some g→v.ss[i]? =some s→WalkAt w (TS f v) f.B0 g s x
 gd:v.gs.Pairwise (·≠·)
 sd:v.ss.Pairwise fun s s'=>∀j,s.ownBlock=some j→s'.ownBlock≠some j
 ge:∀j,TS f v j→f.B0≤j
 rd:∀j,v.vo.ownBlock=some j→j≠f.P∧¬MemoS f.pc.M f.br f.bp j∧j∉v.gs∧∀s∈v.ss,s.ownBlock≠some j
theorem not_map {w:World}{b n k:Nat}{F:Int→Int→Option Int}{cs:Array Value}{T:TypeId}(h:OwnF w b n F) (hk:w.heap[k]? =some (.cells cs T (0,0))):b≠k:=by
 rintro rfl
 obtain⟨m,D,_,⟨es,cl,hb,_⟩,_⟩:=h
 rw[hk]at hb
 cases hb
theorem not_cells {w:World}{a b:Nat}{cs ds:Array Value}{T U:TypeId}(h:w.heap[a]? =some (.cells cs T (0,0))) (g:w.heap[b]? =some (.cells ds U (0,0))) (hne:T≠U):a≠b:=by
 rintro rfl
 rw[h]at g
 injection g with g
 injection g with _ g _
 exact hne g
section
variable {w:World}{f:Fx}{v:Vx}{k:Drv.Cf}
theorem PstAt.blkP (h:PstAt w f v k):∃cs,w.heap[f.P]? =some (.cells cs 112 (0,0)):=by
 obtain⟨r,t,q,b,s,hp,_⟩:=h.par
 exact⟨_,hp⟩
theorem PstAt.at (h:PstAt w f v k){i:Nat}(hi:i<k.opn.length):∃x g s,k.opn[i]? =some x∧v.gs[i]? =some g∧v.ss[i]? =some s∧WalkAt w (TS f v) f.B0 g s x:=by
 have h1:=h.gl
 have h2:=h.sl
 have e0:=List.getElem?_eq_getElem hi
 have e1:=List.getElem?_eq_getElem (l:=v.gs) (i:=i) (by omega)
 have e2:=List.getElem?_eq_getElem (l:=v.ss) (i:=i) (by omega)
 exact⟨_,_,_,e0,e1,e2,h.walks i _ _ _ e0 e1 e2⟩
theorem PstAt.gblk (h:PstAt w f v k){g:Nat}(hg:g∈v.gs):∃cs,w.heap[g]? =some (.cells cs 116 (0,0)):=by
 obtain⟨i,hi,e⟩:=List.getElem_of_mem hg
 have h1:=h.gl
 obtain⟨x,g',s,_,e1,_,A,ca,xs,q1,_⟩:=h.at (i:=i) (by omega)
 rw[List.getElem?_eq_getElem hi,e]at e1
 injection e1 with e1
 subst e1
 exact⟨_,q1⟩
theorem PstAt.srow (h:PstAt w f v k){s:Value}(hs:s∈v.ss):∃n xs,w.ownsRow f.B0 65 5 s n xs:=by
 obtain⟨i,hi,e⟩:=List.getElem_of_mem hs
 have h1:=h.sl
 obtain⟨x,g,s',_,_,e1,A,ca,xs,_,_,q3,_⟩:=h.at (i:=i) (by omega)
 rw[List.getElem?_eq_getElem hi,e]at e1
 injection e1 with e1
 subst e1
 exact⟨_,_,q3⟩
theorem PstAt.neP (h:PstAt w f v k):(∀j,MemoS f.pc.M f.br f.bp j→j≠f.P)∧(∀j,v.vo.ownBlock=some j→j≠f.P)∧(∀g∈v.gs,g≠f.P)∧(∀s∈v.ss,∀j,s.ownBlock=some j→j≠f.P):=by
 obtain⟨cs,hp⟩:=h.blkP
 refine⟨fun j hj=>?_,fun j hj=>(h.rd j hj).1,fun g hg=>?_,fun s hs j hj=>?_⟩
 ·obtain⟨ca,ck,hm⟩:=h.memo.blk
  rcases hj with rfl | rfl | rfl
  ·exact not_cells hm hp (by decide)
  ·exact not_map h.memo.rules hp
  ·exact not_map h.memo.picks hp
 ·obtain⟨cs',hg'⟩:=h.gblk hg
  exact not_cells hg' hp (by decide)
 ·obtain⟨n,xs,hr⟩:=h.srow hs
  rintro rfl
  exact row_not hr hp (by decide) hj
theorem PstAt.ltTS (h:PstAt w f v k):∀j,TS f v j→j<w.heap.size:=by
 intro j hj
 rcases hj with rfl | (rfl | rfl | rfl) | hj | hj | ⟨s,hs,hj⟩
 ·obtain⟨cs,hp⟩:=h.blkP;exact heap_lt hp
 ·obtain⟨ca,ck,hm⟩:=h.memo.blk;exact heap_lt hm
 ·exact h.memo.rules.lt
 ·exact h.memo.picks.lt
 ·exact(h.row.lt j hj).2
 ·obtain⟨cs',hg'⟩:=h.gblk hj;exact heap_lt hg'
 ·obtain⟨n,xs,hr⟩:=h.srow hs;exact(hr.lt j hj).2
theorem PstAt.parSet {w':World}(h:PstAt w f v k) (ho:Only (fun j=>j=f.P) w w') (k':Drv.Cf) (e1:k'.opn=k.opn) (e2:k'.known=k.known) (e3:k'.tree=k.tree)
 (hp:∀r t q b s,ParAt w f.P f.pc ⟨k.used,k.deep,k.spec,v.vo,k.pos,(Drv.nonreal k.opn:Nat),r,t,q,b,s,k.e,k.ended⟩→ParAt w' f.P f.pc ⟨k'.used,k'.deep,k'.spec,v.vo,k'.pos,(Drv.nonreal k.opn:Nat),r,t,q,b,s,k'.e,k'.ended⟩):PstAt w' f v k':=by
 obtain⟨n1,n2,n3,n4⟩:=h.neP
 obtain⟨r,t,q,b,s,hpar,htr⟩:=h.par
 have ho':=ho.more (S':=TS f v) fun j _ e=>.inl e
 refine⟨⟨r,t,q,b,s,by rw[e1];exact hp r t q b s hpar,by rw[e3];exact TrB.only ho' (fun _ _ e=>e) _ _ htr⟩,?_,?_,by rw[e1];exact h.gl,by rw[e1];exact h.sl,?_,h.gd,h.sd,h.ge,h.rd⟩
 ·rw[e2];exact h.memo.only ho n1
 ·rw[e1];exact h.row.only ho n2
 ·intro i x g s' h1 h2 h3
  rw[e1]at h1
  exact(h.walks i x g s' h1 h2 h3).only ho (fun j _ e=>.inl e) (fun _ _ e=>e) (n3 g (List.mem_of_getElem? h2)) (n4 s' (List.mem_of_getElem? h3))
theorem PstAt.below {w':World}{S:Nat→Prop}(h:PstAt w f v k) (ho:Only S w w') (hS:∀j,S j→f.B0≤j):Below f.B0 w w':=ho.below' hS (by
 obtain⟨cs,hp⟩:=h.blkP
 have:=heap_lt hp
 have:=h.ge f.P (.inl rfl)
 omega)
theorem PstAt.geP (h:PstAt w f v k):f.B0≤f.P:=h.ge f.P (.inl rfl)
end
set_option maxHeartbeats 400000 in
theorem endP_any (w:World) (f:Fx) (v:Vx) (k:Drv.Cf) (e:Int) (h:PstAt w f v k):
 Calls Try.prog 56 #[.pointer (some ⟨f.P,0,none⟩),.int .i64 e] w fun r w'=>r= .returned (.tuple #[])∧PstAt w' f v (k.fin e)∧Below f.B0 w w':=by
 obtain⟨r,t,q,b,s,hpar,_⟩:=h.par
 refine(end_any f.P f.pc _ e w hpar).mono ?_
 rintro r' w' ⟨rfl,ho,hp⟩
 refine⟨rfl,h.parSet ho (k.fin e) rfl rfl rfl (fun r1 t1 q1 b1 s1 h1=>?_),h.below ho fun j e=>by rw[e];exact h.geP⟩
 have h2:parCells f.pc ⟨k.used,k.deep,k.spec,v.vo,k.pos,(Drv.nonreal k.opn:Nat),r,t,q,b,s,k.e,k.ended⟩=parCells f.pc ⟨k.used,k.deep,k.spec,v.vo,k.pos,(Drv.nonreal k.opn:Nat),r1,t1,q1,b1,s1,k.e,k.ended⟩:=by
  have:=hpar.symm.trans h1
  injection this with this
  injection this
 simp only[parCells,Array.mk.injEq,List.cons.injEq,Value.int.injEq,Value.bool.injEq,true_and,and_true]at h2
 obtain⟨rfl,rfl,rfl,rfl,rfl⟩:=h2
 exact hp
end Go.Proofs.Ytgflanlniejflaa
namespace Go.Proofs.Ytgflanlniejflaa
open Go.RowKit Go.Maps
set_option maxRecDepth 100000
theorem par_same {w:World}{P:Nat}{c:Pc}{a1 a2 a3 a4 a5 a6:Int}{vo:Value}{r t q r1 t1 q1:Int}{b b1 ed:Bool}{s s1:Value}
 (h:ParAt w P c ⟨a1,a2,a3,vo,a4,a5,r,t,q,b,s,a6,ed⟩) (h1:ParAt w P c ⟨a1,a2,a3,vo,a4,a5,r1,t1,q1,b1,s1,a6,ed⟩):r=r1∧t=t1∧q=q1∧b=b1∧s=s1:=by
 have:=h.symm.trans h1
 injection this with this
 injection this with this _ _
 simp only[parCells,Array.mk.injEq,List.cons.injEq,Value.int.injEq,Value.bool.injEq,true_and,and_true]at this
 exact this
def PayP (w:World) (f:Fx) (v:Vx) (k:Drv.Cf) (n:Int) (r:Ending) (w':World):Prop:=
 Below f.B0 w w'∧((f.pc.fuel-k.used<n∧r= .returned (.bool false)∧PstAt w' f v (k.fin 6))∨(¬f.pc.fuel-k.used<n∧r= .returned (.bool true)∧PstAt w' f v {k with used:=k.used+n}))
theorem PstAt.begin {w w':World}{f:Fx}{v:Vx}{k:Drv.Cf}{x:Drv.Wk}{A:Option Addr}{ca:Nat}(h:PstAt w f v k) (hsub:x.subs= []) (halt:RO w (TS f v) 1 A x.alts.length (x.alts.map (Value.int .i64))) (hca:x.alts.length≤ca)
 (hdep:f.pc.depth=(f.c.depth:Int)){r t q:Int}{b:Bool}{s:Value}(hpar:ParAt w f.P f.pc ⟨k.used,k.deep,k.spec,v.vo,k.pos,(Drv.nonreal k.opn:Nat),r,t,q,b,s,k.e,k.ended⟩){e:Ending}
 (hp:BeginPost f.P f.pc ⟨k.used,k.deep,k.spec,v.vo,k.pos,(Drv.nonreal k.opn:Nat),r,t,q,b,s,k.e,k.ended⟩ f.B0 k.opn.length (v.gs.reverse.map fun g=>.pointer (some ⟨g,0,none⟩)) (x.sort:Nat) x.what x.state x.over (.slice none 0 0) (.slice A x.alts.length ca) w e w'):
 e= .returned (.tuple #[])∧Below f.B0 w w'∧∃v',PstAt w' f v' (Drv.beginM f.c x k):=by
 obtain⟨rfl,hp⟩:=hp
 obtain⟨n1,n2,n3,n4⟩:=h.neP
 have hltP:=h.ltTS f.P (.inl rfl)
 have hgeP:=h.geP
 refine⟨rfl,?_⟩
 rcases hp with⟨hd,ho,hpp⟩ | ⟨hd,g,ob,oc,hg,hob,ho,hG,hrow,hpp⟩
 ·have hb:Drv.beginM f.c x k=k.fin 7:=by unfold Drv.beginM;rw[if_pos (by omega)]
  rw[hb]
  refine⟨h.below ho fun j e=>by rw[e];exact hgeP,v,h.parSet ho (k.fin 7) rfl rfl rfl (fun r1 t1 q1 b1 s1 g1=>?_)⟩
  obtain⟨rfl,rfl,rfl,rfl,rfl⟩:=par_same hpar g1
  exact hpp
 ·have hb:Drv.beginM f.c x k= {k with opn:={x with start:=k.pos} ::k.opn,deep:=max k.deep (k.opn.length+1:Int),spec:=if 1<x.sort then k.spec+1 else k.spec}:=by
   unfold Drv.beginM;rw[if_neg (by omega)]
  rw[hb]
  obtain⟨r0,t0,q0,b0,s0,hpar0,htr⟩:=h.par
  obtain⟨rfl,rfl,rfl,rfl,rfl⟩:=par_same hpar hpar0
  have hoT:=ho.more (S':=TS f v) fun j _ e=>e.elim .inl fun e=>.inr (.inr (.inl e))
  have hgs:∀g'∈v.gs,g'<w.heap.size:=fun g' hg'=>h.ltTS g' (.inr (.inr (.inr (.inl hg'))))
  have hss:∀s'∈v.ss,∀j,s'.ownBlock=some j→j<w.heap.size:=fun s' hs' j hj=>h.ltTS j (.inr (.inr (.inr (.inr ⟨s',hs',hj⟩))))
  have hT:∀j,j<w.heap.size→TS f ⟨.slice (some ⟨ob,0,none⟩) (k.opn.length+1) oc,g ::v.gs,.slice none 0 0 ::v.ss⟩ j→TS f v j:=fun j hj e=>by
   rcases e with e | e | e | e | ⟨s',hs',e⟩
   ·exact .inl e
   ·exact .inr (.inl e)
   ·have e:some ob=some j:=e
    injection e with e
    subst e
    rcases hob with hob | hob
    ·exact .inr (.inr (.inl hob))
    ·omega
   ·rcases List.mem_cons.1 e with rfl | e
    ·omega
    ·exact .inr (.inr (.inr (.inl e)))
   ·rcases List.mem_cons.1 hs' with rfl | hs'
    ·cases e
    ·exact .inr (.inr (.inr (.inr ⟨s',hs',e⟩)))
  have nv:∀j,v.vo.ownBlock=some j→j∉v.gs∧¬MemoS f.pc.M f.br f.bp j∧∀s'∈v.ss,s'.ownBlock≠some j:=fun j hj=>⟨(h.rd j hj).2.2.1,(h.rd j hj).2.1,(h.rd j hj).2.2.2⟩
  have hwb:Below f.B0 w w':=h.below ho fun j e=>by
   rcases e with e | e
   ·rw[e];exact hgeP
   ·exact h.ge j (.inr (.inr (.inl e)))
  refine⟨hwb,⟨.slice (some ⟨ob,0,none⟩) (k.opn.length+1) oc,g ::v.gs,.slice none 0 0 ::v.ss⟩,⟨r,t,q,b,s,?_,TrB.only hoT hT _ _ htr⟩,?_,?_,?_,?_,?_,?_,?_,?_,?_⟩
  ·have e1:(Drv.nonreal ({x with start:=k.pos} ::k.opn):Int)=if(x.sort:Int)=0 then(Drv.nonreal k.opn:Int)else(Drv.nonreal k.opn:Int)+1:=by
    rw[Drv.nonreal_cons]
    by_cases h0:x.sort=0
    ·rw[if_pos (by omega:(x.sort:Int)=0)];simp[h0]
    ·rw[if_neg (by omega:¬(x.sort:Int)=0)];simp[h0]
   have e2:(if 1<(x.sort:Int)then k.spec+1 else k.spec)=if 1<x.sort then k.spec+1 else k.spec:=by
    by_cases h0:1<x.sort
    ·rw[if_pos h0,if_pos (by omega)]
    ·rw[if_neg h0,if_neg (by omega)]
   simp only[e2]at hpp
   show ParAt w' f.P f.pc ⟨k.used,_,_,_,k.pos,(Drv.nonreal ({x with start:=k.pos} ::k.opn):Int),r,t,q,b,s,k.e,k.ended⟩
   rw[e1]
   exact hpp
  ·exact h.memo.only ho fun j hj e=>by
    rcases e with e | e
    ·exact n1 j hj e
    ·exact(nv j e).2.1 hj
  ·refine .inl ?_
   show w'.ownsRow f.B0 _ 1 _ (k.opn.length+1) (((g ::v.gs).reverse).map fun g=>.pointer (some ⟨g,0,none⟩))
   rw[List.reverse_cons,List.map_append]
   exact hrow
  ·show v.gs.length+1=k.opn.length+1;rw[h.gl]
  ·show v.ss.length+1=k.opn.length+1;rw[h.sl]
  ·intro i y g' s' e1 e2 e3
   cases i with
   | zero=>
    injection e1 with e1
    injection e2 with e2
    injection e3 with e3
    subst e1 e2 e3
    refine⟨A,ca,[],hG,halt.only hoT hT,?_,?_,hca⟩
    ·show w'.ownsRow f.B0 _ 5 (.slice none 0 0) x.subs.length []
     rw[hsub];exact World.ownsRow_nil _ _ _ _
    ·show TrsB w' _ _ x.subs []
     rw[hsub];unfold TrsB TrsV;rfl
   | succ i=>
    have e2':v.gs[i]? =some g':=e2
    have e3':v.ss[i]? =some s':=e3
    refine(h.walks i y g' s' e1 e2' e3').only ho (fun j _ e=>e.elim .inl fun e=>.inr (.inr (.inl e))) hT (fun e=>?_) (fun j hj e=>?_)
    ·rcases e with e | e
     ·exact n3 g' (List.mem_of_getElem? e2') e
     ·exact(nv g' e).1 (List.mem_of_getElem? e2')
    ·rcases e with e | e
     ·exact n4 s' (List.mem_of_getElem? e3') j hj e
     ·exact(nv j e).2.2 s' (List.mem_of_getElem? e3') hj
  ·exact List.pairwise_cons.2 ⟨fun g' hg'=>by have:=hgs g' hg';omega,h.gd⟩
  ·exact List.pairwise_cons.2 ⟨fun s' _ j hj=>(by cases hj),h.sd⟩
  ·intro j hj
   rcases hj with e | e | e | e | ⟨s',hs',e⟩
   ·exact h.ge j (.inl e)
   ·exact h.ge j (.inr (.inl e))
   ·exact(hrow.lt j e).1
   ·rcases List.mem_cons.1 e with rfl | e
    ·omega
    ·exact h.ge j (.inr (.inr (.inr (.inl e))))
   ·rcases List.mem_cons.1 hs' with rfl | hs'
    ·cases e
    ·exact h.ge j (.inr (.inr (.inr (.inr ⟨s',hs',e⟩))))
  ·intro j hj
   have hj:some ob=some j:=hj
   injection hj with hj
   subst hj
   rcases hob with hob | hob
   ·obtain⟨m1,m2,m3⟩:=nv ob hob
    have hlt:=h.ltTS ob (.inr (.inr (.inl hob)))
    refine⟨n2 ob hob,m2,fun e=>?_,fun s' hs' e=>?_⟩
    ·rcases List.mem_cons.1 e with e | e
     ·omega
     ·exact m1 e
    ·rcases List.mem_cons.1 hs' with rfl | hs'
     ·cases e
     ·exact m3 s' hs' e
   ·refine⟨by omega,fun e=>?_,fun e=>?_,fun s' hs' e=>?_⟩
    ·have:=h.ltTS ob (.inr (.inl e));omega
    ·rcases List.mem_cons.1 e with e | e
     ·exact row_not hrow hG (by decide) (by rw[←e];rfl)
     ·have:=hgs ob e;omega
    ·rcases List.mem_cons.1 hs' with rfl | hs'
     ·cases e
     ·have:=hss s' hs' ob e;omega
end Go.Proofs.Ytgflanlniejflaa
namespace Go.Proofs.Ytgflanlniejflaa
open Go.RowKit Go.Maps
set_option maxRecDepth 100000
theorem OwnO.form {w:World}{base:Nat}{e:TypeId}{size:Nat}{v:Value}{n:Nat}{xs:List Value}(h:OwnO w base e size v n xs):∃A c,v= .slice A n c∧n≤c:=by
 rcases h with h | ⟨g,rfl,_⟩
 ·rcases h.2 with⟨rfl,rfl⟩ | ⟨g,c,_,rfl,_,_,h3,_⟩
  ·exact⟨_,_,rfl,Nat.le_refl _⟩
  ·exact⟨_,_,rfl,h3⟩
 ·exact⟨_,_,rfl,Nat.le_refl _⟩
theorem row_not_map {w:World}{base b n m:Nat}{e:TypeId}{size:Nat}{v:Value}{xs:List Value}{F:Int→Int→Option Int}(h:w.ownsRow base e size v n xs) (hm:OwnF w b m F):v.ownBlock≠some b:=fun e1=>by
 rcases h.2 with⟨rfl,_⟩ | ⟨g,c,cs,rfl,_,hh,_⟩
 ·cases e1
 ·have e1:some g=some b:=e1
  injection e1 with e1
  exact not_map hm hh e1.symm
theorem OwnO.last {w:World}{base:Nat}{e:TypeId}{v:Value}{n:Nat}{xs:List Value}{p:Value}(h:OwnO w base e 1 v (n+1) (xs++ [p])):
 ∃ob oc,v= .slice (some ⟨ob,0,none⟩) (n+1) oc∧n+1≤oc∧base≤ob∧ob<w.heap.size∧xs.length=n∧(∀j u,(xs++ [p])[j]? =some u→w.cell? ⟨ob,j,none⟩=some u):=by
 rcases h with h | ⟨g,rfl,h1,h2,h3,h4⟩
 ·obtain⟨A,c,rfl,hr,_⟩:=Reads.own h
  have hl:=h.1
  obtain⟨b,off,rfl,hb,hc⟩:=hr.2 (by omega)
  rcases h.2 with⟨h0,_⟩ | ⟨g,cap,cur,hv,hg,_,h3,_⟩
  ·cases h0
  ·injection hv with hv _ hc2
   injection hv with hv
   injection hv with hv1 hv2 _
   subst hv1 hv2 hc2
   simp at hl
   exact⟨b,c,rfl,h3,hg,hb,by omega,fun j u hu=>by have:=hc j u hu;rwa [Nat.zero_add]at this⟩
 ·simp at h1
  exact⟨g,n+1,rfl,Nat.le_refl _,h2,h3,by omega,h4⟩
set_option maxHeartbeats 400000 in
theorem beginP_any (w:World) (f:Fx) (v:Vx) (k:Drv.Cf) (x:Drv.Wk) (A:Option Addr) (ca:Nat) (start:Int) (h:PstAt w f v k) (hsub:x.subs= []) (halt:RO w (TS f v) 1 A x.alts.length (x.alts.map (Value.int .i64))) (hca:x.alts.length≤ca) (hdep:f.pc.depth=(f.c.depth:Int))
 (hn:k.opn.length<1000000) (hs0:0≤k.spec) (hs1:k.spec≤4000000000):
 Calls Try.prog 33 #[.pointer (some ⟨f.P,0,none⟩),.agg (walkCells (x.sort:Nat) x.what start x.state x.over (.slice none 0 0) (.slice A x.alts.length ca))] w fun e w'=>
  e= .returned (.tuple #[])∧Below f.B0 w w'∧∃v',PstAt w' f v' (Drv.beginM f.c x k):=by
 obtain⟨r,t,q,b,s,hpar,_⟩:=h.par
 obtain⟨Av,cv,hv,_⟩:=h.row.form
 have hnr:Drv.nonreal k.opn≤k.opn.length:=List.length_filter_le _ _
 have hB:=h.ltTS f.P (.inl rfl)
 have hge:=h.geP
 exact(begin_any f.P f.pc _ f.B0 k.opn.length cv Av _ (x.sort:Nat) x.what start x.state x.over (.slice none 0 0) (.slice A x.alts.length ca) w hpar hv h.row hn (by omega) (fun e=>(h.neP.2.1 _ e) rfl) (by simp only;omega) (by simp only;omega) hs0 hs1).mono fun e w' hp=>h.begin hsub halt hca hdep hpar hp
def PopP (f:Fx) (k:Drv.Cf) (y:Drv.Wk) (rest:List Drv.Wk) (w:World) (e:Ending) (w':World):Prop:=
 ∃v' g s,e= .returned (.pointer (some ⟨g,0,none⟩))∧Below f.B0 w w'∧PstAt w' f v' {k with opn:=rest}∧WalkAt w' (TS f v') f.B0 g s y∧¬TS f v' g∧(∀j,s.ownBlock=some j→¬TS f v' j)∧f.B0≤g
set_option maxHeartbeats 800000 in
theorem popP_any (w:World) (f:Fx) (v:Vx) (k:Drv.Cf) (y:Drv.Wk) (rest:List Drv.Wk) (h:PstAt w f v k) (ho:k.opn=y ::rest) (hn:k.opn.length<1000000):
 Calls Try.prog 81 #[.pointer (some ⟨f.P,0,none⟩)] w (PopP f k y rest w):=by
 obtain⟨r,t,q,b,s,hpar,htr⟩:=h.par
 obtain⟨y',g,sv,e0,e1,e2,hW⟩:=h.at (i:=0) (by rw[ho];simp)
 rw[ho]at e0
 injection e0 with e0
 subst e0
 obtain⟨vo,gs,ss⟩:=v
 cases gs with
 | nil=>cases e1
 | cons g' gs=>
  cases ss with
  | nil=>cases e2
  | cons s' ss=>
   injection e1 with e1
   injection e2 with e2
   subst e1 e2
   have hrow:=h.row
   have hlen:k.opn.length=rest.length+1:=by rw[ho];rfl
   simp only[List.reverse_cons,List.map_append,List.map_cons,List.map_nil]at hrow
   rw[hlen]at hrow
   obtain⟨ob,oc,rfl,hoc,hob1,hob2,hxl,hcells⟩:=hrow.last
   have hc:=hcells rest.length (.pointer (some ⟨g',0,none⟩)) (by rw[List.getElem?_append_right (by omega),hxl];simp)
   obtain⟨A,ca,xs,w1,w2,w3,w4⟩:=hW
   have hgs:w.cell? ⟨g',0,none⟩=some (.int .i64 (y.sort:Nat)):=by rw[Lib.cell_of_heap w1];rfl
   obtain⟨n1,n2,n3,n4⟩:=h.neP
   have hnr:Drv.nonreal k.opn≤k.opn.length:=List.length_filter_le _ _
   have hgd:=List.pairwise_cons.1 h.gd
   have hsd:=List.pairwise_cons.1 h.sd
   have hrd:=h.rd
   refine(pop_any f.P f.pc _ ob rest.length oc g' (y.sort:Nat) w hpar (by rfl) (by omega) hoc hc hgs (n3 g' (by simp)) (by simp only;omega) (by simp only;omega)).mono ?_
   rintro e w' ⟨rfl,ho',hp'⟩
   have hoT:=ho'.more (S':=TS f ⟨.slice (some ⟨ob,0,none⟩) (rest.length+1) oc,g' ::gs,s' ::ss⟩) fun j _ e=>.inl e
   have hT:∀j,TS f ⟨.slice (some ⟨ob,0,none⟩) rest.length rest.length,gs,ss⟩ j→TS f ⟨.slice (some ⟨ob,0,none⟩) (rest.length+1) oc,g' ::gs,s' ::ss⟩ j:=fun j e=>by
    rcases e with e | e | e | e | ⟨s1,hs1,e⟩
    ·exact .inl e
    ·exact .inr (.inl e)
    ·exact .inr (.inr (.inl e))
    ·exact .inr (.inr (.inr (.inl (List.mem_cons_of_mem _ e))))
    ·exact .inr (.inr (.inr (.inr ⟨s1,List.mem_cons_of_mem _ hs1,e⟩)))
   have hT':∀j,j<w.heap.size→TS f ⟨.slice (some ⟨ob,0,none⟩) rest.length rest.length,gs,ss⟩ j→TS f ⟨.slice (some ⟨ob,0,none⟩) (rest.length+1) oc,g' ::gs,s' ::ss⟩ j:=fun j _ e=>hT j e
   have hnl:(Drv.nonreal rest:Int)=if((y.sort:Nat):Int)=0 then(Drv.nonreal k.opn:Int)else(Drv.nonreal k.opn:Int)-1:=by
    rw[ho,Drv.nonreal_cons]
    by_cases h0:y.sort=0
    ·rw[if_pos (by omega:((y.sort:Nat):Int)=0)];simp[h0]
    ·rw[if_neg (by omega:¬((y.sort:Nat):Int)=0)];simp[h0]
   have hgT:¬TS f ⟨.slice (some ⟨ob,0,none⟩) rest.length rest.length,gs,ss⟩ g':=fun e=>by
    rcases e with e | e | e | e | ⟨s1,hs1,e⟩
    ·exact n3 g' (by simp) e
    ·obtain⟨ca',ck,hm⟩:=h.memo.blk
     rcases e with e | e | e
     ·exact not_cells w1 hm (by decide) e
     ·exact not_map h.memo.rules w1 e.symm
     ·exact not_map h.memo.picks w1 e.symm
    ·have e:some ob=some g':=e
     exact(hrd g' e).2.2.1 (by simp)
    ·exact hgd.1 g' e rfl
    ·obtain⟨n,xs1,hr1⟩:=h.srow (s:=s1) (List.mem_cons_of_mem _ hs1)
     exact row_not hr1 w1 (by decide) e
   have hsT:∀j,s'.ownBlock=some j→¬TS f ⟨.slice (some ⟨ob,0,none⟩) rest.length rest.length,gs,ss⟩ j:=fun j hj e=>by
    rcases e with e | e | e | e | ⟨s1,hs1,e⟩
    ·exact n4 s' (by simp) j hj e
    ·obtain⟨ca',ck,hm⟩:=h.memo.blk
     rcases e with rfl | rfl | rfl
     ·exact row_not w3 hm (by decide) hj
     ·exact row_not_map w3 h.memo.rules hj
     ·exact row_not_map w3 h.memo.picks hj
    ·have e:some ob=some j:=e
     exact(hrd j e).2.2.2 s' (by simp) hj
    ·obtain⟨cs,hg⟩:=h.gblk (g:=j) (List.mem_cons_of_mem _ e)
     exact row_not w3 hg (by decide) hj
    ·exact hsd.1 s1 hs1 j hj e
   refine⟨⟨.slice (some ⟨ob,0,none⟩) rest.length rest.length,gs,ss⟩,g',s',rfl,h.below ho' fun j e=>by rw[e];exact h.geP,⟨⟨r,t,q,b,s,?_,TrB.only hoT hT' _ _ htr⟩,?_,?_,?_,?_,?_,hgd.2,hsd.2,fun j hj=>h.ge j (hT j hj),?_⟩,?_,hgT,hsT,h.ge g' (.inr (.inr (.inr (.inl (by simp)))))⟩
   ·show ParAt w' f.P f.pc ⟨k.used,k.deep,k.spec,_,k.pos,(Drv.nonreal rest:Int),r,t,q,b,s,k.e,k.ended⟩
    rw[hnl]
    exact hp'
   ·exact h.memo.only ho' n1
   ·refine .inr ⟨ob,rfl,by simpa using hxl,hob1,Nat.lt_of_lt_of_le hob2 ho'.size,fun j u hu=>?_⟩
    have hj:j<(gs.reverse.map fun g=>Value.pointer (some ⟨g,0,none⟩)).length:=by
     rcases Nat.lt_or_ge j (gs.reverse.map fun g=>Value.pointer (some ⟨g,0,none⟩)).length with h1 | h1
     ·exact h1
     ·rw[List.getElem?_eq_none h1]at hu;cases hu
    exact(ho'.cell hob2 (n2 ob rfl)).trans (hcells j u (by rw[List.getElem?_append_left hj];exact hu))
   ·have:=h.gl;rw[hlen]at this;simpa using this
   ·have:=h.sl;rw[hlen]at this;simpa using this
   ·intro i z g1 s1 a0 a1 a2
    have a0':k.opn[i+1]? =some z:=by rw[ho];exact a0
    exact(h.walks (i+1) z g1 s1 a0' a1 a2).only ho' (fun j _ e=>.inl e) hT' (n3 g1 (List.mem_cons_of_mem _ (List.mem_of_getElem? a1))) (n4 s1 (List.mem_cons_of_mem _ (List.mem_of_getElem? a2)))
   ·intro j hj
    have:=hrd j hj
    exact⟨this.1,this.2.1,fun e=>this.2.2.1 (List.mem_cons_of_mem _ e),fun s1 hs1=>this.2.2.2 s1 (List.mem_cons_of_mem _ hs1)⟩
   ·exact WalkAt.only (S:=TS f ⟨.slice (some ⟨ob,0,none⟩) (rest.length+1) oc,g' ::gs,s' ::ss⟩) ⟨A,ca,xs,w1,w2,w3,w4⟩ ho' (fun j _ e=>.inl e) hT' (n3 g' (by simp)) (n4 s' (by simp))
end Go.Proofs.Ytgflanlniejflaa
namespace Go.Proofs.Ytgflanlniejflaa
open Go.RowKit Go.Maps
set_option maxRecDepth 100000
theorem say_length (K:List Drv.K4) (a b p t:Int):(Drv.say K a b p t).length=moreN K.length (Drv.know K a b p):=by
 unfold Drv.say moreN
 cases Drv.know K a b p <;> simp
section
variable {w:World}{f:Fx}{v:Vx}{k:Drv.Cf}
theorem PstAt.neM (h:PstAt w f v k):∀j,MemoS f.pc.M f.br f.bp j→j≠f.P∧v.vo.ownBlock≠some j∧j∉v.gs∧∀s∈v.ss,s.ownBlock≠some j:=fun j hj=>by
 refine⟨h.neP.1 j hj,fun e=>(h.rd j e).2.1 hj,fun e=>?_,fun s hs e=>?_⟩
 ·obtain⟨cs,hg⟩:=h.gblk e
  obtain⟨ca,ck,hm⟩:=h.memo.blk
  rcases hj with rfl | rfl | rfl
  ·exact not_cells hg hm (by decide) rfl
  ·exact not_map h.memo.rules hg rfl
  ·exact not_map h.memo.picks hg rfl
 ·obtain⟨n,xs,hr⟩:=h.srow hs
  obtain⟨ca,ck,hm⟩:=h.memo.blk
  rcases hj with rfl | rfl | rfl
  ·exact row_not hr hm (by decide) e
  ·exact row_not_map hr h.memo.rules e
  ·exact row_not_map hr h.memo.picks e
theorem PstAt.memoSet {w':World}(h:PstAt w f v k) (ho:Only (MemoS f.pc.M f.br f.bp) w w') (K:List Drv.K4)
 (hm:MemoAt w' f.pc.M f.br f.bp K.length f.c.starts.length (f.c.decs.length+f.c.preds.length:Nat) f.c.w.length (fRules K) (fPicks f.c.decs.length K)):PstAt w' f v {k with known:=K}:=by
 have hne:=h.neM
 obtain⟨r,t,q,b,s,hpar,htr⟩:=h.par
 have ho':=ho.more (S':=TS f v) fun j _ e=>.inr (.inl e)
 refine⟨⟨r,t,q,b,s,hpar.next ho (fun e=>(hne _ e).1 rfl),TrB.only ho' (fun _ _ e=>e) _ _ htr⟩,hm,h.row.only ho (fun j e e2=>(hne j e2).2.1 e),h.gl,h.sl,?_,h.gd,h.sd,h.ge,h.rd⟩
 intro i x g s' h1 h2 h3
 exact(h.walks i x g s' h1 h2 h3).only ho (fun j _ e=>.inr (.inl e)) (fun _ _ e=>e) (fun e=>(hne g e).2.2.1 (List.mem_of_getElem? h2)) (fun j e e2=>(hne j e2).2.2.2 s' (List.mem_of_getElem? h3) e)
theorem PstAt.geM (h:PstAt w f v k):∀j,MemoS f.pc.M f.br f.bp j→f.B0≤j:=fun _ hj=>h.ge _ (.inr (.inl hj))
end
theorem i64_small {a:Int}(h0:-1≤a) (h1:a≤4000000000):I64 a:=by unfold I64;exact WalkArith.wf_i64 (by omega)
def SayP (f:Fx) (v:Vx) (k:Drv.Cf) (K:List Drv.K4) (w:World) (e:Ending) (w':World):Prop:=
 e= .returned (.int .i64 0)∧Below f.B0 w w'∧Only (MemoS f.pc.M f.br f.bp) w w'∧PstAt w' f v {k with known:=K}
theorem sayRuleP (w:World) (f:Fx) (v:Vx) (k:Drv.Cf) (a c t:Int) (h:PstAt w f v k) (hK:k.known.length<4000000000) (ha:Drv.InR f.c.starts.length a) (hs:f.c.starts.length≤64) (hc0:0≤c) (hc1:c≤f.c.w.length) (hw:f.c.w.length≤16384) (ht:t= -1∨c≤t) (ht2:t≤f.c.w.length):
 Calls Try.prog 83 #[.pointer (some ⟨f.pc.M,0,none⟩),.int .i64 a,.int .i64 c,.int .i64 t] w (SayP f v k (Drv.say k.known 2 a c t) w):=by
 have hh:hasB f.c.starts.length f.c.w.length a c=true:=by unfold hasB;simp only[Bool.and_eq_true,decide_eq_true_eq];exact⟨⟨⟨ha.1,ha.2⟩,hc0⟩,hc1⟩
 refine(SayRule_any f.pc.M f.br f.bp k.known.length _ _ _ a c t _ _ w (i64_small (by have:=ha.1;omega) (by have:=ha.2;omega)) (i64_small (by omega) (by omega)) (i64_small (by omega) (by omega)) hK h.memo hh ht ht2).mono ?_
 rintro e w' ⟨rfl,ho,hm⟩
 refine⟨rfl,h.below ho h.geM,ho,h.memoSet ho _ ?_⟩
 rw[fRules_say2,fPicks_say2,say_length]
 exact hm
theorem sayPick0P (w:World) (f:Fx) (v:Vx) (k:Drv.Cf) (a c t:Int) (h:PstAt w f v k) (hK:k.known.length<4000000000) (ha:Drv.InR f.c.decs.length a) (hs:f.c.decs.length+f.c.preds.length≤65536) (hc0:0≤c) (hc1:c≤f.c.w.length) (hw:f.c.w.length≤16384) (ht:-1≤t) (ht2:t<32):
 Calls Try.prog 84 #[.pointer (some ⟨f.pc.M,0,none⟩),.int .i64 a,.int .i64 c,.int .i64 t] w (SayP f v k (Drv.say k.known 0 a c t) w):=by
 have ha2:=ha.2
 have hh:hasB (f.c.decs.length+f.c.preds.length:Nat) f.c.w.length a c=true:=by unfold hasB;simp only[Bool.and_eq_true,decide_eq_true_eq];exact⟨⟨⟨ha.1,by omega⟩,hc0⟩,hc1⟩
 refine(SayPick_any f.pc.M f.br f.bp k.known.length _ _ _ a c t _ _ w (i64_small (by have:=ha.1;omega) (by omega)) (i64_small (by omega) (by omega)) (i64_small ht (by omega)) hK h.memo hh ht ht2).mono ?_
 rintro e w' ⟨rfl,ho,hm⟩
 refine⟨rfl,h.below ho h.geM,ho,h.memoSet ho _ ?_⟩
 have e1:fPicks f.c.decs.length k.known a c=Drv.know k.known 0 a c:=by unfold fPicks;rw[if_pos ha2]
 rw[fRules_say _ _ _ _ _ (by decide),fPicks_say0 _ _ _ _ _ ha2,say_length,←e1]
 exact hm
theorem sayPick1P (w:World) (f:Fx) (v:Vx) (k:Drv.Cf) (q c t:Int) (h:PstAt w f v k) (hK:k.known.length<4000000000) (ha:Drv.InR f.c.preds.length q) (hs:f.c.decs.length+f.c.preds.length≤65536) (hc0:0≤c) (hc1:c≤f.c.w.length) (hw:f.c.w.length≤16384) (ht:-1≤t) (ht2:t<32):
 Calls Try.prog 84 #[.pointer (some ⟨f.pc.M,0,none⟩),.int .i64 (f.c.decs.length+q),.int .i64 c,.int .i64 t] w (SayP f v k (Drv.say k.known 1 q c t) w):=by
 have ha1:=ha.1
 have ha2:=ha.2
 have hh:hasB (f.c.decs.length+f.c.preds.length:Nat) f.c.w.length (f.c.decs.length+q) c=true:=by unfold hasB;simp only[Bool.and_eq_true,decide_eq_true_eq];exact⟨⟨⟨by omega,by omega⟩,hc0⟩,hc1⟩
 refine(SayPick_any f.pc.M f.br f.bp k.known.length _ _ _ (f.c.decs.length+q) c t _ _ w (i64_small (by omega) (by omega)) (i64_small (by omega) (by omega)) (i64_small ht (by omega)) hK h.memo hh ht ht2).mono ?_
 rintro e w' ⟨rfl,ho,hm⟩
 refine⟨rfl,h.below ho h.geM,ho,h.memoSet ho _ ?_⟩
 have e1:fPicks f.c.decs.length k.known (f.c.decs.length+q) c=Drv.know k.known 1 q c:=by
  unfold fPicks
  rw[if_neg (by omega)]
  congr 1
  omega
 rw[fRules_say _ _ _ _ _ (by decide),fPicks_say1 _ _ _ _ _ ha1,say_length,←e1]
 exact hm
set_option maxHeartbeats 400000 in
theorem clipT_any (A:Option Addr) (n c:Nat) (w:World) (hn:n≤c) (hc:n<4000000000) (hA:A=none→n=0∧c=0):
 Calls Try.prog 82 #[.slice A n c] w fun e w'=>e= .returned (.slice A n n)∧w'=w:=by
 cases A with
 | none=>
  obtain⟨rfl,rfl⟩:=hA rfl
  go_enter Try.func82,Try.ntmps82
  go_wp2
  go_ret
  exact⟨rfl,rfl⟩
 | some a=>
  have e1:(0:Int)≤(n:Int):=by omega
  have e2:(n:Int).toNat=n:=by omega
  have e3:(n:Int)≤(c:Int):=by omega
  have e4:¬c<n:=by omega
  go_enter Try.func82,Try.ntmps82
  go_wp2
  go_ret
  exact⟨rfl,rfl⟩
set_option maxHeartbeats 400000 in
theorem piece_any (w:World) (f:Fx) (v:Vx) (k:Drv.Cf) (q:Int) (CA:Option Addr) (cc:Nat) (h:PstAt w f v k) (hd:w.cell? ⟨f.pc.D,4,none⟩=some (.slice CA f.c.decs.length cc)) (hl:f.c.decs.length≤65536) (h0:0≤q) (h1:q≤65536):
 Calls Try.prog 85 #[.pointer (some ⟨f.P,0,none⟩),.int .i64 q] w fun e w'=>e= .returned (.int .i64 (f.c.decs.length+q))∧w'=w:=by
 obtain⟨r,t,q',b,s,hpar,_⟩:=h.par
 have c0:=(hpar.cell 0).1
 simp only[parCells,List.getElem?_toArray,List.getElem?_cons_zero]at c0
 have e1:IntKind.i64.wrap ((f.c.decs.length:Int)+q)=f.c.decs.length+q:=w64 (by omega) (by omega)
 clear h hpar
 go_enter Try.func85,Try.ntmps85
 go_wp2
 go_ret
 exact⟨rfl,rfl⟩
end Go.Proofs.Ytgflanlniejflaa
namespace Go.Proofs.Ytgflanlniejflaa
open Go.RowKit Go.Maps
open Go.Sort (grow)
set_option maxRecDepth 100000
structure Lim (f:Fx):Prop where
 starts:f.c.starts.length≤64
 picks:f.c.decs.length+f.c.preds.length≤65536
 toks:f.c.w.length≤16384
 fuel:f.c.fuel≤1000000
 depth:f.c.depth≤100000
 pfuel:f.pc.fuel=f.c.fuel
 pdepth:f.pc.depth=(f.c.depth:Int)
def encEd (e:Drv.Ed):List Value:=[.int .u8 e.kind,.int .i64 e.what,.int .i64 e.to]
def StV (w:World) (B:Nat) (vs:List Value) (i:Nat) (s:Drv.NSt):Prop:=
 ∃EA ec XA xc,vs[i*3]? =some (.int .i64 s.rule)∧vs[i*3+1]? =some (.slice EA s.edges.length ec)∧vs[i*3+2]? =some (.slice XA s.ends.length xc)∧Reads w B 3 EA s.edges.length (flat encEd s.edges)∧Reads w B 1 XA s.ends.length (s.ends.map (Value.int .i64))
def StsR (w:World) (B:Nat) (A:Option Addr) (l:List Drv.NSt):Prop:=∃vs,Reads w B 3 A l.length vs∧∀i (h:i<l.length),StV w B vs i l[i]
theorem StsR.below {w w':World}{B:Nat}{A:Option Addr}{l:List Drv.NSt}(h:StsR w B A l) (hb:Below B w w'):StsR w' B A l:=by
 obtain⟨vs,h1,h2⟩:=h
 refine⟨vs,h1.below hb,fun i hi=>?_⟩
 obtain⟨EA,ec,XA,xc,e0,e1,e2,r0,r1⟩:=h2 i hi
 exact⟨EA,ec,XA,xc,e0,e1,e2,r0.below hb,r1.below hb⟩
def NumsAt (w:World) (D B j:Nat) (l:List Int):Prop:=∃A c,w.cell? ⟨D,j,none⟩=some (.slice A l.length c)∧Reads w B 1 A l.length (l.map (Value.int .i64))
theorem NumsAt.below {w w':World}{D B j:Nat}{l:List Int}(h:NumsAt w D B j l) (hD:D<B) (hb:Below B w w'):NumsAt w' D B j l:=by
 obtain⟨A,c,h1,h2⟩:=h
 exact⟨A,c,(hb.cell (p:=⟨D,j,none⟩) hD).trans h1,h2.below hb⟩
structure Sta (w:World) (f:Fx):Prop where
 dlt:f.pc.D<f.B0
 states:∃A c,w.cell? ⟨f.pc.D,0,none⟩=some (.slice A f.c.states.length c)∧StsR w f.B0 A f.c.states
 starts:NumsAt w f.pc.D f.B0 1 f.c.starts
 stops:NumsAt w f.pc.D f.B0 2 f.c.stops
 preds:NumsAt w f.pc.D f.B0 3 f.c.preds
 decs:NumsAt w f.pc.D f.B0 4 f.c.decs
 toks:f.pc.wn=f.c.w.length∧Reads w f.B0 1 f.pc.WA f.c.w.length (f.c.w.map (Value.int .i64))
theorem Sta.below {w w':World}{f:Fx}(h:Sta w f) (hb:Below f.B0 w w'):Sta w' f:=by
 obtain⟨A,c,h1,h2⟩:=h.states
 exact⟨h.dlt,⟨A,c,(hb.cell (p:=⟨f.pc.D,0,none⟩) h.dlt).trans h1,h2.below hb⟩,h.starts.below h.dlt hb,h.stops.below h.dlt hb,h.preds.below h.dlt hb,h.decs.below h.dlt hb,h.toks.1,h.toks.2.below hb⟩
theorem walk_cells {w:World}{g:Nat}{so what start state over:Int}{sv av:Value}(h:w.heap[g]? =some (.cells (walkCells so what start state over sv av) 116 (0,0))):
 w.cell? ⟨g,0,none⟩=some (.int .i64 so)∧w.cell? ⟨g,1,none⟩=some (.int .i64 what)∧w.cell? ⟨g,2,none⟩=some (.int .i64 start)∧w.cell? ⟨g,3,none⟩=some (.int .i64 state)∧w.cell? ⟨g,4,none⟩=some (.int .i64 over)∧w.cell? ⟨g,5,none⟩=some sv∧w.cell? ⟨g,6,none⟩=some av:=by
 refine⟨?_,?_,?_,?_,?_,?_,?_⟩ <;> (rw[Lib.cell_of_heap h];rfl)
theorem PstAt.still {w w':World}{f:Fx}{v:Vx}{k:Drv.Cf}(h:PstAt w f v k) (ho:Only (fun _=>False) w w'):PstAt w' f v k:=by
 obtain⟨r,t,q,b,s,hpar,htr⟩:=h.par
 have ho':=ho.more (S':=TS f v) fun _ _ e=>e.elim
 refine⟨⟨r,t,q,b,s,hpar.next ho (fun e=>e),TrB.only ho' (fun _ _ e=>e) _ _ htr⟩,h.memo.only ho (fun _ _ e=>e),h.row.only ho (fun _ _ e=>e),h.gl,h.sl,?_,h.gd,h.sd,h.ge,h.rd⟩
 intro i x g s' h1 h2 h3
 exact(h.walks i x g s' h1 h2 h3).only ho (fun _ _ e=>e.elim) (fun _ _ e=>e) (fun e=>e) (fun _ _ e=>e)
theorem PstAt.posSet {w:World}{f:Fx}{v:Vx}{k:Drv.Cf}(h:PstAt w f v k) (q:Int):PstAt (w.setCell ⟨f.P,9,none⟩ (.int .i64 q)) f v {k with pos:=q}∧Below f.B0 w (w.setCell ⟨f.P,9,none⟩ (.int .i64 q)):=by
 have ho:=Only.of_set w f.P 9 (.int .i64 q)
 exact⟨h.parSet ho {k with pos:=q} rfl rfl rfl (fun r t q' b s hp=>hp.set 9 _ rfl),h.below ho fun j e=>by rw[e];exact h.geP⟩
def WellP (f:Fx) (k:Drv.Cf) (w:World) (e:Ending) (w':World):Prop:=e= .returned (.tuple #[])∧Below f.B0 w w'∧∃v',PstAt w' f v' (Drv.wellM k)
set_option maxHeartbeats 1600000 in
theorem well_rule (w:World) (f:Fx) (v:Vx) (k:Drv.Cf) (y:Drv.Wk) (rest:List Drv.Wk) (hl:Lim f) (h:PstAt w f v k) (hc:Drv.COk f.c k) (ho:k.opn=y ::rest) (hso:y.sort=1):
 Calls Try.prog 58 #[.pointer (some ⟨f.P,0,none⟩)] w (WellP f k w):=by
 have hW:=hc.wk y (by rw[ho];simp)
 have hst:=hc.start y (by rw[ho];simp)
 have hsz:=hc.size
 have hfew:=hc.few
 have hu1:=hc.used1
 have hp1:=hc.pos1
 have hlf:=hl.fuel
 have hld:=hl.depth
 have hkn:k.known.length<4000000000:=by omega
 have hwell:Drv.wellM k= {k with opn:=rest,known:=Drv.say k.known 2 y.what y.start k.pos}:=by
  unfold Drv.wellM
  rw[ho]
  simp only[hso]
  rfl
 have HWL:=hid hwell
 have HW:=hid hW
 have H:=hid h
 have HL:=hid hl
 have HST:=hid hst
 clear hW hwell hc h hl hst hfew hu1
 go_enter Try.func58,Try.ntmps58
 go_wp2_with fail
 refine(popP_any w f v k y rest H.out ho (by omega)).mono ?_
 rintro e w1 ⟨v1,g,s,rfl,hb1,hP1,hW1,hg1,hs1,hgB⟩
 obtain⟨A,ca,xs,q1,q2,q3,q4⟩:=hW1
 obtain⟨r,t,q,b,sv,hpar,_⟩:=hP1.par
 have c2:=(hpar.cell 2).1
 have c9:=(hpar.cell 9).1
 simp only[parCells,List.getElem?_toArray,List.getElem?_cons_succ,List.getElem?_cons_zero]at c2 c9
 rw[hso]at q1
 obtain⟨k0,k1,k2,_⟩:=walk_cells q1
 have HP1:=hid hP1
 have HB1:=hid hb1
 have HQ1:=hid q1
 have HPAR:=hid hpar
 have e1:((1:Nat):Int)=1:=rfl
 rw[e1]at k0
 clear hP1 hb1 q1 hpar q2 q3 q4 e1
 go_wp2_with fail
 refine still_tail 16 (by kernel_rfl) (by kernel_rfl) ?_
 intro w2 HW2
 have ho2:Only (fun _=>False) w1 w2:=by rw[HW2.out];exact⟨rfl,rfl,rfl,Nat.le_refl _,fun _ _ _=>rfl⟩
 clear HW2
 have c2:=(ho2.cell (o:=2) HPAR.out.lt (fun e=>e)).trans c2
 have c9:=(ho2.cell (o:=9) HPAR.out.lt (fun e=>e)).trans c9
 have k1:=(ho2.cell (o:=1) (heap_lt HQ1.out) (fun e=>e)).trans k1
 have k2:=(ho2.cell (o:=2) (heap_lt HQ1.out) (fun e=>e)).trans k2
 have HP2:=hid (HP1.out.still ho2)
 have HB2:=hid (HB1.out.trans (ho2.below' (fun _ e=>e.elim) (by have:=HP1.out.ltTS f.P (.inl rfl);have:=HP1.out.geP;omega)))
 clear k0 HP1 HB1 HQ1 HPAR ho2
 simp only[List.take_succ_cons,List.take_zero,List.drop_succ_cons,List.drop_zero]
 repeat still_step
 refine wpStill_nil ?_
 go_wp2_with fail
 refine(sayRuleP w2 f v1 {k with opn:=rest} y.what y.start k.pos HP2.out hkn (HW.out.rule (by omega)) HL.out.starts HW.out.2.2.1 HW.out.2.2.2.1 HL.out.toks (.inr HST.out) hp1).mono ?_
 rintro e w3 ⟨rfl,hb3,_,hP3⟩
 have HB3:=hid (HB2.out.trans hb3)
 have HP3:=hid hP3
 clear c2 c9 k1 k2 HP2 HB2 hb3 hP3
 go_wp2
 go_end0
 refine⟨rfl,HB3.out,v1,?_⟩
 rw[HWL.out]
 exact HP3.out
set_option maxHeartbeats 1600000 in
theorem well_pred (w:World) (f:Fx) (v:Vx) (k:Drv.Cf) (y:Drv.Wk) (rest:List Drv.Wk) (hl:Lim f) (h:PstAt w f v k) (hc:Drv.COk f.c k) (ho:k.opn=y ::rest) (hso:y.sort=2) (hsta:Sta w f):
 Calls Try.prog 58 #[.pointer (some ⟨f.P,0,none⟩)] w (WellP f k w):=by
 have hW:=hc.wk y (by rw[ho];simp)
 have hst:=hc.start y (by rw[ho];simp)
 have hsz:=hc.size
 have hfew:=hc.few
 have hu1:=hc.used1
 have hp1:=hc.pos1
 have hlf:=hl.fuel
 have hld:=hl.depth
 have hkn:k.known.length<4000000000:=by omega
 have hwell:Drv.wellM k= {k with opn:=rest,known:=Drv.say k.known 1 y.what y.start 0,pos:=y.start}:=by
  unfold Drv.wellM
  rw[ho]
  simp only[hso]
  rfl
 have HWL:=hid hwell
 have HW:=hid hW
 have H:=hid h
 have HL:=hid hl
 have HST:=hid hst
 clear hW hwell hc h hl hst hfew hu1
 go_enter Try.func58,Try.ntmps58
 go_wp2_with fail
 refine(popP_any w f v k y rest H.out ho (by omega)).mono ?_
 rintro e w1 ⟨v1,g,s,rfl,hb1,hP1,hW1,hg1,hs1,hgB⟩
 obtain⟨A,ca,xs,q1,q2,q3,q4⟩:=hW1
 obtain⟨r,t,q,b,sv,hpar,_⟩:=hP1.par
 have c2:=(hpar.cell 2).1
 have c9:=(hpar.cell 9).1
 simp only[parCells,List.getElem?_toArray,List.getElem?_cons_succ,List.getElem?_cons_zero]at c2 c9
 rw[hso]at q1
 obtain⟨CA,cc,hD,_⟩:=(hsta.below hb1).decs
 have hDlt:f.pc.D<w1.heap.size:=World.block_lt_of_cell? w1 _ hD
 obtain⟨k0,k1,k2,_⟩:=walk_cells q1
 have HP1:=hid hP1
 have HB1:=hid hb1
 have HQ1:=hid q1
 have HPAR:=hid hpar
 have e1:((2:Nat):Int)=2:=rfl
 rw[e1]at k0
 clear hP1 hb1 q1 hpar q2 q3 q4 e1
 go_wp2_with fail
 refine still_tail 14 (by kernel_rfl) (by kernel_rfl) ?_
 intro w2 HW2
 have ho2:Only (fun _=>False) w1 w2:=by rw[HW2.out];exact⟨rfl,rfl,rfl,Nat.le_refl _,fun _ _ _=>rfl⟩
 clear HW2
 have c2:=(ho2.cell (o:=2) HPAR.out.lt (fun e=>e)).trans c2
 have c9:=(ho2.cell (o:=9) HPAR.out.lt (fun e=>e)).trans c9
 have k1:=(ho2.cell (o:=1) (heap_lt HQ1.out) (fun e=>e)).trans k1
 have k2:=(ho2.cell (o:=2) (heap_lt HQ1.out) (fun e=>e)).trans k2
 have hD:=(ho2.cell (o:=4) hDlt (fun e=>e)).trans hD
 have HP2:=hid (HP1.out.still ho2)
 have HQ2:=hid ((ho2.block _ (heap_lt HQ1.out) (fun e=>e)).trans HQ1.out)
 have HB2:=hid (HB1.out.trans (ho2.below' (fun _ e=>e.elim) (by have:=HP1.out.ltTS f.P (.inl rfl);have:=HP1.out.geP;omega)))
 clear k0 HP1 HB1 HQ1 HPAR ho2
 simp only[List.take_succ_cons,List.take_zero,List.drop_succ_cons,List.drop_zero]
 repeat still_step
 still_call (piece_any w2 f v1 {k with opn:=rest} y.what CA cc HP2.out hD (by have:=HL.out.picks;omega) (HW.out.pred hso).1 (by have:=(HW.out.pred hso).2;have:=HL.out.picks;omega))
 repeat still_step
 refine wpStill_nil ?_
 go_wp2_with fail
 refine(sayPick1P w2 f v1 {k with opn:=rest} y.what y.start 0 HP2.out hkn (HW.out.pred hso) HL.out.picks HW.out.2.2.1 HW.out.2.2.2.1 HL.out.toks (by decide) (by decide)).mono ?_
 rintro e w3 ⟨rfl,hb3,ho3,hP3⟩
 have HB3:=hid (HB2.out.trans hb3)
 have HP3:=hid hP3
 obtain⟨r,t,q,b,sv,hpar3,_⟩:=hP3.par
 have c93:=(hpar3.cell 9).1
 have z93:=(hpar3.cell 9).2
 simp only[parCells,List.getElem?_toArray,List.getElem?_cons_succ,List.getElem?_cons_zero]at c93
 have k23:=(ho3.cell (o:=2) (heap_lt HQ2.out) (fun e=>hg1 (.inr (.inl e)))).trans k2
 have HF:=hid (hP3.posSet y.start)
 clear c2 c9 k1 k2 HP2 HB2 hb3 hP3 hpar3 hD ho3
 go_wp2
 go_end0
 refine⟨rfl,HB3.out.trans HF.out.2,v1,?_⟩
 rw[HWL.out]
 exact HF.out.1
set_option maxHeartbeats 1600000 in
theorem well_try (w:World) (f:Fx) (v:Vx) (k:Drv.Cf) (y:Drv.Wk) (rest:List Drv.Wk) (hl:Lim f) (h:PstAt w f v k) (hc:Drv.COk f.c k) (ho:k.opn=y ::rest) (hso:y.sort=3) (hg:Drv.Rng f.c):
 Calls Try.prog 58 #[.pointer (some ⟨f.P,0,none⟩)] w (WellP f k w):=by
 have hW:=hc.wk y (by rw[ho];simp)
 have hst:=hc.start y (by rw[ho];simp)
 have hsz:=hc.size
 have hfew:=hc.few
 have hu1:=hc.used1
 have hp1:=hc.pos1
 have hlf:=hl.fuel
 have hld:=hl.depth
 have hkn:k.known.length<4000000000:=by omega
 have hwell:Drv.wellM k= {k with opn:=rest,known:=Drv.say k.known 0 y.what y.start (y.alts.headD 0),pos:=y.start}:=by
  unfold Drv.wellM
  rw[ho]
  simp only[hso]
  rfl
 obtain⟨hd,hl2,_,hne,hal⟩:=hW.try (by omega)
 have hal0:Drv.alt1 f.c y.what (y.alts.headD 0):=hal _ (by
  cases hq:y.alts with
  | nil=>rw[hq]at hl2;simp at hl2
  | cons a r=>simp)
 have HT0:=hid (show -1≤y.alts.headD 0∧y.alts.headD 0<32 from by
  have h1:=hal0.1
  have h2:=hal0.2
  have h3:=(hg.both _ hne).2
  omega)
 have HD:=hid hd
 clear hal hal0 hne hd
 have HWL:=hid hwell
 have HW:=hid hW
 have H:=hid h
 have HL:=hid hl
 have HST:=hid hst
 clear hW hwell hc h hl hst hfew hu1
 go_enter Try.func58,Try.ntmps58
 go_wp2_with fail
 refine(popP_any w f v k y rest H.out ho (by omega)).mono ?_
 rintro e w1 ⟨v1,g,s,rfl,hb1,hP1,hW1,hg1,hs1,hgB⟩
 obtain⟨A,ca,xs,q1,q2,q3,q4⟩:=hW1
 obtain⟨r,t,q,b,sv,hpar,_⟩:=hP1.par
 have c2:=(hpar.cell 2).1
 have c9:=(hpar.cell 9).1
 simp only[parCells,List.getElem?_toArray,List.getElem?_cons_succ,List.getElem?_cons_zero]at c2 c9
 rw[hso]at q1
 obtain⟨b0,off0,rfl,hb0,_,hcell⟩:=q2.2 (by omega)
 have a0:=hcell 0 (.int .i64 (y.alts.headD 0)) (by
  cases hq:y.alts with
  | nil=>rw[hq]at hl2;simp at hl2
  | cons a r=>simp)
 rw[Nat.add_zero]at a0
 obtain⟨na,hna⟩:∃na,y.alts.length=na:=⟨_,rfl⟩
 rw[hna]at q1
 have hl0:(0:Int)<(na:Int):=by omega
 have hl1:0<na:=by omega
 generalize hA0:y.alts.headD 0=alt0 at a0 HT0 HWL
 have HA0:=hid hA0
 clear hna hl2 hA0
 obtain⟨k0,k1,k2,_,_,_,k6⟩:=walk_cells q1
 have HP1:=hid hP1
 have HB1:=hid hb1
 have HQ1:=hid q1
 have HPAR:=hid hpar
 have e1:((3:Nat):Int)=3:=rfl
 rw[e1]at k0
 clear hP1 hb1 q1 hpar q2 q3 q4 e1 hcell
 go_wp2_with fail
 refine still_tail 18 (by kernel_rfl) (by kernel_rfl) ?_
 intro w2 HW2
 have ho2:Only (fun _=>False) w1 w2:=by rw[HW2.out];exact⟨rfl,rfl,rfl,Nat.le_refl _,fun _ _ _=>rfl⟩
 clear HW2
 have c2:=(ho2.cell (o:=2) HPAR.out.lt (fun e=>e)).trans c2
 have c9:=(ho2.cell (o:=9) HPAR.out.lt (fun e=>e)).trans c9
 have k1:=(ho2.cell (o:=1) (heap_lt HQ1.out) (fun e=>e)).trans k1
 have k2:=(ho2.cell (o:=2) (heap_lt HQ1.out) (fun e=>e)).trans k2
 have k6:=(ho2.cell (o:=6) (heap_lt HQ1.out) (fun e=>e)).trans k6
 have a0:=(ho2.cell (o:=off0) hb0 (fun e=>e)).trans a0
 have HP2:=hid (HP1.out.still ho2)
 have HQ2:=hid ((ho2.block _ (heap_lt HQ1.out) (fun e=>e)).trans HQ1.out)
 have HB2:=hid (HB1.out.trans (ho2.below' (fun _ e=>e.elim) (by have:=HP1.out.ltTS f.P (.inl rfl);have:=HP1.out.geP;omega)))
 clear k0 HP1 HB1 HQ1 HPAR ho2
 simp only[List.take_succ_cons,List.take_zero,List.drop_succ_cons,List.drop_zero]
 repeat still_step
 refine wpStill_nil ?_
 go_wp2_with fail
 refine(sayPick0P w2 f v1 {k with opn:=rest} y.what y.start alt0 HP2.out hkn HD.out HL.out.picks HW.out.2.2.1 HW.out.2.2.2.1 HL.out.toks HT0.out.1 HT0.out.2).mono ?_
 rintro e w3 ⟨rfl,hb3,ho3,hP3⟩
 have HB3:=hid (HB2.out.trans hb3)
 have HP3:=hid hP3
 obtain⟨r,t,q,b,sv,hpar3,_⟩:=hP3.par
 have c93:=(hpar3.cell 9).1
 have z93:=(hpar3.cell 9).2
 simp only[parCells,List.getElem?_toArray,List.getElem?_cons_succ,List.getElem?_cons_zero]at c93
 have k23:=(ho3.cell (o:=2) (heap_lt HQ2.out) (fun e=>hg1 (.inr (.inl e)))).trans k2
 have HF:=hid (hP3.posSet y.start)
 clear c2 c9 k1 k2 k6 a0 hl0 hl1 HP2 HB2 hb3 hP3 hpar3 ho3
 go_wp2
 go_end0
 refine⟨rfl,HB3.out.trans HF.out.2,v1,?_⟩
 rw[HWL.out]
 exact HF.out.1
end Go.Proofs.Ytgflanlniejflaa
