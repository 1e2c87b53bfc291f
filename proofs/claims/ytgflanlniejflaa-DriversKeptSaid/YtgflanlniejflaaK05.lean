/-
  Drivers: DrvReach, DrvRchs, DrvOwn (texts joined).
-/
import Derived.Test.YtgflanlniejflaaK02
namespace Go.Proofs.Ytgflanlniejflaa
namespace Drv
def edgesAt (n:NNet) (s:Int):List Ed:=(n.states.getD s.toNat ⟨0,[],[]⟩).edges
structure Kn where
 emp:Int→Bool
 rul:Int→Int→Bool
def pas (k:Kn) (e:Ed):Prop:=e.kind≠1∧(e.kind=2→k.emp e.what=true)
inductive InK (n:NNet) (k:Kn) (r:Int):Int→Prop where
 | start:InK n k r (at0 n.starts r)
 | step (s:Int) (e:Ed):InK n k r s→e∈edgesAt n s→pas k e→InK n k r e.to
def RulK (n:NNet) (k:Kn) (r q:Int):Prop:=∃s e,InK n k r s∧e∈edgesAt n s∧e.kind=2∧(e.what=q∨k.rul e.what q=true)
def vis (v:List Bool) (s:Int):Prop:=0≤s∧v[s.toNat]? =some true
structure WI (n:NNet) (k:Kn) (r:Int) (dn:Int→List Ed) (v:List Bool) (nx:List Int) (oe:Bool) (os:List Bool):Prop where
 vlen:v.length=n.states.length
 olen:os.length=n.starts.length
 sound:∀s,(s∈nx∨vis v s)→InK n k r s∧0≤s∧s<n.states.length
 start:at0 n.starts r∈nx∨vis v (at0 n.starts r)
 closed:∀s,vis v s→∀e∈dn s,pas k e→e.to∈nx∨vis v e.to
 emp:oe=true↔vis v (at0 n.stops r)
 rul:∀q:Nat,q<n.starts.length→(os[q]? =some true↔∃s e,vis v s∧e∈dn s∧e.kind=2∧(e.what=q∨k.rul e.what q=true))
 sub:∀s,∀e∈dn s,e∈edgesAt n s
section
variable {n:NNet}{k:Kn}{r:Int}{dn dn':Int→List Ed}{v os:List Bool}{nx:List Int}{oe:Bool}{s:Int}
theorem WI.seen (h:WI n k r dn v (s ::nx) oe os) (hs:vis v s):WI n k r dn v nx oe os:=by
 have drop:∀t,(t∈s ::nx∨vis v t)→(t∈nx∨vis v t):=fun t e=>by
  rcases e with e | e
  ·rcases List.mem_cons.1 e with rfl | e
   ·exact .inr hs
   ·exact .inl e
  ·exact .inr e
 exact⟨h.vlen,h.olen,fun t e=>h.sound t (e.imp (List.mem_cons_of_mem _) id),drop _ h.start,fun t ht e he hp=>drop _ (h.closed t ht e he hp),h.emp,h.rul,h.sub⟩
theorem vis_set (v:List Bool){a:Nat}(ha:a<v.length) (t:Int):vis (v.set a true) t↔(t=a∨vis v t):=by
 unfold vis
 constructor
 ·rintro⟨h0,h1⟩
  by_cases e:a=t.toNat
  ·exact .inl (by omega)
  ·rw[List.getElem?_set_ne e]at h1
   exact .inr ⟨h0,h1⟩
 ·rintro(rfl | ⟨h0,h1⟩)
  ·exact⟨Int.natCast_nonneg _,by simp[ha]⟩
  ·refine⟨h0,?_⟩
   by_cases e:a=t.toNat
   ·rw[←e,List.getElem?_set_self (by omega)]
   ·rw[List.getElem?_set_ne e];exact h1
theorem WI.new {a:Nat}(h:WI n k r dn v ((a:Int) ::nx) oe os) (hs:¬vis v a) (hd:∀t,t≠(a:Int)→dn' t=dn t) (hd0:dn' a= []):
 WI n k r dn' (v.set a true) nx (oe || decide ((a:Int)=at0 n.stops r)) os:=by
 have hal:a<v.length:=by
  have:=(h.sound a (.inl (by simp))).2.2
  rw[h.vlen];omega
 have hv:=vis_set v hal
 have hne:∀t,vis v t→t≠(a:Int):=fun t ht e=>hs (e▸ht)
 refine⟨by rw[List.length_set];exact h.vlen,h.olen,fun t e=>?_,?_,fun t ht e he hp=>?_,?_,fun q hq=>?_,fun t e he=>?_⟩
 ·rcases e with e | e
  ·exact h.sound t (.inl (List.mem_cons_of_mem _ e))
  ·rcases(hv t).1 e with rfl | e
   ·exact h.sound _ (.inl (by simp))
   ·exact h.sound t (.inr e)
 ·rcases h.start with e | e
  ·rcases List.mem_cons.1 e with e | e
   ·exact .inr ((hv _).2 (.inl e))
   ·exact .inl e
  ·exact .inr ((hv _).2 (.inr e))
 ·rcases(hv t).1 ht with rfl | ht
  ·rw[hd0]at he;cases he
  ·rw[hd t (hne t ht)]at he
   rcases h.closed t ht e he hp with g | g
   ·rcases List.mem_cons.1 g with g | g
    ·exact .inr ((hv _).2 (.inl g))
    ·exact .inl g
   ·exact .inr ((hv _).2 (.inr g))
 ·rw[hv,Bool.or_eq_true,decide_eq_true_eq,h.emp]
  constructor
  ·rintro(g | g)
   ·exact .inr g
   ·exact .inl g.symm
  ·rintro(g | g)
   ·exact .inr g.symm
   ·exact .inl g
 ·rw[h.rul q hq]
  constructor
  ·rintro⟨t,e,g1,g2,g3⟩
   exact⟨t,e,(hv t).2 (.inr g1),by rw[hd t (hne t g1)];exact g2,g3⟩
  ·rintro⟨t,e,g1,g2,g3⟩
   rcases(hv t).1 g1 with rfl | g1
   ·rw[hd0]at g2;cases g2
   ·exact⟨t,e,g1,by rw[hd t (hne t g1)]at g2;exact g2,g3⟩
 ·by_cases e':t=(a:Int)
  ·rw[e',hd0]at he;cases he
  ·rw[hd t e']at he;exact h.sub t e he
theorem WI.edge {e:Ed}{os':List Bool}{nx':List Int}(h:WI n k r dn v nx oe os) (hs:vis v s) (he:e∈edgesAt n s) (hd:∀t,t≠s→dn' t=dn t) (hd0:dn' s=dn s++ [e]) (hto:0≤e.to∧e.to<n.states.length)
 (hnx:(pas k e∧nx'=nx++ [e.to])∨(¬pas k e∧nx'=nx)) (hol:os'.length=os.length)
 (hos:∀q:Nat,q<n.starts.length→(os'[q]? =some true↔(os[q]? =some true∨(e.kind=2∧(e.what=q∨k.rul e.what q=true))))):WI n k r dn' v nx' oe os':=by
 have sub:∀t,t∈nx→t∈nx':=fun t g=>by rcases hnx with⟨_,rfl⟩ | ⟨_,rfl⟩;exact List.mem_append_left _ g;exact g
 have hmem:∀t x,x∈dn' t↔(x∈dn t∨(t=s∧x=e)):=fun t x=>by
  by_cases e':t=s
  ·rw[e',hd0];simp
  ·rw[hd t e'];simp[e']
 refine⟨h.vlen,by rw[hol];exact h.olen,fun t g=>?_,h.start.imp (sub _) id,fun t ht x hx hp=>?_,h.emp,fun q hq=>?_,fun t x hx=>?_⟩
 ·rcases g with g | g
  ·rcases hnx with⟨hp,rfl⟩ | ⟨_,rfl⟩
   ·rcases List.mem_append.1 g with g | g
    ·exact h.sound t (.inl g)
    ·rw[List.mem_singleton]at g
     rw[g]
     exact⟨.step s e (h.sound s (.inr hs)).1 he hp,hto⟩
   ·exact h.sound t (.inl g)
  ·exact h.sound t (.inr g)
 ·rcases(hmem t x).1 hx with g | ⟨_,rfl⟩
  ·exact(h.closed t ht x g hp).imp (sub _) id
  ·rcases hnx with⟨_,rfl⟩ | ⟨hn,_⟩
   ·exact .inl (by simp)
   ·exact absurd hp hn
 ·rw[hos q hq,h.rul q hq]
  constructor
  ·rintro(⟨t,x,g1,g2,g3⟩ | g)
   ·exact⟨t,x,g1,(hmem t x).2 (.inl g2),g3⟩
   ·exact⟨s,e,hs,(hmem s e).2 (.inr ⟨rfl,rfl⟩),g⟩
  ·rintro⟨t,x,g1,g2,g3⟩
   rcases(hmem t x).1 g2 with g2 | ⟨_,rfl⟩
   ·exact .inl ⟨t,x,g1,g2,g3⟩
   ·exact .inr g3
 ·rcases(hmem t x).1 hx with g | ⟨rfl,rfl⟩
  ·exact h.sub t x g
  ·exact he
theorem WI.done (h:WI n k r dn v [] oe os) (hd:∀t,dn t=edgesAt n t):(oe=true↔InK n k r (at0 n.stops r))∧∀q:Nat,q<n.starts.length→(os[q]? =some true↔RulK n k r q):=by
 have hall:∀t,InK n k r t→vis v t:=fun t ht=>by
  induction ht with
  | start=>exact h.start.resolve_left (by simp)
  | step s e _ he hp ih=>exact(h.closed s ih e (by rw[hd];exact he) hp).resolve_left (by simp)
 refine⟨⟨fun g=>(h.sound _ (.inr (h.emp.1 g))).1,fun g=>h.emp.2 (hall _ g)⟩,fun q hq=>?_⟩
 rw[h.rul q hq]
 constructor
 ·rintro⟨t,e,g1,g2,g3⟩
  exact⟨t,e,(h.sound t (.inr g1)).1,h.sub t e g2,g3⟩
 ·rintro⟨t,e,g1,g2,g3⟩
  exact⟨t,e,hall t g1,by rw[hd];exact g2,g3⟩
end
section
variable {n:NNet}{k k':Kn}{r:Int}
def KSound (n:NNet) (k:Kn):Prop:=(∀r,k.emp r=true→Emp n r)∧∀r q,k.rul r q=true→Rch n r q
def KPost (n:NNet) (k:Kn):Prop:=(∀r,k.emp r=true→InK n k r (at0 n.stops r))∧∀r q,k.rul r q=true→RulK n k r q
def KLe (k k':Kn):Prop:=(∀r,k.emp r=true→k'.emp r=true)∧∀r q,k.rul r q=true→k'.rul r q=true
theorem InK.sound (h:KSound n k){s:Int}(g:InK n k r s):InS n r s:=by
 induction g with
 | start=>exact .start r
 | step s e _ he hp ih=>exact .step r s e ih he hp.1 fun h2=>h.1 _ (hp.2 h2)
theorem RulK.sound (h:KSound n k){q:Int}(g:RulK n k r q):Rch n r q:=by
 obtain⟨s,e,g1,g2,g3,g4⟩:=g
 have hd:Dir n r e.what:=⟨s,e,g1.sound h,g2,g3,rfl⟩
 rcases g4 with rfl | g4
 ·exact .one hd
 ·exact .more hd (h.2 _ _ g4)
theorem InK.mono (h:KLe k k'){s:Int}(g:InK n k r s):InK n k' r s:=by
 induction g with
 | start=>exact .start
 | step s e _ he hp ih=>exact .step s e ih he ⟨hp.1,fun h2=>h.1 _ (hp.2 h2)⟩
theorem RulK.mono (h:KLe k k'){q:Int}(g:RulK n k r q):RulK n k' r q:=by
 obtain⟨s,e,g1,g2,g3,g4⟩:=g
 exact⟨s,e,g1.mono h,g2,g3,g4.imp id (h.2 _ _)⟩
theorem known_next (hs:KSound n k) (hp:KPost n k) (he:∀t,t≠r→k'.emp t=k.emp t) (hr:∀t q,t≠r→k'.rul t q=k.rul t q)
 (e1:k'.emp r=true↔InK n k r (at0 n.stops r)) (r1:∀q,k'.rul r q=true→RulK n k r q) (r2:∀q,k.rul r q=true→k'.rul r q=true):KLe k k'∧KSound n k'∧KPost n k':=by
 have hle:KLe k k':=⟨fun t g=>by
  by_cases e:t=r
  ·subst e;exact e1.2 (hp.1 _ g)
  ·rw[he t e];exact g,fun t q g=>by
  by_cases e:t=r
  ·subst e;exact r2 q g
  ·rw[hr t q e];exact g⟩
 refine⟨hle,⟨fun t g=>?_,fun t q g=>?_⟩,⟨fun t g=>?_,fun t q g=>?_⟩⟩
 ·by_cases e:t=r
  ·subst e;exact(e1.1 g).sound hs
  ·exact hs.1 t (by rw[←he t e];exact g)
 ·by_cases e:t=r
  ·subst e;exact(r1 q g).sound hs
  ·exact hs.2 t q (by rw[←hr t q e];exact g)
 ·by_cases e:t=r
  ·subst e;exact(e1.1 g).mono hle
  ·exact(hp.1 t (by rw[←he t e];exact g)).mono hle
 ·by_cases e:t=r
  ·subst e;exact(r1 q g).mono hle
  ·exact(hp.2 t q (by rw[←hr t q e];exact g)).mono hle
theorem known_all (hw:∀s e,e∈edgesAt n s→e.kind=2→0≤e.what∧e.what<n.starts.length) (hs:KSound n k) (he:∀r:Int,0≤r→r<n.starts.length→InK n k r (at0 n.stops r)→k.emp r=true)
 (hr:∀r q:Int,0≤r→r<n.starts.length→0≤q→q<n.starts.length→RulK n k r q→k.rul r q=true):
 (∀r:Int,0≤r→r<n.starts.length→(k.emp r=true↔Emp n r))∧∀r q:Int,0≤r→r<n.starts.length→0≤q→q<n.starts.length→(k.rul r q=true↔Rch n r q):=by
 have hin:∀r s,InS n r s→InK n k r s:=fun r s g=>by
  induction g with
  | start r=>exact .start
  | step r s e _ he' h1 _ ih1 ih2=>exact .step s e ih1 he' ⟨h1,fun h2=>he _ (hw s e he' h2).1 (hw s e he' h2).2 (ih2 h2)⟩
 refine⟨fun r h0 h1=>⟨hs.1 r,fun g=>he r h0 h1 (hin _ _ g)⟩,fun r q h0 h1 h2 h3=>⟨hs.2 r q,fun g=>?_⟩⟩
 induction g with
 | one hd=>
  obtain⟨s,e,g1,g2,g3,rfl⟩:=hd
  exact hr _ _ h0 h1 h2 h3 ⟨s,e,hin _ _ g1,g2,g3,.inl rfl⟩
 | more hd _ ih=>
  obtain⟨s,e,g1,g2,g3,rfl⟩:=hd
  have hwe:=hw s e g2 g3
  exact hr _ _ h0 h1 h2 h3 ⟨s,e,hin _ _ g1,g2,g3,.inr (ih hwe.1 hwe.2 h2 h3)⟩
end
theorem may_edge {n:NNet}(h:mayNet n=true){s:NSt}(hs:s∈n.states){e:Ed}(he:e∈s.edges):(0≤e.to∧e.to<n.states.length)∧0≤e.kind∧e.kind≤3∧0≤e.what∧(e.kind=2→e.what<n.starts.length):=by
 unfold mayNet at h
 simp only[Bool.and_eq_true,List.all_eq_true]at h
 have h1:=(h.1.2 s hs).1.1
 unfold stMay at h1
 simp only[Bool.and_eq_true,List.all_eq_true]at h1
 have h2:=h1.1 e he
 unfold edgeB stateB at h2
 simp only[Bool.and_eq_true,decide_eq_true_eq,Bool.or_eq_true,beq_iff_eq]at h2
 obtain⟨⟨⟨⟨a1,a2⟩,a3⟩,a4⟩,a5,a6⟩:=h2
 refine⟨⟨a5,a6⟩,a1,a2,a3,fun hk=>?_⟩
 rcases a4 with a4 | a4
 ·omega
 ·rw[if_pos hk]at a4;exact a4
theorem may_start {n:NNet}(h:mayNet n=true){r:Nat}(hr:r<n.starts.length):(0≤at0 n.starts r∧at0 n.starts r<n.states.length)∧(0≤at0 n.stops r∧at0 n.stops r<n.states.length)∧n.stops.length=n.starts.length:=by
 unfold mayNet at h
 simp only[Bool.and_eq_true,List.all_eq_true,beq_iff_eq]at h
 obtain⟨⟨⟨⟨⟨h1,h2⟩,h3⟩,_⟩,_⟩,_⟩:=h
 have g1:=h2 n.starts[r] (List.getElem_mem hr)
 have g2:=h3 (n.stops[r]'(by omega)) (List.getElem_mem _)
 unfold stateB at g1 g2
 simp only[Bool.and_eq_true,decide_eq_true_eq]at g1 g2
 unfold at0
 rw[List.getD_eq_getElem?_getD,List.getD_eq_getElem?_getD,Int.toNat_natCast,List.getElem?_eq_getElem hr,List.getElem?_eq_getElem (by omega)]
 exact⟨g1,g2,h1.symm⟩
theorem edgesAt_mem {n:NNet}{s:Nat}(hs:s<n.states.length):edgesAt n s=n.states[s].edges:=by
 unfold edgesAt
 rw[List.getD_eq_getElem?_getD,Int.toNat_natCast,List.getElem?_eq_getElem hs]
 rfl
def toK (kn:List (List Bool×Bool)):Kn:=
 ⟨fun r=>decide (0≤r) && (kn.getD r.toNat ([],false)).2,fun r q=>decide (0≤r) && decide (0≤q) && (kn.getD r.toNat ([],false)).1.getD q.toNat false⟩
theorem WI.start0 {n:NNet}{k:Kn}{r:Int}(h:0≤at0 n.starts r∧at0 n.starts r<n.states.length):WI n k r (edgesAt n) (List.replicate n.states.length false) [at0 n.starts r] false (List.replicate n.starts.length false):=by
 have hv:∀s,¬vis (List.replicate n.states.length false) s:=fun s e=>by
  have:=e.2
  rw[List.getElem?_replicate]at this
  split at this
  ·cases this
  ·cases this
 refine⟨by simp,by simp,fun s e=>?_,.inl (by simp),fun s e=>absurd e (hv s),⟨fun e=>(by cases e),fun e=>absurd e (hv _)⟩,fun q hq=>⟨fun e=>?_,fun⟨s,_,e,_⟩=>absurd e (hv s)⟩,fun _ _ h=>h⟩
 ·rcases e with e | e
  ·rw[List.mem_singleton]at e
   rw[e]
   exact⟨.start,h⟩
  ·exact absurd e (hv s)
 ·rw[List.getElem?_replicate]at e
  split at e
  ·cases e
  ·cases e
def dnAt (n:NNet) (a:Int) (j:Nat) (t:Int):List Ed:=if t=a then(edgesAt n a).take j else edgesAt n t
theorem dnAt_zero (n:NNet) (a:Int):dnAt n a 0 a= []:=by unfold dnAt;rw[if_pos rfl,List.take_zero]
theorem dnAt_ne (n:NNet){a t:Int}(j:Nat) (h:t≠a):dnAt n a j t=edgesAt n t:=by unfold dnAt;rw[if_neg h]
theorem dnAt_succ (n:NNet) (a:Int){j:Nat}{e:Ed}(h:(edgesAt n a)[j]? =some e):dnAt n a (j+1) a=dnAt n a j a++ [e]:=by
 unfold dnAt
 rw[if_pos rfl,if_pos rfl]
 obtain⟨hj,he⟩:=List.getElem?_eq_some_iff.1 h
 rw[List.take_succ_eq_append_getElem hj,he]
theorem dnAt_all (n:NNet) (a:Int){j:Nat}(h:(edgesAt n a).length≤j) (t:Int):dnAt n a j t=edgesAt n t:=by
 unfold dnAt
 split
 ·rename_i e
  rw[List.take_of_length_le h,e]
 ·rfl
def orTo (os ks:List Bool):Nat→List Bool
 | 0=>os
 | i+1=>(orTo os ks i).set i ((orTo os ks i).getD i false || ks.getD i false)
theorem orTo_len (os ks:List Bool):∀i,(orTo os ks i).length=os.length
 | 0=>rfl
 | i+1=>by unfold orTo;rw[List.length_set,orTo_len os ks i]
theorem orTo_get (os ks:List Bool) (q:Nat) (hq:q<os.length):∀i,((orTo os ks i)[q]? =some true↔(os[q]? =some true∨(q<i∧ks.getD q false=true)))
 | 0=>by unfold orTo;simp
 | i+1=>by
  have ih:=orTo_get os ks q hq i
  have hl:=orTo_len os ks i
  unfold orTo
  by_cases e:i=q
  ·subst e
   rw[List.getElem?_set_self (by omega)]
   have hg:(orTo os ks i).getD i false=true↔(orTo os ks i)[i]? =some true:=by
    rw[List.getD_eq_getElem?_getD,List.getElem?_eq_getElem (by omega)]
    simp
   simp only[Option.some.injEq,Bool.or_eq_true,hg,ih]
   constructor
   ·rintro((h | ⟨h,_⟩) | h)
    ·exact .inl h
    ·omega
    ·exact .inr ⟨by omega,h⟩
   ·rintro(h | ⟨_,h⟩)
    ·exact .inl (.inl h)
    ·exact .inr h
  ·rw[List.getElem?_set_ne e,ih]
   constructor
   ·rintro(h | ⟨h,g⟩)
    ·exact .inl h
    ·exact .inr ⟨by omega,g⟩
   ·rintro(h | ⟨h,g⟩)
    ·exact .inl h
    ·exact .inr ⟨by omega,g⟩
theorem orTo_rule {R:Nat}{b:Bool}{os ks:List Bool}{kn:List (List Bool×Bool)}{e:Nat}(hlen:os.length=R) (he:e<R) (hkn:kn.length=R) (hks:kn[e]? =some (ks,b)) (hkl:ks.length=0∨ks.length=R) (q:Nat) (hq:q<R):
 ((orTo (os.set e true) ks ks.length)[q]? =some true↔(os[q]? =some true∨((e:Int)=q∨(toK kn).rul e q=true))):=by
 rw[orTo_get _ _ q (by rw[List.length_set,hlen];exact hq)]
 have hr:(toK kn).rul e q=ks.getD q false:=by
  unfold toK
  simp only[Int.toNat_natCast]
  rw[show kn.getD e ([],false)=(ks,b) by rw[List.getD_eq_getElem?_getD,hks];rfl]
  simp
 rw[hr]
 have h0:(os.set e true)[q]? =some true↔(os[q]? =some true∨(e:Int)=q):=by
  by_cases h:e=q
  ·subst h
   rw[List.getElem?_set_self (by omega)]
   simp
  ·rw[List.getElem?_set_ne h]
   constructor
   ·exact .inl
   ·rintro(g | g)
    ·exact g
    ·omega
 rw[h0]
 constructor
 ·rintro((h | h) | ⟨_,h⟩)
  ·exact .inl h
  ·exact .inr (.inl h)
  ·exact .inr (.inr h)
 ·rintro(h | h | h)
  ·exact .inl (.inl h)
  ·exact .inl (.inr h)
  ·refine .inr ⟨?_,h⟩
   rcases hkl with g | g
   ·rw[List.length_eq_zero_iff.1 g]at h
    simp at h
   ·omega
def open1 (R:Nat) (x:List Bool×Bool):Nat:=((List.range R).filter fun q=>!(x.1.getD q false)).length+(if x.2=true then 0 else 1)
def openK (R:Nat):List (List Bool×Bool)→Nat
 | []=>0
 | x ::l=>open1 R x+openK R l
def todo1:List NSt→List Bool→Nat
 | s ::l,b ::v=>(if b=true then 0 else s.edges.length+1)+todo1 l v
 | _,_=>0
theorem todo_le {M:Nat}:∀(l:List NSt) (v:List Bool),(∀s∈l,s.edges.length≤M)→todo1 l v≤l.length*(M+1)
 | [],_,_=>by simp[todo1]
 | s ::l,[],_=>by simp[todo1]
 | s ::l,b ::v,h=>by
  have ih:=todo_le l v fun x hx=>h x (List.mem_cons_of_mem _ hx)
  have h1:=h s (by simp)
  unfold todo1
  rw[List.length_cons,Nat.succ_mul]
  split <;> omega
theorem todo_set:∀(l:List NSt) (v:List Bool) (a:Nat) (ha:a<l.length),v[a]? =some false→todo1 l (v.set a true)+(l[a].edges.length+1)=todo1 l v
 | [],_,_,ha,_=>absurd ha (Nat.not_lt_zero _)
 | s ::l,[],a,_,h=>by simp at h
 | s ::l,b ::v,0,_,h=>by
  have hb:b=false:=by simpa using h
  subst hb
  simp[todo1]
  omega
 | s ::l,b ::v,a+1,ha,h=>by
  have ih:=todo_set l v a (by simpa using ha) (by simpa using h)
  simp only[List.set_cons_succ,todo1,List.getElem_cons_succ]
  omega
end Drv
end Go.Proofs.Ytgflanlniejflaa
namespace Go.Proofs.Ytgflanlniejflaa
namespace Drv
structure GK (n:NNet) (kn:List (List Bool×Bool)):Prop where
 len:kn.length=n.starts.length
 rl:∀x∈kn,x.1.length=0∨x.1.length=n.starts.length
 snd:KSound n (toK kn)
 post:KPost n (toK kn)
def open2 (R:Nat) (x:List Bool×Bool):Nat:=open1 R x+(if x.1.length=R then 0 else 1)
def openL (R:Nat):List (List Bool×Bool)→Nat
 | []=>0
 | x ::l=>open2 R x+openL R l
theorem openL_set (R:Nat) (x:List Bool×Bool):∀(kn:List (List Bool×Bool)) (r:Nat) (hr:r<kn.length),open2 R x<open2 R kn[r]→openL R (kn.set r x)<openL R kn
 | [],_,h,_=>absurd h (Nat.not_lt_zero _)
 | y ::l,0,_,h=>by
  show open2 R x+openL R l<open2 R y+openL R l
  have h':open2 R x<open2 R y:=h
  omega
 | y ::l,r+1,hr,h=>by
  have ih:=openL_set R x l r (by simpa using hr) (by simpa using h)
  show open2 R y+openL R (l.set r x)<open2 R y+openL R l
  omega
theorem toK_emp (kn:List (List Bool×Bool)) (r:Nat):(toK kn).emp r=(kn.getD r ([],false)).2:=by
 unfold toK;simp
theorem toK_rul (kn:List (List Bool×Bool)) (r q:Nat):(toK kn).rul r q=(kn.getD r ([],false)).1.getD q false:=by
 unfold toK;simp
theorem toK_emp_nat {kn:List (List Bool×Bool)}{r:Int}(h:(toK kn).emp r=true):∃m:Nat,r=m:=by
 unfold toK at h
 simp only[Bool.and_eq_true,decide_eq_true_eq]at h
 exact⟨r.toNat,by omega⟩
theorem toK_rul_nat {kn:List (List Bool×Bool)}{r q:Int}(h:(toK kn).rul r q=true):∃m k:Nat,r=m∧q=k:=by
 unfold toK at h
 simp only[Bool.and_eq_true,decide_eq_true_eq]at h
 exact⟨r.toNat,q.toNat,by omega,by omega⟩
theorem getD_true {l:List Bool}{q:Nat}:l.getD q false=true↔l[q]? =some true:=by
 rw[List.getD_eq_getElem?_getD]
 cases h:l[q]? with
 | none=>simp
 | some b=>simp
theorem set_getD {kn:List (List Bool×Bool)}{r:Nat}(hr:r<kn.length) (x:List Bool×Bool):(kn.set r x).getD r ([],false)=x:=by
 rw[List.getD_eq_getElem?_getD,List.getElem?_set_self hr];rfl
theorem set_getD_ne {kn:List (List Bool×Bool)}{r t:Nat}(h:r≠t) (x:List Bool×Bool):(kn.set r x).getD t ([],false)=kn.getD t ([],false):=by
 rw[List.getD_eq_getElem?_getD,List.getElem?_set_ne h,←List.getD_eq_getElem?_getD]
section
variable {n:NNet}{kn:List (List Bool×Bool)}{r:Nat}{os:List Bool}{oe:Bool}
theorem GK.start (n:NNet):GK n (List.replicate n.starts.length ([],false)):=by
 have h0:∀r,(List.replicate n.starts.length (([]:List Bool),false)).getD r ([],false)=([],false):=fun r=>by
  rw[List.getD_eq_getElem?_getD,List.getElem?_replicate]
  split <;> rfl
 have h1:∀r,¬(toK (List.replicate n.starts.length ([],false))).emp r=true:=fun r h=>by
  obtain⟨m,rfl⟩:=toK_emp_nat h
  rw[toK_emp,h0]at h
  cases h
 have h2:∀r q,¬(toK (List.replicate n.starts.length ([],false))).rul r q=true:=fun r q h=>by
  obtain⟨m,k,rfl,rfl⟩:=toK_rul_nat h
  rw[toK_rul,h0]at h
  simp at h
 exact⟨by simp,fun x hx=>by rw[(List.mem_replicate.1 hx).2];exact .inl rfl,⟨fun r h=>absurd h (h1 r),fun r q h=>absurd h (h2 r q)⟩,⟨fun r h=>absurd h (h1 r),fun r q h=>absurd h (h2 r q)⟩⟩
theorem GK.next (h:GK n kn) (hr:r<n.starts.length) (hol:os.length=n.starts.length) (e1:oe=true↔InK n (toK kn) r (at0 n.stops r)) (r1:∀q:Nat,q<n.starts.length→(os[q]? =some true↔RulK n (toK kn) r q)):
 KLe (toK kn) (toK (kn.set r (os,oe)))∧GK n (kn.set r (os,oe)):=by
 have hrk:r<kn.length:=by rw[h.len];exact hr
 have hne:∀t:Int,t≠(r:Int)→∀m:Nat,t=m→r≠m:=fun t ht m hm e=>ht (by rw[hm,e])
 have main:=known_next (r:=(r:Int)) (k':=toK (kn.set r (os,oe))) h.snd h.post
  (fun t ht=>by
   rcases Int.lt_or_le t 0 with h0 | h0
   ·unfold toK;simp[show¬0≤t by omega]
   ·obtain⟨m,rfl⟩:∃m:Nat,t=m:=⟨t.toNat,by omega⟩
    rw[toK_emp,toK_emp,set_getD_ne (hne _ ht m rfl)])
  (fun t q ht=>by
   rcases Int.lt_or_le t 0 with h0 | h0
   ·unfold toK;simp[show¬0≤t by omega]
   ·obtain⟨m,rfl⟩:∃m:Nat,t=m:=⟨t.toNat,by omega⟩
    rcases Int.lt_or_le q 0 with g0 | g0
    ·unfold toK;simp[show¬0≤q by omega]
    ·obtain⟨k,rfl⟩:∃k:Nat,q=k:=⟨q.toNat,by omega⟩
     rw[toK_rul,toK_rul,set_getD_ne (hne _ ht m rfl)])
  (by rw[toK_emp,set_getD hrk];exact e1)
  (fun q hq=>by
   obtain⟨_,k,_,rfl⟩:=toK_rul_nat hq
   rw[toK_rul,set_getD hrk,getD_true]at hq
   have hk:k<n.starts.length:=by rw[←hol];exact(List.getElem?_eq_some_iff.1 hq).1
   exact(r1 k hk).1 hq)
  (fun q hq=>by
   obtain⟨_,k,_,rfl⟩:=toK_rul_nat hq
   have h2:=h.post.2 _ _ hq
   have hk:k<n.starts.length:=by
    rw[toK_rul,getD_true]at hq
    have h3:=(List.getElem?_eq_some_iff.1 hq).1
    have h4:kn.getD r ([],false)=kn[r]:=by rw[List.getD_eq_getElem?_getD,List.getElem?_eq_getElem hrk];rfl
    rw[h4]at h3
    rcases h.rl _ (List.getElem_mem hrk)with g | g <;> omega
   rw[toK_rul,set_getD hrk,getD_true]
   exact(r1 k hk).2 h2)
 refine⟨main.1,⟨by rw[List.length_set];exact h.len,fun x hx=>?_,main.2.1,main.2.2⟩⟩
 rcases List.mem_or_eq_of_mem_set hx with g | rfl
 ·exact h.rl x g
 ·exact .inr hol
theorem filter_le {l:List Nat}{p q:Nat→Bool}(h:∀x∈l,p x=true→q x=true):(l.filter p).length≤(l.filter q).length:=by
 induction l with
 | nil=>exact Nat.le_refl _
 | cons b l ih2=>
  have ih2:=ih2 (fun x hx=>h x (List.mem_cons_of_mem _ hx))
  by_cases pb:p b=true
  ·rw[List.filter_cons_of_pos pb,List.filter_cons_of_pos (h b (by simp) pb)];simp;exact ih2
  ·rw[List.filter_cons_of_neg pb]
   by_cases qb:q b=true
   ·rw[List.filter_cons_of_pos qb];simp;omega
   ·rw[List.filter_cons_of_neg qb];exact ih2
theorem GK.less (h:GK n kn) (hr:r<n.starts.length) (hrk:r<kn.length) (hol:os.length=n.starts.length) (e1:oe=true↔InK n (toK kn) r (at0 n.stops r)) (r1:∀q:Nat,q<n.starts.length→(os[q]? =some true↔RulK n (toK kn) r q))
 (hne:¬(oe=kn[r].2∧os=kn[r].1)):openL n.starts.length (kn.set r (os,oe))<openL n.starts.length kn:=by
 refine openL_set _ _ _ _ hrk ?_
 obtain⟨hle,_⟩:=h.next hr hol e1 r1
 have hg:kn.getD r ([],false)=kn[r]:=by rw[List.getD_eq_getElem?_getD,List.getElem?_eq_getElem hrk];rfl
 have ge:kn[r].2=true→oe=true:=fun g=>by
  have:=hle.1 r (by rw[toK_emp,hg];exact g)
  rw[toK_emp,set_getD hrk]at this
  exact this
 have gr:∀q:Nat,kn[r].1.getD q false=true→os.getD q false=true:=fun q g=>by
  have:=hle.2 r q (by rw[toK_rul,hg];exact g)
  rw[toK_rul,set_getD hrk]at this
  exact this
 generalize kn[r]=x at hne ge gr
 obtain⟨xs,xe⟩:=x
 simp only at hne ge gr
 have hf:=filter_le (l:=List.range n.starts.length) (p:=fun q=>!(os.getD q false)) (q:=fun q=>!(xs.getD q false)) (fun q _ g=>by
  simp only[Bool.not_eq_true']at g⊢
  cases e:xs.getD q false with
  | false=>rfl
  | true=>rw[gr q e]at g;cases g)
 have hx:(if oe=true then 0 else 1)≤(if xe=true then 0 else 1):=by
  cases xe with
  | true=>rw[ge rfl];simp
  | false=>simp;split <;> omega
 unfold open2 open1
 simp only[if_pos hol,Nat.add_zero]
 by_cases hl:xs.length=n.starts.length
 ·rw[if_pos hl]
  by_cases he:oe=xe
  ·have hos:os≠xs:=fun e=>hne ⟨he,e⟩
   have:∃q,q<n.starts.length∧xs.getD q false=false∧os.getD q false=true:=by
    apply Classical.byContradiction
    intro hno
    apply hos
    apply List.ext_getElem (by omega)
    intro q h1 h2
    have g1:os.getD q false=os[q]:=by rw[List.getD_eq_getElem?_getD,List.getElem?_eq_getElem h1];rfl
    have g2:xs.getD q false=xs[q]:=by rw[List.getD_eq_getElem?_getD,List.getElem?_eq_getElem h2];rfl
    cases e1:xs[q]with
    | true=>rw[←g1];exact gr q (by rw[g2,e1])
    | false=>
     cases e2:os[q]with
     | false=>rfl
     | true=>exact absurd ⟨q,by omega,by rw[g2,e1],by rw[g1,e2]⟩ hno
   obtain⟨q,hq,h1,h2⟩:=this
   have hlt:=filter_lt (l:=List.range n.starts.length) (p:=fun q=>!(os.getD q false)) (q:=fun q=>!(xs.getD q false)) (fun q _ g=>by
    simp only[Bool.not_eq_true']at g⊢
    cases e:xs.getD q false with
    | false=>rfl
    | true=>rw[gr q e]at g;cases g) (List.mem_range.2 hq) (by rw[h2];rfl) (by rw[h1];rfl)
   omega
  ·have hlt:(if oe=true then 0 else 1)<(if xe=true then 0 else 1):=by
    cases xe with
    | true=>exact absurd (ge rfl) he
    | false=>
     cases oe with
     | false=>exact absurd rfl he
     | true=>simp
   omega
 ·rw[if_neg hl]
  omega
def Fix (n:NNet) (kn:List (List Bool×Bool)) (r:Nat):Prop:=
 (InK n (toK kn) r (at0 n.stops r)→(toK kn).emp r=true)∧(∀q:Nat,q<n.starts.length→RulK n (toK kn) r q→(toK kn).rul r q=true)∧(kn.getD r ([],false)).1.length=n.starts.length
theorem fix_of (hrk:r<kn.length) (hol:os.length=n.starts.length) (e1:oe=true↔InK n (toK kn) r (at0 n.stops r)) (r1:∀q:Nat,q<n.starts.length→(os[q]? =some true↔RulK n (toK kn) r q)) (he:oe=kn[r].2) (ho:os=kn[r].1):Fix n kn r:=by
 have hg:kn.getD r ([],false)=kn[r]:=by rw[List.getD_eq_getElem?_getD,List.getElem?_eq_getElem hrk];rfl
 refine⟨fun g=>?_,fun q hq g=>?_,by rw[hg,←ho];exact hol⟩
 ·rw[toK_emp,hg,←he];exact e1.2 g
 ·rw[toK_rul,hg,←ho,getD_true];exact(r1 q hq).2 g
structure Known (n:NNet) (k:Kn):Prop where
 emp:∀r:Int,0≤r→r<n.starts.length→(k.emp r=true↔Emp n r)
 rul:∀r q:Int,0≤r→r<n.starts.length→0≤q→q<n.starts.length→(k.rul r q=true↔Rch n r q)
 lim:∀r q:Int,k.rul r q=true→0≤r∧r<n.starts.length∧0≤q∧q<n.starts.length
theorem edgesAt_in {n:NNet}{s:Int}{e:Ed}(h:e∈edgesAt n s):∃x∈n.states,e∈x.edges:=by
 unfold edgesAt at h
 rw[List.getD_eq_getElem?_getD]at h
 cases g:n.states[s.toNat]? with
 | none=>rw[g]at h;cases h
 | some x=>rw[g]at h;exact⟨x,List.mem_of_getElem? g,h⟩
theorem GK.all (h:GK n kn) (hm:mayNet n=true) (hf:∀r,r<n.starts.length→Fix n kn r):Known n (toK kn):=by
 have hk:=known_all (n:=n) (k:=toK kn) (fun s e he h2=>by
  obtain⟨x,hx,hxe⟩:=edgesAt_in he
  have:=may_edge hm hx hxe
  exact⟨this.2.2.2.1,this.2.2.2.2 h2⟩) h.snd
  (fun r h0 h1 g=>by
   obtain⟨m,rfl⟩:∃m:Nat,r=m:=⟨r.toNat,by omega⟩
   exact(hf m (by omega)).1 g)
  (fun r q h0 h1 h2 h3 g=>by
   obtain⟨m,rfl⟩:∃m:Nat,r=m:=⟨r.toNat,by omega⟩
   obtain⟨k,rfl⟩:∃k:Nat,q=k:=⟨q.toNat,by omega⟩
   exact(hf m (by omega)).2.1 k (by omega) g)
 refine⟨hk.1,hk.2,fun r q g=>?_⟩
 obtain⟨m,k,rfl,rfl⟩:=toK_rul_nat g
 rw[toK_rul]at g
 have hmk:m<kn.length:=by
  apply Classical.byContradiction
  intro hno
  rw[show kn.getD m ([],false)=([],false) by rw[List.getD_eq_getElem?_getD,List.getElem?_eq_none (show kn.length≤m by omega)];rfl]at g
  simp at g
 have hg:kn.getD m ([],false)=kn[m]:=by rw[List.getD_eq_getElem?_getD,List.getElem?_eq_getElem hmk];rfl
 rw[hg,getD_true]at g
 have h3:=(List.getElem?_eq_some_iff.1 g).1
 have h4:=h.len
 rcases h.rl _ (List.getElem_mem hmk)with e | e <;> omega
end
end Drv
end Go.Proofs.Ytgflanlniejflaa
namespace Go.Proofs.Ytgflanlniejflaa
namespace Drv
section
variable {r:Int}{rules:Int→Bool}{was:Int→Int}
theorem ownE_append:∀(a b:List Ed) (sum:Int),ownE rules was (a++b) sum=ownE rules was b (ownE rules was a sum)
 | [],_,_=>rfl
 | e ::a,b,sum=>by
  show ownE rules was (a++b) _=ownE rules was b (ownE rules was a _)
  exact ownE_append a b _
theorem ownS_append:∀(a b:List NSt) (sum:Int),ownS r rules was (a++b) sum=ownS r rules was b (ownS r rules was a sum)
 | [],_,_=>rfl
 | s ::a,b,sum=>by
  show ownS r rules was (a++b) _=ownS r rules was b (ownS r rules was a _)
  exact ownS_append a b _
theorem ownE_take (l:List Ed){i:Nat}(hi:i<l.length) (sum:Int):ownE rules was (l.take (i+1)) sum=(if l[i].kind=2∧rules l[i].what=true then most40 (ownE rules was (l.take i) sum+was l[i].what)else ownE rules was (l.take i) sum):=by
 rw[List.take_succ_eq_append_getElem hi,ownE_append]
 rfl
theorem ownS_take (l:List NSt){i:Nat}(hi:i<l.length) (sum:Int):ownS r rules was (l.take (i+1)) sum=(if l[i].rule=r then ownE rules was l[i].edges (ownS r rules was (l.take i) sum+1)else ownS r rules was (l.take i) sum):=by
 rw[List.take_succ_eq_append_getElem hi,ownS_append]
 rfl
theorem most40_bd {x:Int}(h:0≤x):0≤most40 x∧most40 x≤1099511627776:=by
 unfold most40
 omega
theorem ownE_bd (hw:∀q,0≤was q){c:Int}(hc:1099511627776≤c):∀(l:List Ed) (sum:Int),0≤sum→sum≤c→0≤ownE rules was l sum∧ownE rules was l sum≤c
 | [],_,h0,h1=>⟨h0,h1⟩
 | e ::l,sum,h0,h1=>by
  unfold ownE
  have hm:=most40_bd (x:=sum+was e.what) (by have:=hw e.what;omega)
  split
  ·exact ownE_bd hw hc l _ hm.1 (by omega)
  ·exact ownE_bd hw hc l _ h0 h1
theorem ownS_bd (hw:∀q,0≤was q):∀(l:List NSt) (sum:Int) (c:Int),1099511627776≤c→0≤sum→sum≤c→0≤ownS r rules was l sum∧ownS r rules was l sum≤c+l.length
 | [],_,_,_,h0,h1=>⟨h0,by simpa[ownS]using h1⟩
 | s ::l,sum,c,hc,h0,h1=>by
  unfold ownS
  have he:=ownE_bd (rules:=rules) hw (show(1099511627776:Int)≤c+1 by omega) s.edges (sum+1) (by omega) (by omega)
  have:=List.length_cons (a:=s) (as:=l)
  split
  ·have:=ownS_bd hw l _ (c+1) (by omega) he.1 he.2
   omega
  ·have:=ownS_bd hw l _ (c+1) (by omega) h0 (by omega)
   omega
end
theorem ownN_nn (n:NNet) (rules:Int→Int→Bool):∀(k:Nat) (r:Int),0≤ownN n rules k r
 | 0,_=>Int.le_refl _
 | k+1,r=>(ownS_bd (fun q=>ownN_nn n rules k q) n.states 0 1099511627776 (by omega) (by omega) (by omega)).1
def wOf (n:NNet) (rul:Int→Int→Bool) (r:Int):Int:=ownN n rul (n.starts.length+1) r
theorem wOf_nn (n:NNet) (rul:Int→Int→Bool) (r:Int):0≤wOf n rul r:=ownN_nn n rul _ r
theorem wOf_le (n:NNet) (rul:Int→Int→Bool) (r:Int):wOf n rul r≤1099511627776+n.states.length:=
 (ownS_bd (fun q=>ownN_nn n rul _ q) n.states 0 1099511627776 (by omega) (by omega) (by omega)).2
theorem hgt_le (R:Nat) (rul:Int→Int→Bool) (r:Int):hgt R rul r≤R:=by
 unfold hgt
 have:=List.length_filter_le (fun q:Nat=>rul r q) (List.range R)
 rw[List.length_range]at this
 exact this
theorem Known.trans {n:NNet}{k:Kn}(h:Known n k) (a b c:Int) (h1:k.rul a b=true) (h2:k.rul b c=true):k.rul a c=true:=by
 have l1:=h.lim _ _ h1
 have l2:=h.lim _ _ h2
 rw[h.rul a c l1.1 l1.2.1 l2.2.2.1 l2.2.2.2]
 exact((h.rul a b l1.1 l1.2.1 l1.2.2.1 l1.2.2.2).1 h1).trans ((h.rul b c l2.1 l2.2.1 l2.2.2.1 l2.2.2.2).1 h2)
theorem Known.nat {n:NNet}{k:Kn}(h:Known n k) (a b:Int) (h1:k.rul a b=true):∃q:Nat,q<n.starts.length∧b=q:=
 ⟨b.toNat,by have:=h.lim _ _ h1;omega,by have:=h.lim _ _ h1;omega⟩
theorem wOf_stable {n:NNet}{k:Kn}(h:Known n k) (hi:∀r,k.rul r r=false){q r:Int}(hq:k.rul r q=true):ownN n k.rul n.starts.length q=wOf n k.rul q:=by
 obtain⟨q',hq',rfl⟩:=h.nat _ _ hq
 have h1:=hgt_lt (R:=n.starts.length) h.trans hi hq' hq
 have h2:=hgt_le n.starts.length k.rul r
 unfold wOf
 exact(ownN_stable n h.trans hi h.nat n.starts.length q' (by omega) _ (by omega)).symm
theorem wOf_eq {n:NNet}{k:Kn}(h:Known n k) (hi:∀r,k.rul r r=false) (r:Int):wOf n k.rul r=ownS r (k.rul r) (wOf n k.rul) n.states 0:=by
 show ownS r (k.rul r) (ownN n k.rul n.starts.length) n.states 0=_
 exact ownS_congr (fun q hq=>wOf_stable h hi hq) _ _
def wMax (n:NNet) (rul:Int→Int→Bool):Nat→Int
 | 0=>0
 | i+1=>max (wMax n rul i) (wOf n rul i)
def selfR (rul:Int→Int→Bool):Nat→Bool
 | 0=>false
 | i+1=>selfR rul i || rul i i
def wideR (n:NNet) (rul:Int→Int→Bool):Int:=if selfR rul n.starts.length=true then 1099511627776 else wMax n rul n.starts.length
theorem selfR_iff (rul:Int→Int→Bool):∀i,selfR rul i=true↔∃r:Nat,r<i∧rul r r=true
 | 0=>by simp[selfR]
 | i+1=>by
  unfold selfR
  rw[Bool.or_eq_true,selfR_iff rul i]
  constructor
  ·rintro(⟨r,h,g⟩ | g)
   ·exact⟨r,by omega,g⟩
   ·exact⟨i,by omega,g⟩
  ·rintro⟨r,h,g⟩
   rcases Nat.lt_succ_iff_lt_or_eq.1 h with h | rfl
   ·exact .inl ⟨r,h,g⟩
   ·exact .inr g
theorem Known.irr {n:NNet}{k:Kn}(h:Known n k) (hs:selfR k.rul n.starts.length=false) (r:Int):k.rul r r=false:=by
 cases g:k.rul r r with
 | false=>rfl
 | true=>
  exfalso
  obtain⟨q,hq,rfl⟩:=h.nat _ _ g
  rw[(selfR_iff k.rul _).2 ⟨q,hq,g⟩]at hs
  cases hs
end Drv
end Go.Proofs.Ytgflanlniejflaa
