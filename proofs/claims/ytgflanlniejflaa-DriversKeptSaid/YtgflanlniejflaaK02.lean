/-
  Drivers: DrvLaw, DrvSim, DrvSim2, DrvSim3, DrvSim4, DrvSim5, DrvParse, DrvVal, DrvWide (texts joined).
-/
namespace Go.Proofs.Ytgflanlniejflaa
namespace Drv
structure Ed where
 kind:Int
 what:Int
 to:Int
structure NSt where
 rule:Int
 edges:List Ed
 ends:List Int
inductive Tr where
 | node (rule token kind:Int) (err:Bool) (subs:List Tr)
structure DC where
 states:List NSt
 starts:List Int
 stops:List Int
 preds:List Int
 decs:List Int
 w:List Int
 fuel:Int
 depth:Nat
 dec:Int→Int
 run:Int→Int→Int×List Int×Int
abbrev K4:=Int×Int×Int×Int
def DC.st (c:DC) (i:Int):NSt:=if i<0 then⟨0,[],[]⟩else c.states.getD i.toNat ⟨0,[],[]⟩
def DC.tok (c:DC) (i:Int):Int:=c.w.getD i.toNat 0
def at0 (l:List Int) (i:Int):Int:=l.getD i.toNat 0
def NSt.ed (s:NSt) (i:Int):Ed:=s.edges.getD i.toNat ⟨0,0,0⟩
def know (K:List K4) (what which pos:Int):Option Int:=(K.find? fun k=>k.1==what && k.2.1==which && k.2.2.1==pos).map (·.2.2.2)
def say (K:List K4) (what which pos to:Int):List K4:=match know K what which pos with
 | some _=>K
 | none=>K++ [(what,which,pos,to)]
structure PS where
 used:Int
 deep:Int
 spec:Int
 known:List K4
 err:Int
def leaf (pos kind:Int):Tr:=.node (-1) pos kind false []
def tryR (c:DC) (look:Int→Int→Int→PS→Int×PS) (s:NSt) (d pos:Int):List Int→PS→Int×PS
 | [],p=>(-1,{p with known:=say p.known 0 d pos (-1)})
 | [a],p=>(a,{p with known:=say p.known 0 d pos a})
 | a ::b ::r,p=>
  let q:=look (s.ed a).to (at0 s.ends a) pos p
  if q.2.err≠0 then(-1,q.2)
  else if 0≤q.1 then(a,{q.2 with known:=say q.2.known 0 d pos a})
  else tryR c look s d pos (b ::r) q.2
def pickR (c:DC) (look:Int→Int→Int→PS→Int×PS) (state pos:Int) (p:PS):Int×PS:=
 match know p.known 0 (c.dec state) pos with
 | some alt=>(alt,p)
 | none=>
  let r:=c.run (c.dec state) pos
  if c.fuel<p.used+(1+r.2.2)then(-1,{p with err:=6})
  else
   let p:={p with used:=p.used+(1+r.2.2)}
   if r.1=1 then(r.2.1.headD 0,{p with known:=say p.known 0 (c.dec state) pos (r.2.1.headD 0)})
   else if r.1=3 then tryR c look (c.st state) (c.dec state) pos r.2.1 p
   else(-1,{p with known:=say p.known 0 (c.dec state) pos (-1)})
abbrev Rec:=Int→Int→Int→Bool→PS→List Tr×Int×PS
def edgeR (c:DC) (rec:Rec) (look:Int→Int→Int→PS→Int×PS) (e:Ed) (pos:Int) (real:Bool) (out:List Tr) (p:PS):Option (List Tr×Int)×PS:=
 if e.kind=1 then
  if(c.w.length:Int)≤pos∨c.tok pos≠e.what then(none,p)else(some (if real then out++ [leaf pos e.what]else out,pos+1),p)
 else if e.kind=2 then
  if real then
   let q:=rec (at0 c.starts e.what) (at0 c.stops e.what) pos true p
   if q.2.1<0 then(none,q.2.2)else(some (out++ [.node e.what 0 0 false q.1],q.2.1),q.2.2)
  else match know p.known 2 e.what pos with
   | some to=>if to<0 then(none,p)else(some (out,to),p)
   | none=>
    let q:=rec (at0 c.starts e.what) (at0 c.stops e.what) pos false p
    if q.2.2.err≠0 then(none,q.2.2)
    else
     let p:={q.2.2 with known:=say q.2.2.known 2 e.what pos q.2.1}
     if q.2.1<0 then(none,p)else(some (out,q.2.1),p)
 else if e.kind=3 then
  match know p.known 1 e.what pos with
  | some ok=>if ok<0 then(none,p)else(some (out,pos),p)
  | none=>
   let q:=look (at0 c.preds e.what) (at0 c.preds e.what+1) pos p
   if q.2.err≠0 then(none,q.2)
   else
    let ok:=min q.1 0
    let p:={q.2 with known:=say q.2.known 1 e.what pos ok}
    if ok<0 then(none,p)else(some (out,pos),p)
 else(some (out,pos),p)
def wayL (c:DC) (rec:Rec) (look:Int→Int→Int→PS→Int×PS):Nat→Int→Int→Int→Bool→List Tr→PS→List Tr×Int×PS
 | 0,_,_,_,_,_,p=>([],-1,p)
 | n+1,state,over,pos,real,out,p=>
  if state=over then(out,pos,p)
  else
   let s:=c.st state
   let i:=if s.ends.length=0 then(0,p)else pickR c look state pos p
   if i.2.err≠0∨i.1<0∨(s.edges.length:Int)≤i.1 then([],-1,i.2)
   else if c.fuel<i.2.used+1 then([],-1,{i.2 with err:=6})
   else
    let r:=edgeR c rec look (s.ed i.1) pos real out {i.2 with used:=i.2.used+1}
    match r.1 with
    | none=>([],-1,r.2)
    | some o=>wayL c rec look n (s.ed i.1).to over o.2 real o.1 r.2
def walkF (c:DC) (N:Nat):Nat→Rec
 | 0,_,_,_,_,p=>([],-1,{p with err:=7})
 | d+1,state,over,pos,real,p=>
  wayL c (walkF c N d) (fun s o a p=>if d=0 then(-1,{p with err:=7})else let r:=walkF c N d s o a false {p with spec:=p.spec+1};(r.2.1,r.2.2)) N state over pos real [] {p with deep:=max p.deep (c.depth-d:Int)}
structure Wk where
 sort:Nat
 what:Int
 start:Int
 state:Int
 over:Int
 subs:List Tr
 alts:List Int
structure Cf where
 opn:List Wk
 pos:Int
 used:Int
 deep:Int
 spec:Int
 known:List K4
 tree:Tr
 e:Int
 ended:Bool
def Cf.fin (k:Cf) (e:Int):Cf:={k with e:=e,ended:=true}
def Cf.tell (k:Cf) (what which pos to:Int):Cf:={k with known:=say k.known what which pos to}
def beginM (c:DC) (x:Wk) (k:Cf):Cf:=
 if c.depth≤k.opn.length then k.fin 7
 else {k with opn:={x with start:=k.pos} ::k.opn,deep:=max k.deep (k.opn.length+1:Int),spec:=if 1<x.sort then k.spec+1 else k.spec}
def triesM (c:DC) (d:Int) (alts:List Int) (k:Cf):Cf:=
 if alts.length=1 then k.tell 0 d k.pos (alts.headD 0)
 else
  let s:=c.st (at0 c.decs d)
  beginM c ⟨3,d,0,(s.ed (alts.headD 0)).to,at0 s.ends (alts.headD 0),[],alts⟩ k
def failsL (c:DC):List Wk→Cf→Cf
 | [],k=>k
 | x ::rest,k=>
  let k:={k with opn:=rest,pos:=x.start}
  match x.sort with
  | 0=>k.fin 8
  | 1=>failsL c rest (k.tell 2 x.what x.start (-1))
  | 2=>failsL c rest (k.tell 1 x.what x.start (-1))
  | _=>triesM c x.what x.alts.tail k
def failsM (c:DC) (k:Cf):Cf:=failsL c k.opn k
def wellM (k:Cf):Cf:=match k.opn with
 | []=>k
 | x ::rest=>
  let k:={k with opn:=rest}
  match x.sort with
  | 0=>match rest with
   | []=>{k with tree:=.node x.what 0 0 false x.subs}.fin 0
   | up ::r=>{k with opn:={up with subs:=up.subs++ [.node x.what 0 0 false x.subs]} ::r}
  | 1=>k.tell 2 x.what x.start k.pos
  | 2=>{k.tell 1 x.what x.start 0 with pos:=x.start}
  | _=>{k.tell 0 x.what x.start (x.alts.headD 0)with pos:=x.start}
def looking (k:Cf):Bool:=k.opn.any fun x=>x.sort !=0
def callsM (c:DC) (r:Int) (k:Cf):Cf:=
 if looking k then match know k.known 2 r k.pos with
  | some to=>if to= -1 then failsM c k else {k with pos:=to}
  | none=>beginM c ⟨1,r,0,at0 c.starts r,at0 c.stops r,[],[]⟩ k
 else beginM c ⟨0,r,0,at0 c.starts r,at0 c.stops r,[],[]⟩ k
def asksM (c:DC) (q:Int) (k:Cf):Cf:=match know k.known 1 q k.pos with
 | none=>beginM c ⟨2,q,0,at0 c.preds q,at0 c.preds q+1,[],[]⟩ k
 | some alt=>if alt= -1 then failsM c k else k
def setTop (k:Cf) (f:Wk→Wk):Cf:=match k.opn with
 | []=>k
 | x ::rest=>{k with opn:=f x ::rest}
def goesM (c:DC) (e:Ed) (k:Cf):Cf:=
 if c.fuel-k.used<1 then k.fin 6
 else
  let k:={k with used:=k.used+1}
  if e.kind=1∧((c.w.length:Int)≤k.pos∨c.tok k.pos≠e.what)then failsM c k
  else
   let k:=setTop k fun x=>{x with state:=e.to}
   if e.kind=1 then {setTop k (fun x=>if x.sort=0 then {x with subs:=x.subs++ [leaf k.pos e.what]} else x)with pos:=k.pos+1}
   else if e.kind=2 then callsM c e.what k
   else if e.kind=3 then asksM c e.what k
   else k
def decidesM (c:DC) (d:Int) (k:Cf):Option Int×Cf:=match know k.known 0 d k.pos with
 | some alt=>(some alt,k)
 | none=>
  let r:=c.run d k.pos
  if c.fuel-k.used<1+r.2.2 then(none,k.fin 6)
  else
   let k:={k with used:=k.used+(1+r.2.2)}
   if r.1=1 then(none,k.tell 0 d k.pos (r.2.1.headD 0))
   else if r.1=3 then(none,triesM c d r.2.1 k)
   else(none,k.tell 0 d k.pos (-1))
def stepM (c:DC) (k:Cf):Cf:=match k.opn with
 | []=>k
 | x ::_=>
  let s:=c.st x.state
  if x.state=x.over then wellM k
  else if s.ends.length≠0 then
   let r:=decidesM c (c.dec x.state) k
   match r.1 with
   | some alt=>if alt= -1 then failsM c r.2 else goesM c (s.ed alt) r.2
   | none=>r.2
  else if s.edges.length=0 then failsM c k
  else goesM c (s.ed 0) k
inductive Reach (c:DC):Cf→Cf→Prop where
 | refl (k):Reach c k k
 | step {k k'}:k.ended=false→Reach c (stepM c k) k'→Reach c k k'
theorem Reach.trans {c:DC}{k k' k'':Cf}(h:Reach c k k') (g:Reach c k' k''):Reach c k k'':=by
 induction h with
 | refl _=>exact g
 | step he _ ih=>exact .step he (ih g)
theorem Reach.one {c:DC}{k:Cf}(he:k.ended=false):Reach c k (stepM c k):=.step he (.refl _)
end Drv
end Go.Proofs.Ytgflanlniejflaa
namespace Go.Proofs.Ytgflanlniejflaa
namespace Drv
def tryE (W:Int→Int→Int→Option Int) (s:NSt) (pos:Int):List Int→Option Int
 | []=>some (-1)
 | [a]=>some a
 | a ::b ::r=>match W (s.ed a).to (at0 s.ends a) pos with
  | none=>none
  | some t=>if 0≤t then some a else tryE W s pos (b ::r)
def pickE (c:DC) (W:Int→Int→Int→Option Int) (state pos:Int):Option Int:=
 let r:=c.run (c.dec state) pos
 if r.1=1 then some (r.2.1.headD 0)else if r.1=3 then tryE W (c.st state) pos r.2.1 else some (-1)
def edgeE (c:DC) (W:Int→Int→Int→Option Int) (e:Ed) (pos:Int):Option Int:=
 if e.kind=1 then some (if(c.w.length:Int)≤pos∨c.tok pos≠e.what then -1 else pos+1)
 else if e.kind=2 then W (at0 c.starts e.what) (at0 c.stops e.what) pos
 else if e.kind=3 then(W (at0 c.preds e.what) (at0 c.preds e.what+1) pos).map fun t=>if t<0 then -1 else pos
 else some pos
def evS (c:DC) (W:Int→Int→Int→Option Int) (state over pos:Int):Option Int:=
 if state=over then some pos
 else match (if(c.st state).ends.length=0 then some 0 else pickE c W state pos)with
  | none=>none
  | some i=>if i<0∨((c.st state).edges.length:Int)≤i then some (-1)
   else match edgeE c W ((c.st state).ed i) pos with
    | none=>none
    | some q=>if q<0 then some (-1)else W ((c.st state).ed i).to over q
def ev (c:DC):Nat→Int→Int→Int→Option Int
 | 0=>fun _ _ _=>none
 | n+1=>evS c (ev c n)
def Ult {α:Type}(f:Nat→Option α) (r:α):Prop:=∃n,∀m,n≤m→f m=some r
theorem Ult.det {α:Type}{f:Nat→Option α}{r r':α}(h:Ult f r) (g:Ult f r'):r=r':=by
 obtain⟨n,h⟩:=h
 obtain⟨n',g⟩:=g
 have h1:=h (max n n') (Nat.le_max_left _ _)
 have h2:=g (max n n') (Nat.le_max_right _ _)
 rw[h1]at h2
 injection h2
theorem Ult.now {α:Type}{f:Nat→Option α}{r:α}(h:∀m,f m=some r):Ult f r:=⟨0,fun m _=>h m⟩
theorem Ult.map {α β:Type}{f:Nat→Option α}{g:Nat→Option β}{r:α}{s:β}(h:Ult f r) (hg:∀m,f m=some r→g m=some s):Ult g s:=by
 obtain⟨n,h⟩:=h
 exact⟨n,fun m hm=>hg m (h m hm)⟩
theorem Ult.map2 {α β γ:Type}{f:Nat→Option α}{f':Nat→Option γ}{g:Nat→Option β}{r:α}{r':γ}{s:β}(h:Ult f r) (h':Ult f' r') (hg:∀m,f m=some r→f' m=some r'→g m=some s):Ult g s:=by
 obtain⟨n,h⟩:=h
 obtain⟨n',h'⟩:=h'
 exact⟨max n n',fun m hm=>hg m (h m (by omega)) (h' m (by omega))⟩
theorem Ult.succ {α:Type}{f:Nat→Option α}{r:α}(h:Ult (fun m=>f (m+1)) r):Ult f r:=by
 obtain⟨n,h⟩:=h
 exact⟨n+1,fun m hm=>by
  have:=h (m-1) (by omega)
  simp only[Nat.sub_add_cancel (show 1≤m by omega)]at this
  exact this⟩
def Ev (c:DC) (state over pos r:Int):Prop:=Ult (fun n=>ev c n state over pos) r
def EvP (c:DC) (state pos r:Int):Prop:=Ult (fun n=>pickE c (ev c n) state pos) r
def EvT (c:DC) (s:NSt) (pos:Int) (l:List Int) (r:Int):Prop:=Ult (fun n=>tryE (ev c n) s pos l) r
def EvE (c:DC) (e:Ed) (pos r:Int):Prop:=Ult (fun n=>edgeE c (ev c n) e pos) r
theorem Ev.over (c:DC) (s pos:Int):Ev c s s pos pos:=Ult.succ (Ult.now fun m=>by show evS c _ s s pos=_;unfold evS;rw[if_pos rfl])
theorem Ev.mk {c:DC}{state over pos i q r:Int}(hne:state≠over) (hi:if(c.st state).ends.length=0 then i=0 else EvP c state pos i) (hr:0≤i∧i<((c.st state).edges.length:Int)) (he:EvE c ((c.st state).ed i) pos q)
 (hq:0≤q) (hw:Ev c ((c.st state).ed i).to over q r):Ev c state over pos r:=by
 refine Ult.succ ?_
 have hp:Ult (fun n=>if(c.st state).ends.length=0 then some 0 else pickE c (ev c n) state pos) i:=by
  by_cases h0:(c.st state).ends.length=0
  ·rw[if_pos h0]at hi
   subst hi
   exact Ult.now fun m=>by rw[if_pos h0]
  ·rw[if_neg h0]at hi
   exact hi.map fun m hm=>by rw[if_neg h0];exact hm
 refine Ult.map2 hp (Ult.map2 he hw (g:=fun n=>some ((edgeE c (ev c n) ((c.st state).ed i) pos),ev c n ((c.st state).ed i).to over q)) (s:=(some q,some r)) fun m h1 h2=>by simp only[h1,h2]) fun m h1 h2=>?_
 have h3:=Option.some.inj h2
 injection h3 with h3 h4
 show evS c (ev c m) state over pos=some r
 unfold evS
 rw[if_neg hne]
 simp only[h1,h3]
 rw[if_neg (by omega)]
 rw[if_neg (by omega)]
 exact h4
theorem Ev.fail1 {c:DC}{state over pos i:Int}(hne:state≠over) (hi:if(c.st state).ends.length=0 then i=0 else EvP c state pos i) (hr:i<0∨((c.st state).edges.length:Int)≤i):Ev c state over pos (-1):=by
 refine Ult.succ ?_
 have hp:Ult (fun n=>if(c.st state).ends.length=0 then some 0 else pickE c (ev c n) state pos) i:=by
  by_cases h0:(c.st state).ends.length=0
  ·rw[if_pos h0]at hi
   subst hi
   exact Ult.now fun m=>by rw[if_pos h0]
  ·rw[if_neg h0]at hi
   exact hi.map fun m hm=>by rw[if_neg h0];exact hm
 refine hp.map fun m h1=>?_
 show evS c (ev c m) state over pos=some (-1)
 unfold evS
 rw[if_neg hne]
 simp only[h1]
 rw[if_pos hr]
theorem Ev.fail2 {c:DC}{state over pos i q:Int}(hne:state≠over) (hi:if(c.st state).ends.length=0 then i=0 else EvP c state pos i) (hr:0≤i∧i<((c.st state).edges.length:Int)) (he:EvE c ((c.st state).ed i) pos q)
 (hq:q<0):Ev c state over pos (-1):=by
 refine Ult.succ ?_
 have hp:Ult (fun n=>if(c.st state).ends.length=0 then some 0 else pickE c (ev c n) state pos) i:=by
  by_cases h0:(c.st state).ends.length=0
  ·rw[if_pos h0]at hi
   subst hi
   exact Ult.now fun m=>by rw[if_pos h0]
  ·rw[if_neg h0]at hi
   exact hi.map fun m hm=>by rw[if_neg h0];exact hm
 refine Ult.map2 hp he fun m h1 h2=>?_
 show evS c (ev c m) state over pos=some (-1)
 unfold evS
 rw[if_neg hne]
 simp only[h1,h2]
 rw[if_neg (by omega),if_pos hq]
theorem EvT.one (c:DC) (s:NSt) (pos a:Int):EvT c s pos [a] a:=Ult.now fun _=>rfl
theorem EvT.hit {c:DC}{s:NSt}{pos a b t:Int}{r:List Int}(h:Ev c (s.ed a).to (at0 s.ends a) pos t) (ht:0≤t):EvT c s pos (a ::b ::r) a:=
 h.map fun m h1=>by show tryE (ev c m) s pos (a ::b ::r)=some a;unfold tryE;simp only[h1];rw[if_pos ht]
theorem EvT.miss {c:DC}{s:NSt}{pos a b t i:Int}{r:List Int}(h:Ev c (s.ed a).to (at0 s.ends a) pos t) (ht:t<0) (hi:EvT c s pos (b ::r) i):EvT c s pos (a ::b ::r) i:=
 Ult.map2 h hi fun m h1 h2=>by show tryE (ev c m) s pos (a ::b ::r)=some i;unfold tryE;simp only[h1];rw[if_neg (by omega)];exact h2
end Drv
end Go.Proofs.Ytgflanlniejflaa
namespace Go.Proofs.Ytgflanlniejflaa
namespace Drv
structure Val (c:DC):Prop where
 dec:∀i,(c.st i).ends.length≠0→at0 c.decs (c.dec i)=i
 pick:∀i pos,(c.st i).ends.length≠0→(c.run (c.dec i) pos).1=1→0≤(c.run (c.dec i) pos).2.1.headD 0∧(c.run (c.dec i) pos).2.1.headD 0<((c.st i).edges.length:Int)
 tries:∀i pos,(c.st i).ends.length≠0→(c.run (c.dec i) pos).1=3→(c.run (c.dec i) pos).2.1≠[]∧∀a∈(c.run (c.dec i) pos).2.1,0≤a∧a<((c.st i).edges.length:Int)
 seen:∀d pos,0≤(c.run d pos).2.2
def Sound (c:DC) (K:List K4):Prop:=
 (∀state pos i,(c.st state).ends.length≠0→know K 0 (c.dec state) pos=some i→EvP c state pos i∧(i= -1∨(0≤i∧i<((c.st state).edges.length:Int))))∧
 (∀r pos to,know K 2 r pos=some to→Ev c (at0 c.starts r) (at0 c.stops r) pos to∧(to= -1∨pos≤to))∧
 (∀q pos ok,know K 1 q pos=some ok→(ok= -1∨ok=0)∧∃t,Ev c (at0 c.preds q) (at0 c.preds q+1) pos t∧(t<0↔ok<0))
theorem know_append (K:List K4) (x:K4) (a b p:Int):know (K++ [x]) a b p=match know K a b p with
 | some t=>some t
 | none=>if x.1=a∧x.2.1=b∧x.2.2.1=p then some x.2.2.2 else none:=by
 unfold know
 rw[List.find?_append]
 cases h:K.find? fun k=>k.1==a && k.2.1==b && k.2.2.1==p with
 | some y=>rfl
 | none=>
  simp only[Option.none_or,Option.map_none,List.find?_cons,List.find?_nil]
  by_cases e:x.1=a∧x.2.1=b∧x.2.2.1=p
  ·rw[if_pos e]
   obtain⟨e1,e2,e3⟩:=e
   subst e1 e2 e3
   simp
  ·rw[if_neg e]
   have:(x.1==a && x.2.1==b && x.2.2.1==p)=false:=by
    rw[Bool.eq_false_iff]
    intro h
    simp only[Bool.and_eq_true,beq_iff_eq]at h
    exact e ⟨h.1.1,h.1.2,h.2⟩
   rw[this]
   rfl
theorem know_say (K:List K4) (a b p t a' b' p':Int):know (say K a b p t) a' b' p'=match know K a' b' p' with
 | some u=>some u
 | none=>if a=a'∧b=b'∧p=p' then some t else none:=by
 unfold say
 cases h:know K a b p with
 | some u=>
  simp only
  cases h':know K a' b' p' with
  | some v=>rfl
  | none=>
   by_cases e:a=a'∧b=b'∧p=p'
   ·obtain⟨e1,e2,e3⟩:=e
    subst e1 e2 e3
    rw[h]at h'
    cases h'
   ·simp only;rw[if_neg e]
 | none=>
  simp only
  rw[know_append]
theorem know_say_cases {K:List K4}{a b p t a' b' p' u:Int}(h:know (say K a b p t) a' b' p'=some u):know K a' b' p'=some u∨(a=a'∧b=b'∧p=p'∧u=t):=by
 rw[know_say]at h
 cases hq:know K a' b' p' with
 | some v=>rw[hq]at h;exact .inl h
 | none=>
  rw[hq]at h
  by_cases e:a=a'∧b=b'∧p=p'
  ·have h:(if a=a'∧b=b'∧p=p' then some t else none)=some u:=h
   rw[if_pos e]at h
   injection h with h
   exact .inr ⟨e.1,e.2.1,e.2.2,h.symm⟩
  ·have h:(if a=a'∧b=b'∧p=p' then some t else none)=some u:=h
   rw[if_neg e]at h
   cases h
theorem Sound.say0 {c:DC}(hv:Val c){K:List K4}(h:Sound c K){state pos i:Int}(hs:(c.st state).ends.length≠0) (he:EvP c state pos i) (hi:i= -1∨(0≤i∧i<((c.st state).edges.length:Int))):
 Sound c (say K 0 (c.dec state) pos i)∧know (say K 0 (c.dec state) pos i) 0 (c.dec state) pos=some i:=by
 refine⟨⟨fun s p j hs' hk=>?_,fun r p t hk=>?_,fun q p ok hk=>?_⟩,?_⟩
 ·rcases know_say_cases hk with hk | ⟨_,e2,e3,e4⟩
  ·exact h.1 s p j hs' hk
  ·have e2:state=s:=by rw[←hv.dec state hs,←hv.dec s hs',e2]
   subst e2 e3 e4
   exact⟨he,hi⟩
 ·rcases know_say_cases hk with hk | ⟨e,_⟩
  ·exact h.2.1 r p t hk
  ·omega
 ·rcases know_say_cases hk with hk | ⟨e,_⟩
  ·exact h.2.2 q p ok hk
  ·omega
 ·rw[know_say]
  cases hq:know K 0 (c.dec state) pos with
  | some u=>simp only;rw[Ult.det (h.1 state pos u hs hq).1 he]
  | none=>simp
theorem Sound.say2 {c:DC}{K:List K4}(h:Sound c K){r pos to:Int}(he:Ev c (at0 c.starts r) (at0 c.stops r) pos to) (ht:to= -1∨pos≤to):Sound c (say K 2 r pos to):=by
 refine⟨fun s p j hs' hk=>?_,fun r' p t hk=>?_,fun q p ok hk=>?_⟩
 ·rcases know_say_cases hk with hk | ⟨e,_⟩
  ·exact h.1 s p j hs' hk
  ·omega
 ·rcases know_say_cases hk with hk | ⟨_,e2,e3,e4⟩
  ·exact h.2.1 r' p t hk
  ·subst e2 e3 e4;exact⟨he,ht⟩
 ·rcases know_say_cases hk with hk | ⟨e,_⟩
  ·exact h.2.2 q p ok hk
  ·omega
theorem Sound.say1 {c:DC}{K:List K4}(h:Sound c K){q pos t ok:Int}(he:Ev c (at0 c.preds q) (at0 c.preds q+1) pos t) (hok:ok= -1∨ok=0) (ht:t<0↔ok<0):Sound c (say K 1 q pos ok):=by
 refine⟨fun s p j hs' hk=>?_,fun r' p t hk=>?_,fun q' p ok' hk=>?_⟩
 ·rcases know_say_cases hk with hk | ⟨e,_⟩
  ·exact h.1 s p j hs' hk
  ·omega
 ·rcases know_say_cases hk with hk | ⟨e,_⟩
  ·exact h.2.1 r' p t hk
  ·omega
 ·rcases know_say_cases hk with hk | ⟨_,e2,e3,e4⟩
  ·exact h.2.2 q' p ok' hk
  ·subst e2 e3 e4;exact⟨hok,t,he,ht⟩
structure Rel (c:DC) (p:PS) (k:Cf):Prop where
 used:k.used=p.used
 deep:k.deep=p.deep
 spec:k.spec=p.spec
 known:k.known=p.known
 err:p.err=0
 ended:k.ended=false
 nn:0≤p.used
 le:p.used≤c.fuel
 snd:Sound c p.known
 pos0:0≤k.pos
def Ended (p:PS) (e:Int) (k:Cf):Prop:=k.ended=true∧k.e=e∧k.used=p.used∧k.deep=p.deep∧k.spec=p.spec
def Same (x x':Wk):Prop:=x'.sort=x.sort∧x'.what=x.what∧x'.start=x.start∧x'.over=x.over∧x'.alts=x.alts
theorem Same.refl (x:Wk):Same x x:=⟨rfl,rfl,rfl,rfl,rfl⟩
theorem Same.trans {x y z:Wk}(h:Same x y) (g:Same y z):Same x z:=⟨g.1.trans h.1,g.2.1.trans h.2.1,g.2.2.1.trans h.2.2.1,g.2.2.2.1.trans h.2.2.2.1,g.2.2.2.2.trans h.2.2.2.2⟩
def Out (c:DC) (r:List Tr×Int×PS) (real:Bool) (x:Wk) (rest:List Wk) (pos0:Int) (k:Cf):Prop:=
 (r.2.2.err≠0∧r.2.1= -1∧∃k',Reach c k k'∧Ended r.2.2 r.2.2.err k')∨
 (pos0≤r.2.1∧∃k' x',Reach c k k'∧Rel c r.2.2 k'∧k'.pos=r.2.1∧k'.opn=x' ::rest∧Same x x'∧x'.state=x.over∧(real=true→x'.subs=r.1))∨
 (r.2.1= -1∧r.2.2.err=0∧real=true∧∃k',Reach c k k'∧Ended r.2.2 8 k')∨
 (r.2.1= -1∧real=false∧∃k0 x',Rel c r.2.2 k0∧k0.opn=x' ::rest∧Same x x'∧Reach c k (failsM c k0))
theorem Out.pre {c:DC}{r:List Tr×Int×PS}{real:Bool}{x x1:Wk}{rest:List Wk}{pos0 pos1:Int}{k k1:Cf}(hr:Reach c k k1) (hx:Same x x1) (hp:pos0≤pos1) (h:Out c r real x1 rest pos1 k1):Out c r real x rest pos0 k:=by
 rcases h with⟨e,e',k',g,h⟩ | ⟨e,k',x',g,h1,h2,h3,h4,h5,h6⟩ | ⟨e1,e2,e3,k',g,h⟩ | ⟨e1,e2,k0,x',h1,h2,h3,g⟩
 ·exact .inl ⟨e,e',k',hr.trans g,h⟩
 ·exact .inr (.inl ⟨by omega,k',x',hr.trans g,h1,h2,h3,hx.trans h4,by rw[h5,hx.2.2.2.1],h6⟩)
 ·exact .inr (.inr (.inl ⟨e1,e2,e3,k',hr.trans g,h⟩))
 ·exact .inr (.inr (.inr ⟨e1,e2,k0,x',h1,h2,hx.trans h3,hr.trans g⟩))
def p1 (d:Nat) (y:Wk) (p:PS):PS:=if 1<y.sort∧d≠0 then {p with spec:=p.spec+1} else p
def WalkOk (c:DC) (N d:Nat):Prop:=
 ∀(k:Cf) (p:PS) (y:Wk) (real:Bool),Rel c p k→k.opn.length+d=c.depth→(real=true↔y.sort=0)→(real=true→∀x∈k.opn,x.sort=0)→y.subs= []→
  Out c (walkF c N d y.state y.over k.pos real (p1 d y p)) real {y with start:=k.pos} k.opn k.pos (beginM c y k)∧
  ((walkF c N d y.state y.over k.pos real (p1 d y p)).2.2.err=0→Ev c y.state y.over k.pos (walkF c N d y.state y.over k.pos real (p1 d y p)).2.1)
theorem walkOk_zero (c:DC) (N:Nat):WalkOk c N 0:=by
 intro k p y real hr hl _ _ _
 have h1:p1 0 y p=p:=by unfold p1;rw[if_neg (by simp)]
 rw[h1]
 refine⟨.inl ⟨by simp[walkF],rfl,beginM c y k,.refl _,?_⟩,fun h=>by simp[walkF]at h⟩
 unfold beginM
 rw[if_pos (by omega)]
 exact⟨rfl,rfl,hr.used,hr.deep,hr.spec⟩
end Drv
end Go.Proofs.Ytgflanlniejflaa
namespace Go.Proofs.Ytgflanlniejflaa
namespace Drv
def lookF (c:DC) (N d:Nat):Int→Int→Int→PS→Int×PS:=fun s o a p=>if d=0 then(-1,{p with err:=7})else let r:=walkF c N d s o a false {p with spec:=p.spec+1};(r.2.1,r.2.2)
theorem lookF_eq (c:DC) (N d:Nat) (y:Wk) (a:Int) (p:PS) (hy:1<y.sort):lookF c N d y.state y.over a p=((walkF c N d y.state y.over a false (p1 d y p)).2.1,(walkF c N d y.state y.over a false (p1 d y p)).2.2):=by
 unfold lookF p1
 cases d with
 | zero=>simp[walkF]
 | succ d=>simp[hy]
section
variable {c:DC}{N d:Nat}
theorem Rel.tell {p:PS}{k:Cf}(h:Rel c p k) (a b q t:Int) (hs:Sound c (say p.known a b q t)):Rel c {p with known:=say p.known a b q t} (k.tell a b q t):=
 ⟨h.used,h.deep,h.spec,by show say k.known a b q t=_;rw[h.known],h.err,h.ended,h.nn,h.le,hs,h.pos0⟩
theorem Rel.opn {p:PS}{k:Cf}(h:Rel c p k) (o:List Wk){q:Int}(hq:0≤q):Rel c p {k with opn:=o,pos:=q}:=⟨h.used,h.deep,h.spec,h.known,h.err,h.ended,h.nn,h.le,h.snd,hq⟩
theorem step_well {k:Cf}{x:Wk}{rest:List Wk}(ho:k.opn=x ::rest) (hx:x.state=x.over):stepM c k=wellM k:=by
 unfold stepM
 rw[ho]
 simp only
 rw[if_pos hx]
theorem try_sim (hv:Val c) (H:WalkOk c N d) (state pos:Int) (hs:(c.st state).ends.length≠0) (x:Wk) (rest:List Wk) (hd:rest.length+1+d=c.depth):
 ∀(l:List Int) (k:Cf) (p:PS),Rel c p k→k.opn=x ::rest→k.pos=pos→l≠[]→(∀a∈l,0≤a∧a<((c.st state).edges.length:Int))→(∀i,EvT c (c.st state) pos l i→EvP c state pos i)→
  ((tryR c (lookF c N d) (c.st state) (c.dec state) pos l p).2.err≠0∧∃k',Reach c (triesM c (c.dec state) l k) k'∧Ended (tryR c (lookF c N d) (c.st state) (c.dec state) pos l p).2 (tryR c (lookF c N d) (c.st state) (c.dec state) pos l p).2.err k')∨
  (0≤(tryR c (lookF c N d) (c.st state) (c.dec state) pos l p).1∧(tryR c (lookF c N d) (c.st state) (c.dec state) pos l p).1<((c.st state).edges.length:Int)∧EvP c state pos (tryR c (lookF c N d) (c.st state) (c.dec state) pos l p).1∧
   ∃k',Reach c (triesM c (c.dec state) l k) k'∧Rel c (tryR c (lookF c N d) (c.st state) (c.dec state) pos l p).2 k'∧k'.opn=x ::rest∧k'.pos=pos∧know k'.known 0 (c.dec state) pos=some (tryR c (lookF c N d) (c.st state) (c.dec state) pos l p).1)
 | [],k,p,_,_,_,hne,_,_=>absurd rfl hne
 | [a],k,p,hr,ho,hp,_,hin,hE=>by
  have ha:=hin a (by simp)
  have he:=hE a (EvT.one _ _ _ _)
  have h9:=hr.snd.say0 hv hs he (.inr ha)
  refine .inr ⟨ha.1,ha.2,he,k.tell 0 (c.dec state) k.pos a,?_,?_,ho,hp,?_⟩
  ·unfold triesM
   rw[if_pos (by rfl)]
   exact .refl _
  ·rw[hp]
   exact hr.tell _ _ _ _ h9.1
  ·show know (say k.known 0 (c.dec state) k.pos a) _ _ _=_
   rw[hr.known,hp]
   exact h9.2
 | a ::b ::r,k,p,hr,ho,hp,_,hin,hE=>by
  have ha:=hin a (by simp)
  have hdec:=hv.dec state hs
  have htr:triesM c (c.dec state) (a ::b ::r) k=beginM c ⟨3,c.dec state,0,((c.st state).ed a).to,at0 (c.st state).ends a,[],a ::b ::r⟩ k:=by
   unfold triesM
   rw[if_neg (by simp),hdec]
   rfl
  rw[htr]
  have hw:=H k p ⟨3,c.dec state,0,((c.st state).ed a).to,at0 (c.st state).ends a,[],a ::b ::r⟩ false hr (by rw[ho];exact hd) (by simp) (by simp) rfl
  have hlk:=lookF_eq c N d ⟨3,c.dec state,0,((c.st state).ed a).to,at0 (c.st state).ends a,[],a ::b ::r⟩ pos p (show 1<3 by decide)
  simp only at hw hlk
  rw[hp,ho]at hw
  obtain⟨hw,hev⟩:=hw
  generalize p1 d ⟨3,c.dec state,0,((c.st state).ed a).to,at0 (c.st state).ends a,[],a ::b ::r⟩ p=pp at hw hev hlk
  generalize walkF c N d ((c.st state).ed a).to (at0 (c.st state).ends a) pos false pp=z at hw hev hlk
  obtain⟨tr,to,z⟩:=z
  have htry:tryR c (lookF c N d) (c.st state) (c.dec state) pos (a ::b ::r) p=if z.err≠0 then(-1,z)else if 0≤to then(a,{z with known:=say z.known 0 (c.dec state) pos a})else tryR c (lookF c N d) (c.st state) (c.dec state) pos (b ::r) z:=by
   show(let q:=lookF c N d ((c.st state).ed a).to (at0 (c.st state).ends a) pos p;if q.2.err≠0 then(-1,q.2)else if 0≤q.1 then(a,{q.2 with known:=say q.2.known 0 (c.dec state) pos a})else tryR c (lookF c N d) (c.st state) (c.dec state) pos (b ::r) q.2)=_
   rw[hlk]
  rw[htry]
  rcases hw with⟨e,e',k',g,h⟩ | ⟨e,k',x',g,h1,h2,h3,h4,h5,_⟩ | ⟨_,_,e3,_⟩ | ⟨e1,_,k0,x',h1,h2,h3,g⟩
  ·simp only at e e' h
   rw[if_pos e]
   exact .inl ⟨e,k',g,h⟩
  ·simp only at e h1 h2
   have hpos:=hr.pos0
   rw[hp]at hpos
   have he:=hE a (EvT.hit (hev h1.err) (by simp only;omega))
   have h9:=h1.snd.say0 hv hs he (.inr ha)
   rw[if_neg (by simp[h1.err]),if_pos (by omega)]
   refine .inr ⟨ha.1,ha.2,he,{k'.tell 0 (c.dec state) pos a with opn:=x ::rest,pos:=pos},?_,?_,rfl,rfl,?_⟩
   ·refine g.trans (.step h1.ended ?_)
    rw[step_well h3 (by rw[h5,h4.2.2.2.1]),]
    have hwl:wellM k'= {k'.tell 0 (c.dec state) pos a with opn:=x ::rest,pos:=pos}:=by
     unfold wellM
     rw[h3]
     obtain⟨q1,q2,q3,_,q5⟩:=h4
     simp only at q1 q2 q3 q5⊢
     rw[q1,q2,q3,q5]
     rfl
    rw[hwl]
    exact .refl _
   ·exact(h1.tell _ _ _ _ h9.1).opn _ (by omega)
   ·show know (say k'.known 0 (c.dec state) pos a) _ _ _=_
    rw[h1.known]
    exact h9.2
  ·cases e3
  ·simp only at e1 h1
   have hfl:failsM c k0=triesM c (c.dec state) (b ::r) {k0 with opn:=x ::rest,pos:=pos}:=by
    unfold failsM
    rw[h2]
    unfold failsL
    obtain⟨q1,q2,q3,_,q5⟩:=h3
    simp only at q1 q2 q3 q5⊢
    rw[q1,q2,q3,q5]
    rfl
   rw[hfl]at g
   rw[if_neg (by simp[h1.err]),if_neg (by omega)]
   have hpos:=hr.pos0
   rw[hp]at hpos
   have ih:=try_sim hv H state pos hs x rest hd (b ::r) {k0 with opn:=x ::rest,pos:=pos} z (h1.opn _ hpos) rfl rfl (by simp) (fun a' ha'=>hin a' (List.mem_cons_of_mem _ ha')) (fun i hi=>hE i (EvT.miss (hev h1.err) (by simp only;omega) hi))
   rcases ih with⟨f1,k',f2,f3⟩ | ⟨f1,f2,f3,k',f4,f5⟩
   ·exact .inl ⟨f1,k',g.trans f2,f3⟩
   ·exact .inr ⟨f1,f2,f3,k',g.trans f4,f5⟩
theorem pick_sim (hv:Val c) (H:WalkOk c N d) (state pos:Int) (hs:(c.st state).ends.length≠0) (x:Wk) (rest:List Wk) (hd:rest.length+1+d=c.depth) (hx:x.state=state) (hxo:x.state≠x.over)
 (k:Cf) (p:PS) (hr:Rel c p k) (ho:k.opn=x ::rest) (hp:k.pos=pos):
 ((pickR c (lookF c N d) state pos p).2.err≠0∧∃k',Reach c k k'∧Ended (pickR c (lookF c N d) state pos p).2 (pickR c (lookF c N d) state pos p).2.err k')∨
 (((pickR c (lookF c N d) state pos p).1= -1∨(0≤(pickR c (lookF c N d) state pos p).1∧(pickR c (lookF c N d) state pos p).1<((c.st state).edges.length:Int)))∧EvP c state pos (pickR c (lookF c N d) state pos p).1∧
  ∃k',Reach c k k'∧Rel c (pickR c (lookF c N d) state pos p).2 k'∧k'.opn=x ::rest∧k'.pos=pos∧know k'.known 0 (c.dec state) pos=some (pickR c (lookF c N d) state pos p).1):=by
 subst hp
 unfold pickR
 cases hk:know p.known 0 (c.dec state) k.pos with
 | some alt=>
  have h9:=hr.snd.1 state k.pos alt hs hk
  exact .inr ⟨h9.2,h9.1,k,.refl _,hr,ho,rfl,by rw[hr.known];exact hk⟩
 | none=>
  have hkk:know k.known 0 (c.dec state) k.pos=none:=by rw[hr.known];exact hk
  have h1:(decidesM c (c.dec state) k).1=none:=by
   unfold decidesM
   rw[hkk]
   simp only
   split
   ·rfl
   ·split
    ·rfl
    ·split <;> rfl
  have hd1:stepM c k=(decidesM c (c.dec state) k).2:=by
   unfold stepM
   rw[ho]
   simp only[hx]at hxo⊢
   rw[if_neg hxo,if_pos hs]
   rw[h1]
  unfold decidesM at hd1
  rw[hkk]at hd1
  simp only at hd1
  have hu:=hr.used
  simp only
  by_cases hf:c.fuel<p.used+(1+(c.run (c.dec state) k.pos).2.2)
  ·rw[if_pos hf]
   rw[if_pos (by omega)]at hd1
   refine .inl ⟨by simp,stepM c k,.one hr.ended,?_⟩
   rw[hd1]
   exact⟨rfl,rfl,hr.used,hr.deep,hr.spec⟩
  ·rw[if_neg hf]
   rw[if_neg (by omega)]at hd1
   have hsn:=hv.seen (c.dec state) k.pos
   have hr2:Rel c {p with used:=p.used+(1+(c.run (c.dec state) k.pos).2.2)} {k with used:=k.used+(1+(c.run (c.dec state) k.pos).2.2)}:=⟨by show k.used+_=p.used+_;rw[hu],hr.deep,hr.spec,hr.known,hr.err,hr.ended,by have:=hr.nn;show 0≤p.used+_;omega,by show p.used+_≤_;omega,hr.snd,hr.pos0⟩
   by_cases h1:(c.run (c.dec state) k.pos).1=1
   ·rw[if_pos h1]
    rw[if_pos h1]at hd1
    have ha:=hv.pick state k.pos hs h1
    have he:EvP c state k.pos ((c.run (c.dec state) k.pos).2.1.headD 0):=Ult.now fun m=>by unfold pickE;simp only;rw[if_pos h1]
    have h9:=hr.snd.say0 hv hs he (.inr ha)
    have h8:=hr2.tell 0 (c.dec state) k.pos _ h9.1
    have hd2:stepM c k=({k with used:=k.used+(1+(c.run (c.dec state) k.pos).2.2)}:Cf).tell 0 (c.dec state) k.pos ((c.run (c.dec state) k.pos).2.1.headD 0):=hd1
    refine .inr ⟨.inr ha,he,stepM c k,.one hr.ended,?_,?_,?_,?_⟩
    ·rw[hd2];exact h8
    ·rw[hd2];exact ho
    ·rw[hd2];rfl
    ·rw[hd2,h8.known];exact h9.2
   ·rw[if_neg h1]
    rw[if_neg h1]at hd1
    by_cases h3:(c.run (c.dec state) k.pos).1=3
    ·rw[if_pos h3]
     rw[if_pos h3]at hd1
     have ht:=hv.tries state k.pos hs h3
     have hE:∀i,EvT c (c.st state) k.pos (c.run (c.dec state) k.pos).2.1 i→EvP c state k.pos i:=fun i hi=>hi.map fun m hm=>by unfold pickE;simp only;rw[if_neg h1,if_pos h3];exact hm
     have h9:=try_sim hv H state k.pos hs x rest hd _ {k with used:=k.used+(1+(c.run (c.dec state) k.pos).2.2)} _ hr2 ho rfl ht.1 ht.2 hE
     have hd2:stepM c k=triesM c (c.dec state) (c.run (c.dec state) k.pos).2.1 {k with used:=k.used+(1+(c.run (c.dec state) k.pos).2.2)}:=hd1
     rw[←hd2]at h9
     rcases h9 with⟨f1,k',f2,f3⟩ | ⟨f1,f2,f3,k',f4,f5⟩
     ·exact .inl ⟨f1,k',.step hr.ended f2,f3⟩
     ·exact .inr ⟨.inr ⟨f1,f2⟩,f3,k',.step hr.ended f4,f5⟩
    ·rw[if_neg h3]
     rw[if_neg h3]at hd1
     have he:EvP c state k.pos (-1):=Ult.now fun m=>by unfold pickE;simp only;rw[if_neg h1,if_neg h3]
     have h9:=hr.snd.say0 hv hs he (.inl rfl)
     have h8:=hr2.tell 0 (c.dec state) k.pos _ h9.1
     have hd2:stepM c k=({k with used:=k.used+(1+(c.run (c.dec state) k.pos).2.2)}:Cf).tell 0 (c.dec state) k.pos (-1):=hd1
     refine .inr ⟨.inl rfl,he,stepM c k,.one hr.ended,?_,?_,?_,?_⟩
     ·rw[hd2];exact h8
     ·rw[hd2];exact ho
     ·rw[hd2];rfl
     ·rw[hd2,h8.known];exact h9.2
end
end Drv
end Go.Proofs.Ytgflanlniejflaa
namespace Go.Proofs.Ytgflanlniejflaa
namespace Drv
section
variable {c:DC}{N d:Nat}
def EdgeOut (c:DC) (e:Ed) (pos0:Int) (R:Option (List Tr×Int)×PS) (real:Bool) (x:Wk) (rest:List Wk) (k:Cf):Prop:=
 (R.2.err≠0∧R.1=none∧∃k',Reach c k k'∧Ended R.2 R.2.err k')∨
 (∃o,R.1=some o∧EvE c e pos0 o.2∧pos0≤o.2∧∃k' x',Reach c k k'∧Rel c R.2 k'∧k'.pos=o.2∧k'.opn=x' ::rest∧Same x x'∧x'.state=e.to∧(real=true→x'.subs=o.1))∨
 (R.1=none∧R.2.err=0∧EvE c e pos0 (-1)∧real=true∧∃k',Reach c k k'∧Ended R.2 8 k')∨
 (R.1=none∧EvE c e pos0 (-1)∧real=false∧∃k0 x',Rel c R.2 k0∧k0.opn=x' ::rest∧Same x x'∧Reach c k (failsM c k0))
theorem EdgeOut.fail {e:Ed}{pos0:Int}{p:PS}{real:Bool}{x x':Wk}{rest:List Wk}{k:Cf}(hr:Rel c p k) (ho:k.opn=x' ::rest) (hs:Same x x') (hreal:real=true↔x.sort=0) (he:EvE c e pos0 (-1)){k1:Cf}(hk:Reach c k1 (failsM c k)):
 EdgeOut c e pos0 (none,p) real x rest k1:=by
 cases hb:real with
 | false=>exact .inr (.inr (.inr ⟨rfl,he,rfl,k,x',hr,ho,hs,hk⟩))
 | true=>
  have h0:x'.sort=0:=by rw[hs.1];exact hreal.1 hb
  refine .inr (.inr (.inl ⟨rfl,hr.err,he,rfl,failsM c k,hk,?_⟩))
  unfold failsM
  rw[ho]
  unfold failsL
  simp only[h0]
  exact⟨rfl,rfl,hr.used,hr.deep,hr.spec⟩
theorem failsM_cons {k:Cf}{x:Wk}{rest:List Wk}(ho:k.opn=x ::rest):failsM c k=failsL c (x ::rest) k:=by unfold failsM;rw[ho]
theorem edge_sim (H:WalkOk c N d) (real:Bool) (e:Ed) (x:Wk) (rest:List Wk) (hd:rest.length+1+d=c.depth) (k:Cf) (p:PS) (hr:Rel c p k) (ho:k.opn=x ::rest) (hreal:real=true↔x.sort=0)
 (hrest:real=true→∀y∈rest,y.sort=0) (hf:¬c.fuel<p.used+1) (out:List Tr) (hout:real=true→x.subs=out):
 EdgeOut c e k.pos (edgeR c (walkF c N d) (lookF c N d) e k.pos real out {p with used:=p.used+1}) real x rest (goesM c e k):=by
 have hu:=hr.used
 have hr1:Rel c {p with used:=p.used+1} {k with used:=k.used+1}:=⟨by show k.used+1=p.used+1;rw[hu],hr.deep,hr.spec,hr.known,hr.err,hr.ended,by have:=hr.nn;show 0≤p.used+1;omega,by show p.used+1≤_;omega,hr.snd,hr.pos0⟩
 obtain⟨q,hq⟩:∃q,q=({p with used:=p.used+1}:PS):=⟨_,rfl⟩
 obtain⟨k1,hk1⟩:∃k1,k1=({k with used:=k.used+1}:Cf):=⟨_,rfl⟩
 have hgo:goesM c e k=if e.kind=1∧((c.w.length:Int)≤k1.pos∨c.tok k1.pos≠e.what)then failsM c k1 else
  (let k:=setTop k1 fun x=>{x with state:=e.to}
   if e.kind=1 then {setTop k (fun x=>if x.sort=0 then {x with subs:=x.subs++ [leaf k.pos e.what]} else x)with pos:=k.pos+1}
   else if e.kind=2 then callsM c e.what k
   else if e.kind=3 then asksM c e.what k
   else k):=by
  unfold goesM
  rw[if_neg (by omega),hk1]
 have hpos:k.pos=k1.pos:=by rw[hk1]
 have ho1:k1.opn=x ::rest:=by rw[hk1];exact ho
 rw[←hq,←hk1]at hr1
 rw[hgo,←hq,hpos]
 clear hgo hq hk1 hr hu hf ho
 have hst:setTop k1 (fun x=>{x with state:=e.to})= {k1 with opn:={x with state:=e.to} ::rest}:=by unfold setTop;rw[ho1]
 have hs2:Same x {x with state:=e.to}:=⟨rfl,rfl,rfl,rfl,rfl⟩
 have hr2:Rel c q {k1 with opn:={x with state:=e.to} ::rest}:=⟨hr1.used,hr1.deep,hr1.spec,hr1.known,hr1.err,hr1.ended,hr1.nn,hr1.le,hr1.snd,hr1.pos0⟩
 have hp0:=hr1.pos0
 unfold edgeR
 by_cases h1:e.kind=1
 ·rw[if_pos h1]
  by_cases hm:(c.w.length:Int)≤k1.pos∨c.tok k1.pos≠e.what
  ·rw[if_pos hm,if_pos ⟨h1,hm⟩]
   exact EdgeOut.fail hr1 ho1 (Same.refl x) hreal (Ult.now fun m=>by unfold edgeE;rw[if_pos h1,if_pos hm]) (.refl _)
  ·rw[if_neg hm,if_neg (show¬(e.kind=1∧((c.w.length:Int)≤k1.pos∨c.tok k1.pos≠e.what))from fun h=>hm h.2)]
   simp only[hst]
   rw[if_pos h1]
   have hst2:setTop {k1 with opn:={x with state:=e.to} ::rest} (fun y=>if y.sort=0 then {y with subs:=y.subs++ [leaf k1.pos e.what]} else y)= {k1 with opn:=(if x.sort=0 then {{x with state:=e.to} with subs:=x.subs++ [leaf k1.pos e.what]} else {x with state:=e.to}) ::rest}:=rfl
   rw[hst2]
   refine .inr (.inl ⟨_,rfl,Ult.now fun m=>by unfold edgeE;rw[if_pos h1,if_neg hm],by show k1.pos≤k1.pos+1;omega,_,_,.refl _,⟨hr1.used,hr1.deep,hr1.spec,hr1.known,hr1.err,hr1.ended,hr1.nn,hr1.le,hr1.snd,by show 0≤k1.pos+1;omega⟩,rfl,rfl,?_,?_,?_⟩)
   ·split <;> exact⟨rfl,rfl,rfl,rfl,rfl⟩
   ·split <;> rfl
   ·intro hb
    rw[if_pos (hreal.1 hb),if_pos hb,←hout hb]
 ·rw[if_neg h1,if_neg (show¬(e.kind=1∧((c.w.length:Int)≤k1.pos∨c.tok k1.pos≠e.what))from fun h=>h1 h.1)]
  simp only[hst]
  rw[if_neg h1]
  by_cases h2:e.kind=2
  ·rw[if_pos h2,if_pos h2]
   have hE:∀t,Ev c (at0 c.starts e.what) (at0 c.stops e.what) k1.pos t→EvE c e k1.pos t:=fun t ht=>ht.map fun m hm=>by unfold edgeE;rw[if_neg h1,if_pos h2];exact hm
   cases hb:real with
   | true=>
    have hx0:=hreal.1 hb
    have hlk:looking {k1 with opn:={x with state:=e.to} ::rest}=false:=by
     unfold looking
     rw[List.any_eq_false]
     intro y hy
     rcases List.mem_cons.1 hy with rfl | hy
     ·simp[hx0]
     ·simp[hrest hb y hy]
    unfold callsM
    rw[hlk]
    simp only[Bool.false_eq_true,if_false,if_true]
    have hw:=H {k1 with opn:={x with state:=e.to} ::rest} q ⟨0,e.what,0,at0 c.starts e.what,at0 c.stops e.what,[],[]⟩ true hr2 (by show rest.length+1+d=c.depth;exact hd) (by simp) (fun _ y hy=>by
     rcases List.mem_cons.1 hy with rfl | hy
     ·exact hx0
     ·exact hrest hb y hy) rfl
    have hp1:p1 d ⟨0,e.what,0,at0 c.starts e.what,at0 c.stops e.what,[],[]⟩ q=q:=by unfold p1;rw[if_neg (by simp)]
    rw[hp1]at hw
    simp only at hw
    obtain⟨hw,hev⟩:=hw
    generalize walkF c N d (at0 c.starts e.what) (at0 c.stops e.what) k1.pos true q=z at hw hev
    obtain⟨tr,to,z⟩:=z
    rcases hw with⟨a1,a2,k',g,h⟩ | ⟨a1,k',x',g,b1,b2,b3,b4,b5,b6⟩ | ⟨a1,a2,_,k',g,h⟩ | ⟨_,a2,_⟩
    ·simp only at a1 a2 h⊢
     rw[a2,if_pos (by decide)]
     exact .inl ⟨a1,rfl,k',g,h⟩
    ·simp only at a1 b1 b2 b6⊢
     rw[if_neg (by omega)]
     have hwl:wellM k'= {k' with opn:={{x with state:=e.to} with subs:=x.subs++ [.node e.what 0 0 false tr]} ::rest}:=by
      unfold wellM
      rw[b3]
      obtain⟨q1,q2,q3,_,q5⟩:=b4
      simp only at q1 q2
      simp only[q1,q2,b6 trivial]
     refine .inr (.inl ⟨_,rfl,hE _ (hev b1.err),a1,{k' with opn:={{x with state:=e.to} with subs:=x.subs++ [.node e.what 0 0 false tr]} ::rest},_,g.trans (.step b1.ended ?_),⟨b1.used,b1.deep,b1.spec,b1.known,b1.err,b1.ended,b1.nn,b1.le,b1.snd,b1.pos0⟩,b2,rfl,⟨rfl,rfl,rfl,rfl,rfl⟩,rfl,fun _=>?_⟩)
     ·rw[step_well b3 (by rw[b5,b4.2.2.2.1]),hwl]
      exact .refl _
     ·rw[←hout hb]
    ·simp only at a1 a2 h⊢
     rw[a1,if_pos (by decide)]
     exact .inr (.inr (.inl ⟨rfl,a2,hE _ (by have:=hev a2;rw[a1]at this;exact this),rfl,k',g,h⟩))
    ·cases a2
   | false=>
    have hx0:x.sort≠0:=fun h=>by rw[hreal.2 h]at hb;cases hb
    have hlk:looking {k1 with opn:={x with state:=e.to} ::rest}=true:=by
     unfold looking
     rw[List.any_eq_true]
     exact⟨_,List.mem_cons_self ..,by simp[hx0]⟩
    unfold callsM
    rw[hlk]
    simp only[if_true,Bool.false_eq_true,if_false]
    have hkk:k1.known=q.known:=hr1.known
    cases hk:know q.known 2 e.what k1.pos with
    | some to=>
     have hk':know k1.known 2 e.what k1.pos=some to:=by rw[hkk];exact hk
     simp only[hk']
     obtain⟨hs1,hs2'⟩:=hr1.snd.2.1 e.what k1.pos to hk
     by_cases ht:to<0
     ·have ht1:to= -1:=by omega
      subst ht1
      rw[if_pos (by decide),if_pos rfl]
      exact EdgeOut.fail hr2 rfl hs2 (by rw[←hb];exact hreal) (hE _ hs1) (.refl _)
     ·rw[if_neg ht,if_neg (by omega)]
      exact .inr (.inl ⟨_,rfl,hE _ hs1,by show k1.pos≤to;omega,_,_,.refl _,⟨hr1.used,hr1.deep,hr1.spec,hkk,hr1.err,hr1.ended,hr1.nn,hr1.le,hr1.snd,by show 0≤to;omega⟩,rfl,rfl,hs2,rfl,fun h=>by cases h⟩)
    | none=>
     have hk':know k1.known 2 e.what k1.pos=none:=by rw[hkk];exact hk
     simp only[hk']
     have hw:=H {k1 with opn:={x with state:=e.to} ::rest} q ⟨1,e.what,0,at0 c.starts e.what,at0 c.stops e.what,[],[]⟩ false hr2 (by show rest.length+1+d=c.depth;exact hd) (by simp) (by simp) rfl
     have hp1:p1 d ⟨1,e.what,0,at0 c.starts e.what,at0 c.stops e.what,[],[]⟩ q=q:=by unfold p1;rw[if_neg (by simp)]
     rw[hp1]at hw
     simp only at hw
     obtain⟨hw,hev⟩:=hw
     generalize walkF c N d (at0 c.starts e.what) (at0 c.stops e.what) k1.pos false q=z at hw hev
     obtain⟨tr,to,z⟩:=z
     rcases hw with⟨a1,a2,k',g,h⟩ | ⟨a1,k',x',g,b1,b2,b3,b4,b5,b6⟩ | ⟨_,_,a2,_⟩ | ⟨a1,_,k0,x',b1,b2,b3,g⟩
     ·simp only at a1 a2 h⊢
      rw[if_pos a1]
      exact .inl ⟨a1,rfl,k',g,h⟩
     ·simp only at a1 b1 b2⊢
      rw[if_neg (by simp[b1.err]),if_neg (by omega)]
      have h9:=b1.snd.say2 (hev b1.err) (.inr a1)
      have hwl:wellM k'= {k'.tell 2 e.what k1.pos to with opn:={x with state:=e.to} ::rest}:=by
       unfold wellM
       rw[b3]
       obtain⟨q1,q2,q3,_,q5⟩:=b4
       simp only at q1 q2 q3 q5⊢
       rw[q1,q2,q3]
       simp only[Cf.tell,b2]
      refine .inr (.inl ⟨_,rfl,hE _ (hev b1.err),a1,{k'.tell 2 e.what k1.pos to with opn:={x with state:=e.to} ::rest},_,g.trans (.step b1.ended ?_),?_,b2,rfl,hs2,rfl,fun h=>by cases h⟩)
      ·rw[step_well b3 (by rw[b5,b4.2.2.2.1]),hwl]
       exact .refl _
      ·exact⟨b1.used,b1.deep,b1.spec,by show say k'.known _ _ _ _=_;rw[b1.known],b1.err,b1.ended,b1.nn,b1.le,h9,b1.pos0⟩
     ·cases a2
     ·simp only at a1 b1⊢
      subst a1
      rw[if_neg (by simp[b1.err]),if_pos (by decide)]
      have h9:=b1.snd.say2 (hev b1.err) (.inl rfl)
      have hfl:failsM c k0=failsM c {k0.tell 2 e.what k1.pos (-1)with opn:={x with state:=e.to} ::rest,pos:=k1.pos}:=by
       rw[failsM_cons b2]
       unfold failsM
       conv=>lhs;unfold failsL
       obtain⟨q1,q2,q3,_,q5⟩:=b3
       simp only at q1 q2 q3 q5⊢
       rw[q1,q2,q3]
       rfl
      rw[hfl]at g
      exact EdgeOut.fail (c:=c) (k:={k0.tell 2 e.what k1.pos (-1)with opn:={x with state:=e.to} ::rest,pos:=k1.pos}) (p:={z with known:=say z.known 2 e.what k1.pos (-1)}) ⟨b1.used,b1.deep,b1.spec,by show say k0.known _ _ _ _=_;rw[b1.known],b1.err,b1.ended,b1.nn,b1.le,h9,hp0⟩ rfl hs2 (by rw[←hb];exact hreal) (hE _ (hev b1.err)) g
  ·rw[if_neg h2,if_neg h2]
   by_cases h3:e.kind=3
   ·rw[if_pos h3,if_pos h3]
    have hE:∀t,Ev c (at0 c.preds e.what) (at0 c.preds e.what+1) k1.pos t→EvE c e k1.pos (if t<0 then -1 else k1.pos):=fun t ht=>ht.map fun m hm=>by unfold edgeE;rw[if_neg h1,if_neg h2,if_pos h3,hm];rfl
    unfold asksM
    have hkk:k1.known=q.known:=hr1.known
    cases hk:know q.known 1 e.what k1.pos with
    | some ok=>
     have hk':know k1.known 1 e.what k1.pos=some ok:=by rw[hkk];exact hk
     simp only[hk']
     obtain⟨hs1,t,hs3,hs4⟩:=hr1.snd.2.2 e.what k1.pos ok hk
     by_cases ht:ok<0
     ·have ht1:ok= -1:=by omega
      rw[if_pos ht,if_pos ht1]
      have:=hE t hs3
      rw[if_pos (hs4.2 ht)]at this
      exact EdgeOut.fail hr2 rfl hs2 hreal this (.refl _)
     ·rw[if_neg ht,if_neg (by omega)]
      have:=hE t hs3
      rw[if_neg (fun h=>ht (hs4.1 h))]at this
      exact .inr (.inl ⟨_,rfl,this,Int.le_refl _,_,_,.refl _,hr2,rfl,rfl,hs2,rfl,hout⟩)
    | none=>
     have hk':know k1.known 1 e.what k1.pos=none:=by rw[hkk];exact hk
     simp only[hk']
     have hw:=H {k1 with opn:={x with state:=e.to} ::rest} q ⟨2,e.what,0,at0 c.preds e.what,at0 c.preds e.what+1,[],[]⟩ false hr2 (by show rest.length+1+d=c.depth;exact hd) (by simp) (by simp) rfl
     have hlk:=lookF_eq c N d ⟨2,e.what,0,at0 c.preds e.what,at0 c.preds e.what+1,[],[]⟩ k1.pos q (show 1<2 by decide)
     simp only at hw hlk
     obtain⟨hw,hev⟩:=hw
     rw[hlk]
     generalize p1 d ⟨2,e.what,0,at0 c.preds e.what,at0 c.preds e.what+1,[],[]⟩ q=pp at hw hev
     generalize walkF c N d (at0 c.preds e.what) (at0 c.preds e.what+1) k1.pos false pp=z at hw hev
     obtain⟨tr,to,z⟩:=z
     rcases hw with⟨a1,a2,k',g,h⟩ | ⟨a1,k',x',g,b1,b2,b3,b4,b5,b6⟩ | ⟨_,_,a2,_⟩ | ⟨a1,_,k0,x',b1,b2,b3,g⟩
     ·simp only at a1 a2 h⊢
      rw[if_pos a1]
      exact .inl ⟨a1,rfl,k',g,h⟩
     ·simp only at a1 b1 b2⊢
      have hmin:min to 0=0:=by omega
      rw[if_neg (by simp[b1.err]),hmin,if_neg (by decide)]
      have h9:=b1.snd.say1 (ok:=0) (hev b1.err) (.inr rfl) (by simp only;omega)
      have hwl:wellM k'= {k'.tell 1 e.what k1.pos 0 with opn:={x with state:=e.to} ::rest,pos:=k1.pos}:=by
       unfold wellM
       rw[b3]
       obtain⟨q1,q2,q3,_,q5⟩:=b4
       simp only at q1 q2 q3 q5⊢
       rw[q1,q2,q3]
       rfl
      have:=hE _ (hev b1.err)
      rw[if_neg (by simp only;omega)]at this
      refine .inr (.inl ⟨_,rfl,this,Int.le_refl _,{k'.tell 1 e.what k1.pos 0 with opn:={x with state:=e.to} ::rest,pos:=k1.pos},_,g.trans (.step b1.ended ?_),?_,rfl,rfl,hs2,rfl,hout⟩)
      ·rw[step_well b3 (by rw[b5,b4.2.2.2.1]),hwl]
       exact .refl _
      ·exact⟨b1.used,b1.deep,b1.spec,by show say k'.known _ _ _ _=_;rw[b1.known],b1.err,b1.ended,b1.nn,b1.le,h9,hp0⟩
     ·cases a2
     ·simp only at a1 b1⊢
      subst a1
      have hmin:min (-1:Int) 0= -1:=by decide
      rw[if_neg (by simp[b1.err]),hmin,if_pos (by decide)]
      have h9:=b1.snd.say1 (ok:=-1) (hev b1.err) (.inl rfl) (by simp)
      have hfl:failsM c k0=failsM c {k0.tell 1 e.what k1.pos (-1)with opn:={x with state:=e.to} ::rest,pos:=k1.pos}:=by
       rw[failsM_cons b2]
       unfold failsM
       conv=>lhs;unfold failsL
       obtain⟨q1,q2,q3,_,q5⟩:=b3
       simp only at q1 q2 q3 q5⊢
       rw[q1,q2,q3]
       rfl
      rw[hfl]at g
      have:=hE _ (hev b1.err)
      rw[if_pos (by simp)]at this
      exact EdgeOut.fail (c:=c) (k:={k0.tell 1 e.what k1.pos (-1)with opn:={x with state:=e.to} ::rest,pos:=k1.pos}) (p:={z with known:=say z.known 1 e.what k1.pos (-1)}) ⟨b1.used,b1.deep,b1.spec,by show say k0.known _ _ _ _=_;rw[b1.known],b1.err,b1.ended,b1.nn,b1.le,h9,hp0⟩ rfl hs2 hreal this g
   ·rw[if_neg h3,if_neg h3]
    exact .inr (.inl ⟨_,rfl,Ult.now fun m=>by unfold edgeE;rw[if_neg h1,if_neg h2,if_neg h3],Int.le_refl _,_,_,.refl _,hr2,rfl,rfl,hs2,rfl,hout⟩)
end
end Drv
end Go.Proofs.Ytgflanlniejflaa
namespace Go.Proofs.Ytgflanlniejflaa
namespace Drv
section
variable {c:DC}{N d:Nat}
theorem tryR_mono {look:Int→Int→Int→PS→Int×PS}(hl:∀s o a p,p.used≤(look s o a p).2.used) (s:NSt) (e pos:Int):∀(l:List Int) (p:PS),p.used≤(tryR c look s e pos l p).2.used
 | [],p=>Int.le_refl _
 | [a],p=>Int.le_refl _
 | a ::b ::r,p=>by
  unfold tryR
  simp only
  have h1:=hl (s.ed a).to (at0 s.ends a) pos p
  split
  ·exact h1
  ·split
   ·exact h1
   ·exact Int.le_trans h1 (tryR_mono hl s e pos (b ::r) _)
theorem pickR_mono (hv:Val c){look:Int→Int→Int→PS→Int×PS}(hl:∀s o a p,p.used≤(look s o a p).2.used) (state pos:Int) (p:PS):p.used≤(pickR c look state pos p).2.used:=by
 unfold pickR
 have hs:=hv.seen (c.dec state) pos
 split
 ·exact Int.le_refl _
 ·simp only
  split
  ·exact Int.le_refl _
  ·split
   ·show p.used≤p.used+_;omega
   ·split
    ·have:=tryR_mono (c:=c) hl (c.st state) (c.dec state) pos (c.run (c.dec state) pos).2.1 {p with used:=p.used+(1+(c.run (c.dec state) pos).2.2)}
     have h2:p.used+(1+(c.run (c.dec state) pos).2.2)≤_:=this
     omega
    ·show p.used≤p.used+_;omega
theorem edgeR_mono {rec:Rec}{look:Int→Int→Int→PS→Int×PS}(hr:∀s o a r p,p.used≤(rec s o a r p).2.2.used) (hl:∀s o a p,p.used≤(look s o a p).2.used) (e:Ed) (pos:Int) (real:Bool) (out:List Tr) (p:PS):
 p.used≤(edgeR c rec look e pos real out p).2.used:=by
 unfold edgeR
 have h1:=fun b=>hr (at0 c.starts e.what) (at0 c.stops e.what) pos b p
 have h2:=hl (at0 c.preds e.what) (at0 c.preds e.what+1) pos p
 split
 ·split <;> exact Int.le_refl _
 ·split
  ·split
   ·simp only;split <;> exact h1 true
   ·split
    ·split <;> exact Int.le_refl _
    ·simp only
     split
     ·exact h1 false
     ·split <;> exact h1 false
  ·split
   ·split
    ·split <;> exact Int.le_refl _
    ·simp only
     split
     ·exact h2
     ·split <;> exact h2
   ·exact Int.le_refl _
theorem wayL_mono (hv:Val c){rec:Rec}{look:Int→Int→Int→PS→Int×PS}(hr:∀s o a r p,p.used≤(rec s o a r p).2.2.used) (hl:∀s o a p,p.used≤(look s o a p).2.used):
 ∀(n:Nat) (state over pos:Int) (real:Bool) (out:List Tr) (p:PS),p.used≤(wayL c rec look n state over pos real out p).2.2.used
 | 0,_,_,_,_,_,p=>Int.le_refl _
 | n+1,state,over,pos,real,out,p=>by
  unfold wayL
  split
  ·exact Int.le_refl _
  ·simp only
   have h1:p.used≤(if(c.st state).ends.length=0 then((0:Int),p)else pickR c look state pos p).2.used:=by
    split
    ·exact Int.le_refl _
    ·exact pickR_mono hv hl state pos p
   generalize (if(c.st state).ends.length=0 then((0:Int),p)else pickR c look state pos p)=i at h1
   obtain⟨i,u,dp,sp,kn,er⟩:=i
   have h1:p.used≤u:=h1
   simp only
   split
   ·exact h1
   ·split
    ·exact h1
    ·have h2:=edgeR_mono (c:=c) hr hl ((c.st state).ed i) pos real out ⟨u+1,dp,sp,kn,er⟩
     have h3:u+1≤_:=h2
     split
     ·show p.used≤(edgeR c rec look ((c.st state).ed i) pos real out ⟨u+1,dp,sp,kn,er⟩).2.used
      omega
     ·rename_i o _
      have:=wayL_mono hv hr hl n ((c.st state).ed i).to over o.2 real o.1 (edgeR c rec look ((c.st state).ed i) pos real out ⟨u+1,dp,sp,kn,er⟩).2
      omega
theorem walkF_mono (hv:Val c) (N:Nat):∀(d:Nat) (s o a:Int) (r:Bool) (p:PS),p.used≤(walkF c N d s o a r p).2.2.used
 | 0,_,_,_,_,p=>Int.le_refl _
 | d+1,s,o,a,r,p=>by
  unfold walkF
  refine Int.le_trans ?_ (wayL_mono hv (walkF_mono hv N d) (fun s o a p=>?_) N s o a r [] {p with deep:=max p.deep (c.depth-d:Int)})
  ·exact Int.le_refl _
  ·split
   ·exact Int.le_refl _
   ·exact walkF_mono hv N d s o a false {p with spec:=p.spec+1}
theorem lookF_mono (hv:Val c) (N d:Nat) (s o a:Int) (p:PS):p.used≤(lookF c N d s o a p).2.used:=by
 unfold lookF
 split
 ·exact Int.le_refl _
 ·exact walkF_mono hv N d s o a false {p with spec:=p.spec+1}
theorem walkF_succ (s o a:Int) (r:Bool) (p:PS):walkF c N (d+1) s o a r p=wayL c (walkF c N d) (lookF c N d) N s o a r [] {p with deep:=max p.deep (c.depth-d:Int)}:=rfl
theorem Out.fail {p:PS}{real:Bool}{x x':Wk}{rest:List Wk}{pos0:Int}{k k1:Cf}{t:List Tr}(hr:Rel c p k) (ho:k.opn=x' ::rest) (hs:Same x x') (hreal:real=true↔x.sort=0) (hk:Reach c k1 (failsM c k)):
 Out c (t,-1,p) real x rest pos0 k1:=by
 cases hb:real with
 | false=>exact .inr (.inr (.inr ⟨rfl,rfl,k,x',hr,ho,hs,hk⟩))
 | true=>
  have h0:x'.sort=0:=by rw[hs.1];exact hreal.1 hb
  refine .inr (.inr (.inl ⟨rfl,hr.err,rfl,failsM c k,hk,?_⟩))
  unfold failsM
  rw[ho]
  unfold failsL
  simp only[h0]
  exact⟨rfl,rfl,hr.used,hr.deep,hr.spec⟩
def goR (c:DC) (rec:Rec) (look:Int→Int→Int→PS→Int×PS) (n:Nat) (state over pos:Int) (real:Bool) (out:List Tr) (i:Int) (p:PS):List Tr×Int×PS:=
 if c.fuel<p.used+1 then([],-1,{p with err:=6})
 else
  let r:=edgeR c rec look ((c.st state).ed i) pos real out {p with used:=p.used+1}
  match r.1 with
  | none=>([],-1,r.2)
  | some o=>wayL c rec look n ((c.st state).ed i).to over o.2 real o.1 r.2
theorem go_sim (hv:Val c) (H:WalkOk c N d) (n:Nat)
 (ih:∀(k:Cf) (p:PS) (x:Wk) (rest:List Wk) (real:Bool) (out:List Tr),Rel c p k→k.opn=x ::rest→rest.length+1+d=c.depth→c.fuel-p.used<n→(real=true↔x.sort=0)→(real=true→∀y∈rest,y.sort=0)→(real=true→x.subs=out)→
  Out c (wayL c (walkF c N d) (lookF c N d) n x.state x.over k.pos real out p) real x rest k.pos k∧((wayL c (walkF c N d) (lookF c N d) n x.state x.over k.pos real out p).2.2.err=0→Ev c x.state x.over k.pos (wayL c (walkF c N d) (lookF c N d) n x.state x.over k.pos real out p).2.1))
 (k:Cf) (p:PS) (x:Wk) (rest:List Wk) (real:Bool) (out:List Tr) (hr:Rel c p k) (ho:k.opn=x ::rest) (hd:rest.length+1+d=c.depth) (hf:c.fuel-p.used<n+1) (hreal:real=true↔x.sort=0) (hrest:real=true→∀y∈rest,y.sort=0) (hout:real=true→x.subs=out)
 (i:Int) (hne:x.state≠x.over) (hi:if(c.st x.state).ends.length=0 then i=0 else EvP c x.state k.pos i) (hin:0≤i∧i<((c.st x.state).edges.length:Int)) (hst:stepM c k=goesM c ((c.st x.state).ed i) k):
 Out c (goR c (walkF c N d) (lookF c N d) n x.state x.over k.pos real out i p) real x rest k.pos k∧((goR c (walkF c N d) (lookF c N d) n x.state x.over k.pos real out i p).2.2.err=0→Ev c x.state x.over k.pos (goR c (walkF c N d) (lookF c N d) n x.state x.over k.pos real out i p).2.1):=by
 unfold goR
 by_cases hfu:c.fuel<p.used+1
 ·rw[if_pos hfu]
  refine⟨.inl ⟨by simp,rfl,stepM c k,.one hr.ended,?_⟩,fun h=>by simp at h⟩
  rw[hst]
  unfold goesM
  rw[if_pos (by rw[hr.used];omega)]
  exact⟨rfl,rfl,hr.used,hr.deep,hr.spec⟩
 ·rw[if_neg hfu]
  simp only
  have he:=edge_sim H real ((c.st x.state).ed i) x rest hd k p hr ho hreal hrest hfu out hout
  have hm:=edgeR_mono (c:=c) (walkF_mono hv N d) (lookF_mono hv N d) ((c.st x.state).ed i) k.pos real out {p with used:=p.used+1}
  have hm:p.used+1≤_:=hm
  rw[←hst]at he
  generalize edgeR c (walkF c N d) (lookF c N d) ((c.st x.state).ed i) k.pos real out {p with used:=p.used+1}=R at he hm
  obtain⟨o,z⟩:=R
  rcases he with⟨a1,a2,k',g,h⟩ | ⟨o',a1,a2,a3,k',x',g,b1,b2,b3,b4,b5,b6⟩ | ⟨a1,a2,a3,a4,k',g,h⟩ | ⟨a1,a2,a3,k0,x',b1,b2,b3,g⟩
  ·simp only at a1 a2 h⊢
   subst a2
   exact⟨.inl ⟨a1,rfl,k',.step hr.ended g,h⟩,fun h=>absurd h a1⟩
  ·simp only at a1 b1 hm⊢
   subst a1
   simp only
   have h9:=ih k' z x' rest real o'.1 b1 b3 hd (by omega) (by rw[b4.1];exact hreal) hrest b6
   rw[b5,b4.2.2.2.1,b2]at h9
   exact⟨Out.pre (.step hr.ended g) b4 a3 h9.1,fun h=>Ev.mk hne hi hin a2 (by have:=hr.pos0;omega) (h9.2 h)⟩
  ·simp only at a1 a2 h⊢
   subst a1
   exact⟨.inr (.inr (.inl ⟨rfl,a2,a4,k',.step hr.ended g,h⟩)),fun _=>Ev.fail2 hne hi hin a3 (by decide)⟩
  ·simp only at a1 b1⊢
   subst a1
   exact⟨.inr (.inr (.inr ⟨rfl,a3,k0,x',b1,b2,b3,.step hr.ended g⟩)),fun _=>Ev.fail2 hne hi hin a2 (by decide)⟩
theorem way_sim (hv:Val c) (H:WalkOk c N d):∀(n:Nat) (k:Cf) (p:PS) (x:Wk) (rest:List Wk) (real:Bool) (out:List Tr),Rel c p k→k.opn=x ::rest→rest.length+1+d=c.depth→c.fuel-p.used<n→(real=true↔x.sort=0)→(real=true→∀y∈rest,y.sort=0)→(real=true→x.subs=out)→
 Out c (wayL c (walkF c N d) (lookF c N d) n x.state x.over k.pos real out p) real x rest k.pos k∧((wayL c (walkF c N d) (lookF c N d) n x.state x.over k.pos real out p).2.2.err=0→Ev c x.state x.over k.pos (wayL c (walkF c N d) (lookF c N d) n x.state x.over k.pos real out p).2.1)
 | 0,k,p,x,rest,real,out,hr,_,_,hf,_,_,_=>by have:=hr.le;omega
 | n+1,k,p,x,rest,real,out,hr,ho,hd,hf,hreal,hrest,hout=>by
  have hw:wayL c (walkF c N d) (lookF c N d) (n+1) x.state x.over k.pos real out p=if x.state=x.over then(out,k.pos,p)else
   (let i:=if(c.st x.state).ends.length=0 then((0:Int),p)else pickR c (lookF c N d) x.state k.pos p
    if i.2.err≠0∨i.1<0∨((c.st x.state).edges.length:Int)≤i.1 then([],-1,i.2)else goR c (walkF c N d) (lookF c N d) n x.state x.over k.pos real out i.1 i.2):=by
   conv=>lhs;unfold wayL
   rfl
  rw[hw]
  clear hw
  by_cases hso:x.state=x.over
  ·rw[if_pos hso]
   refine⟨.inr (.inl ⟨Int.le_refl _,k,x,.refl _,hr,rfl,ho,Same.refl _,hso,hout⟩),fun _=>?_⟩
   rw[hso]
   exact Ev.over _ _ _
  ·rw[if_neg hso]
   simp only
   by_cases hs:(c.st x.state).ends.length=0
   ·rw[if_pos hs]
    simp only
    by_cases he:(c.st x.state).edges.length=0
    ·rw[if_pos (.inr (.inr (by omega)))]
     have hst:stepM c k=failsM c k:=by
      unfold stepM
      rw[ho]
      simp only
      rw[if_neg hso,if_neg (by simp[hs]),if_pos he]
     refine⟨Out.fail hr ho (Same.refl _) hreal (by rw[←hst];exact .one hr.ended),fun _=>Ev.fail1 (i:=0) hso (by rw[if_pos hs]) (.inr (by omega))⟩
    ·rw[if_neg (by rw[hr.err];omega)]
     refine go_sim hv H n (way_sim hv H n) k p x rest real out hr ho hd (by omega) hreal hrest hout 0 hso (by rw[if_pos hs]) (by omega) ?_
     unfold stepM
     rw[ho]
     simp only
     rw[if_neg hso,if_neg (by simp[hs]),if_neg he]
   ·rw[if_neg hs]
    have hp:=pick_sim hv H x.state k.pos hs x rest hd rfl hso k p hr ho rfl
    have hm:=pickR_mono hv (lookF_mono hv N d) x.state k.pos p
    generalize pickR c (lookF c N d) x.state k.pos p=i at hp hm
    obtain⟨i,z⟩:=i
    rcases hp with⟨a1,k',g,h⟩ | ⟨a1,a2,k',g,b1,b2,b3,b4⟩
    ·simp only at a1 h⊢
     rw[if_pos (.inl a1)]
     exact⟨.inl ⟨a1,rfl,k',g,h⟩,fun h=>absurd h a1⟩
    ·simp only at a1 a2 b1 b4 hm⊢
     have hdec:decidesM c (c.dec x.state) k'=(some i,k'):=by
      unfold decidesM
      rw[b3,b4]
     have hst:stepM c k'=if i= -1 then failsM c k' else goesM c ((c.st x.state).ed i) k':=by
      unfold stepM
      rw[b2]
      simp only
      rw[if_neg hso,if_pos hs,hdec]
     rcases a1 with a1 | a1
     ·rw[if_pos (.inr (.inl (by omega)))]
      rw[if_pos a1]at hst
      refine⟨Out.fail b1 b2 (Same.refl _) hreal (by rw[←hst];exact g.trans (.one b1.ended)),fun _=>Ev.fail1 (i:=i) hso (by rw[if_neg hs];exact a2) (.inl (by omega))⟩
     ·rw[if_neg (by rw[b1.err];omega)]
      rw[if_neg (by omega)]at hst
      have h9:=go_sim hv H n (way_sim hv H n) k' z x rest real out b1 b2 hd (by omega) hreal hrest hout i hso (by rw[if_neg hs,b3];exact a2) a1 hst
      rw[b3]at h9
      exact⟨Out.pre g (Same.refl _) (Int.le_refl _) h9.1,h9.2⟩
theorem walkOk (hv:Val c) (hN:c.fuel<N):∀d,WalkOk c N d
 | 0=>walkOk_zero c N
 | d+1=>by
  intro k p y real hr hl hreal hall hsub
  rw[walkF_succ]
  have hp1:p1 (d+1) y p= {p with spec:=if 1<y.sort then p.spec+1 else p.spec}:=by
   unfold p1
   by_cases h:1<y.sort
   ·rw[if_pos ⟨h,by simp⟩,if_pos h]
   ·rw[if_neg (fun g=>h g.1),if_neg h]
  rw[hp1]
  have hb:beginM c y k= {k with opn:={y with start:=k.pos} ::k.opn,deep:=max k.deep (k.opn.length+1:Int),spec:=if 1<y.sort then k.spec+1 else k.spec}:=by
   unfold beginM
   rw[if_neg (by omega)]
  rw[hb]
  have hr2:Rel c {{p with spec:=if 1<y.sort then p.spec+1 else p.spec} with deep:=max p.deep (c.depth-d:Int)} {k with opn:={y with start:=k.pos} ::k.opn,deep:=max k.deep (k.opn.length+1:Int),spec:=if 1<y.sort then k.spec+1 else k.spec}:=
   ⟨hr.used,by show max k.deep _=max p.deep _;rw[hr.deep];congr 1;omega,by show(if 1<y.sort then k.spec+1 else k.spec)=(if 1<y.sort then p.spec+1 else p.spec);rw[hr.spec],hr.known,hr.err,hr.ended,hr.nn,hr.le,hr.snd,hr.pos0⟩
  exact way_sim hv (walkOk hv hN d) N _ _ {y with start:=k.pos} k.opn real [] hr2 rfl (by omega) (by have:=hr.nn;show c.fuel-p.used<N;omega) hreal (fun h z hz=>hall h z hz) (fun _=>hsub)
end
end Drv
end Go.Proofs.Ytgflanlniejflaa
namespace Go.Proofs.Ytgflanlniejflaa
namespace Drv
def Tr.zero:Tr:=.node 0 0 0 false []
structure Ans where
 tree:Tr
 used:Int
 deep:Int
 spec:Int
 e:Int
def ps0:PS:=⟨0,0,0,[],0⟩
def cf0:Cf:=⟨[],0,0,0,0,[],.zero,0,false⟩
def top0 (c:DC):Wk:=⟨0,0,0,at0 c.starts 0,at0 c.stops 0,[],[]⟩
def parseR (c:DC) (N:Nat):Ans:=
 let r:=walkF c N c.depth (at0 c.starts 0) (at0 c.stops 0) 0 true ps0
 if r.2.2.err≠0 then⟨.zero,r.2.2.used,r.2.2.deep,r.2.2.spec,r.2.2.err⟩
 else if r.2.1≠c.w.length then⟨.zero,r.2.2.used,r.2.2.deep,r.2.2.spec,8⟩
 else⟨.node 0 0 0 false r.1,r.2.2.used,r.2.2.deep,r.2.2.spec,0⟩
def ansM (c:DC) (k:Cf):Ans:=
 if k.e≠0 then⟨.zero,k.used,k.deep,k.spec,k.e⟩
 else if k.pos≠c.w.length then⟨.zero,k.used,k.deep,k.spec,8⟩
 else⟨k.tree,k.used,k.deep,k.spec,0⟩
theorem sound_nil (c:DC):Sound c []:=⟨fun _ _ _ _ h=>(by cases h),fun _ _ _ h=>(by cases h),fun _ _ _ h=>(by cases h)⟩
theorem parse_sim {c:DC}(hv:Val c) (hf:0≤c.fuel){N:Nat}(hN:c.fuel<N):∃k,Reach c (beginM c (top0 c) cf0) k∧k.ended=true∧ansM c k=parseR c N:=by
 have hr:Rel c ps0 cf0:=⟨rfl,rfl,rfl,rfl,rfl,rfl,Int.le_refl _,hf,sound_nil c,Int.le_refl _⟩
 have hw:=(walkOk hv hN c.depth cf0 ps0 (top0 c) true hr (by show 0+c.depth=c.depth;omega) (by simp[top0]) (fun _ x hx=>by cases hx) rfl).1
 have hp:p1 c.depth (top0 c) ps0=ps0:=by unfold p1;rw[if_neg (by simp[top0])]
 rw[hp]at hw
 unfold parseR
 have hz:walkF c N c.depth (top0 c).state (top0 c).over cf0.pos true ps0=walkF c N c.depth (at0 c.starts 0) (at0 c.stops 0) 0 true ps0:=rfl
 rw[hz]at hw
 generalize walkF c N c.depth (at0 c.starts 0) (at0 c.stops 0) 0 true ps0=z at hw
 obtain⟨tr,to,z⟩:=z
 rcases hw with⟨a1,a2,k',g,h⟩ | ⟨a1,k',x',g,b1,b2,b3,b4,b5,b6⟩ | ⟨a1,a2,_,k',g,h⟩ | ⟨_,a2,_⟩
 ·simp only at a1 a2 h⊢
  refine⟨k',g,h.1,?_⟩
  unfold ansM
  rw[if_pos a1,if_pos (by rw[h.2.1];exact a1),h.2.1,h.2.2.1,h.2.2.2.1,h.2.2.2.2]
 ·simp only at a1 b1 b2 b6⊢
  have hwl:wellM k'= {{k' with opn:=[]} with tree:=.node 0 0 0 false tr}.fin 0:=by
   unfold wellM
   rw[b3]
   obtain⟨q1,q2,q3,_,q5⟩:=b4
   have q1:x'.sort=0:=q1
   have q2:x'.what=0:=q2
   have h0:cf0.opn= []:=rfl
   simp only[q1,q2,b6 trivial,h0]
  refine⟨_,g.trans (.step b1.ended (.refl _)),?_,?_⟩
  ·rw[step_well b3 (by rw[b5,b4.2.2.2.1]),hwl];rfl
  ·rw[step_well b3 (by rw[b5,b4.2.2.2.1]),hwl]
   unfold ansM
   rw[if_neg (by simp[Cf.fin]),if_neg (show¬z.err≠0 by simp[b1.err])]
   simp only[Cf.fin,b2,b1.used,b1.deep,b1.spec]
 ·simp only at a1 a2 h⊢
  refine⟨k',g,h.1,?_⟩
  unfold ansM
  rw[if_pos (show k'.e≠0 by rw[h.2.1];decide),if_neg (show¬z.err≠0 by simp[a2]),if_pos (show to≠(c.w.length:Int) by omega),h.2.1,h.2.2.1,h.2.2.2.1,h.2.2.2.2]
 ·cases a2
end Drv
end Go.Proofs.Ytgflanlniejflaa
namespace Go.Proofs.Ytgflanlniejflaa
namespace Drv
structure LSt where
 kind:Int
 alts:List Int
 edges:List (Int×Int)
structure NNet where
 states:List NSt
 starts:List Int
 stops:List Int
 preds:List Int
 decs:List Int
def runL (a:List LSt) (toks:List Int):Nat→Int→Nat→Int×List Int×Int
 | 0,_,pos=>(2,[],pos)
 | n+1,s,pos=>
  if s<0∨(a.length:Int)≤s then(2,[],pos)
  else
   let x:=a.getD s.toNat ⟨0,[],[]⟩
   if x.kind≠0 then(x.kind,x.alts,pos)
   else
    let tok:=if pos<toks.length then toks.getD pos 0 else -1
    match x.edges.find? (fun e=>e.1==tok)with
    | none=>(2,[],pos)
    | some e=>if toks.length<pos∨(pos<toks.length∧tok<0)then(2,[],pos)else runL a toks n e.2 (pos+1)
def runA (a:List LSt) (toks:List Int):Int×List Int×Int:=runL a toks (toks.length+2) 0 0
def risingL (most:Int):Int→List Int→Bool
 | _,[]=>true
 | least,n ::r=>decide (least≤n) && decide (n<most) && risingL most (n+1) r
def kindL (s:LSt):Bool:=
 if s.kind=0 then s.alts.length==0 else if s.kind=1 then s.alts.length==1 && s.edges.length==0
 else if s.kind=3 then decide (1<s.alts.length) && s.edges.length==0 else s.kind==2 && s.alts.length==0 && s.edges.length==0
def fineL (s:LSt) (states alts tokens:Int):Bool:=
 s.edges.all (fun e=>decide (0≤e.2) && decide (e.2<states)) && risingL alts 0 s.alts && risingL tokens (-1) (s.edges.map (·.1)) && kindL s
def mayAuto (a:List LSt) (alts tokens:Int):Bool:=decide (1≤a.length) && decide (a.length≤4096) && a.all fun s=>fineL s a.length alts tokens
def stateB (n:NNet) (i:Int):Bool:=decide (0≤i) && decide (i<n.states.length)
def edgeB (n:NNet) (e:Ed):Bool:=
 decide (0≤e.kind) && decide (e.kind≤3) && decide (0≤e.what) && (e.kind==1 || decide (e.what<(if e.kind=2 then(n.starts.length:Int)else if e.kind=3 then(n.preds.length:Int)else 1))) && stateB n e.to
def stMay (n:NNet) (s:NSt):Bool:=
 s.edges.all (edgeB n) && (s.ends.length==0 || (s.ends.length==s.edges.length && decide (2≤s.ends.length) && s.edges.all (fun e=>e.kind==0) && s.ends.all (stateB n)))
def decsOf (l:List NSt):List Int:=(l.zipIdx.filter fun p=>p.1.ends.length !=0).map fun p=>(p.2:Int)
def mayNet (n:NNet):Bool:=
 n.starts.length==n.stops.length && n.starts.all (stateB n) && n.stops.all (stateB n) && n.preds.all (fun i=>decide (0≤i) && decide (i<(n.states.length:Int)-1)) &&
 n.states.all (fun s=>stMay n s && decide (0≤s.rule) && decide (s.rule<n.starts.length)) && decsOf n.states==n.decs
def decIx (n:NNet) (i:Int):Int:=(n.decs.idxOf i:Int)
def mkDC (n:NNet) (autos:List (List LSt)) (w:List Int) (fuel:Int) (depth:Nat):DC:=
 {states:=n.states,starts:=n.starts,stops:=n.stops,preds:=n.preds,decs:=n.decs,w:=w,fuel:=fuel,depth:=depth,dec:=decIx n,run:=fun d pos=>runA (autos.getD d.toNat []) (w.drop pos.toNat)}
theorem risingL_mem {most:Int}:∀{least:Int}{l:List Int},risingL most least l=true→∀x∈l,least≤x∧x<most
 | _,[],_,_,h=>by cases h
 | least,n ::r,h,x,hx=>by
  unfold risingL at h
  simp only[Bool.and_eq_true,decide_eq_true_eq]at h
  rcases List.mem_cons.1 hx with rfl | hx
  ·exact⟨h.1.1,h.1.2⟩
  ·have:=risingL_mem h.2 x hx
   exact⟨by omega,this.2⟩
theorem runL_kind {a:List LSt}{toks:List Int}:∀(n:Nat) (s:Int) (pos:Nat),(runL a toks n s pos).1=2∨∃x∈a,(runL a toks n s pos).1=x.kind∧(runL a toks n s pos).2.1=x.alts
 | 0,_,_=>.inl rfl
 | n+1,s,pos=>by
  unfold runL
  split
  ·exact .inl rfl
  ·rename_i h
   simp only
   split
   ·refine .inr ⟨a.getD s.toNat ⟨0,[],[]⟩,?_,rfl,rfl⟩
    rw[List.getD_eq_getElem?_getD,List.getElem?_eq_getElem (by omega)]
    exact List.getElem_mem _
   ·generalize (if pos<toks.length then toks.getD pos 0 else -1)=tok
    split
    ·exact .inl rfl
    ·split
     ·exact .inl rfl
     ·exact runL_kind n _ _
theorem runL_pos {a:List LSt}{toks:List Int}:∀(n:Nat) (s:Int) (pos:Nat),0≤(runL a toks n s pos).2.2
 | 0,_,pos=>by unfold runL;exact Int.natCast_nonneg pos
 | n+1,s,pos=>by
  unfold runL
  split
  ·exact Int.natCast_nonneg pos
  ·simp only
   split
   ·exact Int.natCast_nonneg pos
   ·generalize (if pos<toks.length then toks.getD pos 0 else -1)=tok
    split
    ·exact Int.natCast_nonneg pos
    ·split
     ·exact Int.natCast_nonneg pos
     ·exact runL_pos n _ _
theorem decsOf_mem {l:List NSt}{i:Int}:i∈decsOf l↔0≤i∧∃h:i.toNat<l.length,l[i.toNat].ends.length≠0:=by
 unfold decsOf
 simp only[List.mem_map,List.mem_filter,bne_iff_ne]
 constructor
 ·rintro⟨⟨s,j⟩,⟨hm,hne⟩,rfl⟩
  have hm:=List.mem_zipIdx hm
  refine⟨by simp,?_⟩
  obtain⟨h1,h2,h3⟩:=hm
  simp only[Nat.zero_add,Nat.sub_zero]at h2 h3
  refine⟨by simpa using h2,?_⟩
  simp only[Int.toNat_natCast]
  rw[←h3]
  exact hne
 ·rintro⟨h0,h,hne⟩
  refine⟨(l[i.toNat],i.toNat),⟨?_,hne⟩,by simp only;omega⟩
  rw[List.mem_zipIdx_iff_getElem?]
  exact List.getElem?_eq_getElem h
theorem st_ne {c:DC}{i:Int}(h:(c.st i).ends.length≠0):0≤i∧∃hl:i.toNat<c.states.length,c.st i=c.states[i.toNat]:=by
 unfold DC.st at h⊢
 by_cases hi:i<0
 ·rw[if_pos hi]at h
  exact absurd rfl h
 ·rw[if_neg hi]at h⊢
  by_cases hl:i.toNat<c.states.length
  ·exact⟨by omega,hl,by rw[List.getD_eq_getElem?_getD,List.getElem?_eq_getElem hl];rfl⟩
  ·rw[List.getD_eq_getElem?_getD,List.getElem?_eq_none (by omega)]at h
   exact absurd rfl h
def altsOf (n:NNet) (d:Nat):Int:=((n.states.getD (at0 n.decs d).toNat ⟨0,[],[]⟩).ends.length:Int)
theorem val_mk {n:NNet}{autos:List (List LSt)}(hn:mayNet n=true) (hl:autos.length=n.decs.length) (ha:∀d (h:d<autos.length),mayAuto autos[d] (altsOf n d) 64=true) (w:List Int) (fuel:Int) (depth:Nat):
 Val (mkDC n autos w fuel depth):=by
 unfold mayNet at hn
 simp only[Bool.and_eq_true,beq_iff_eq,List.all_eq_true,decide_eq_true_eq]at hn
 obtain⟨⟨⟨⟨⟨_,_⟩,_⟩,_⟩,hst⟩,hdec⟩:=hn
 have hmem:∀i,((mkDC n autos w fuel depth).st i).ends.length≠0→i∈n.decs:=fun i h=>by
  obtain⟨h0,h1,h2⟩:=st_ne h
  rw[h2]at h
  rw[←hdec]
  exact decsOf_mem.2 ⟨h0,h1,h⟩
 have hix:∀i,((mkDC n autos w fuel depth).st i).ends.length≠0→at0 n.decs (decIx n i)=i∧(decIx n i).toNat<autos.length:=fun i h=>by
  have hm:=hmem i h
  have hlt:=List.idxOf_lt_length_iff.2 hm
  refine⟨?_,by unfold decIx;simp only[Int.toNat_natCast];rw[hl];exact hlt⟩
  unfold at0 decIx
  simp only[Int.toNat_natCast]
  rw[List.getD_eq_getElem?_getD,List.getElem?_eq_getElem hlt]
  exact List.getElem_idxOf hlt
 have hed:∀i,((mkDC n autos w fuel depth).st i).ends.length≠0→((mkDC n autos w fuel depth).st i).ends.length=((mkDC n autos w fuel depth).st i).edges.length∧altsOf n (decIx n i).toNat=((mkDC n autos w fuel depth).st i).ends.length:=fun i h=>by
  obtain⟨h0,h1,h2⟩:=st_ne h
  have hx:=hix i h
  refine⟨?_,?_⟩
  ·have h9:=(hst _ (List.getElem_mem h1)).1.1
   rw[h2]at h⊢
   unfold stMay at h9
   simp only[Bool.and_eq_true,Bool.or_eq_true,beq_iff_eq]at h9
   rcases h9.2 with h9 | h9
   ·exact absurd h9 h
   ·exact h9.1.1.1
  ·unfold altsOf
   have e1:(((decIx n i).toNat:Nat):Int)=decIx n i:=by unfold decIx;simp
   rw[e1,hx.1,h2,List.getD_eq_getElem?_getD]
   have h1':i.toNat<n.states.length:=h1
   rw[List.getElem?_eq_getElem h1']
   rfl
 have hrun:∀i pos,((mkDC n autos w fuel depth).st i).ends.length≠0→((mkDC n autos w fuel depth).run (decIx n i) pos).1=2∨∃x:LSt,fineL x (autos[(decIx n i).toNat]?.getD []).length (((mkDC n autos w fuel depth).st i).edges.length:Int) 64=true∧((mkDC n autos w fuel depth).run (decIx n i) pos).1=x.kind∧((mkDC n autos w fuel depth).run (decIx n i) pos).2.1=x.alts:=fun i pos h=>by
  have hx:=hix i h
  have he:=hed i h
  have h9:=ha _ hx.2
  rw[he.2,he.1]at h9
  unfold mayAuto at h9
  simp only[Bool.and_eq_true,List.all_eq_true]at h9
  have e2:autos.getD (decIx n i).toNat []=autos[(decIx n i).toNat]:=by rw[List.getD_eq_getElem?_getD,List.getElem?_eq_getElem hx.2];rfl
  rcases runL_kind (a:=autos.getD (decIx n i).toNat []) (toks:=w.drop pos.toNat) ((w.drop pos.toNat).length+2) 0 0 with h1 | ⟨x,h1,h2,h3⟩
  ·exact .inl h1
  ·refine .inr ⟨x,?_,h2,h3⟩
   rw[e2]at h1
   rw[List.getElem?_eq_getElem hx.2]
   exact h9.2 x h1
 refine⟨fun i h=>(hix i h).1,fun i pos h h1=>?_,fun i pos h h3=>?_,fun d pos=>runL_pos _ _ _⟩
 ·have h1:((mkDC n autos w fuel depth).run (decIx n i) pos).1=1:=h1
  show 0≤((mkDC n autos w fuel depth).run (decIx n i) pos).2.1.headD 0∧((mkDC n autos w fuel depth).run (decIx n i) pos).2.1.headD 0<_
  rcases hrun i pos h with h2 | ⟨x,hf,h4,h5⟩
  ·omega
  ·rw[h5]
   unfold fineL kindL at hf
   rw[if_neg (by omega),if_pos (by omega)]at hf
   simp only[Bool.and_eq_true,beq_iff_eq]at hf
   obtain⟨a,ha⟩:=List.length_eq_one_iff.1 hf.2.1
   have:=risingL_mem hf.1.1.2 a (by rw[ha];simp)
   rw[ha]
   exact this
 ·have h3:((mkDC n autos w fuel depth).run (decIx n i) pos).1=3:=h3
  show((mkDC n autos w fuel depth).run (decIx n i) pos).2.1≠[]∧∀a∈((mkDC n autos w fuel depth).run (decIx n i) pos).2.1,_
  rcases hrun i pos h with h2 | ⟨x,hf,h4,h5⟩
  ·omega
  ·rw[h5]
   unfold fineL kindL at hf
   rw[if_neg (by omega),if_neg (by omega),if_pos (by omega)]at hf
   simp only[Bool.and_eq_true,beq_iff_eq,decide_eq_true_eq]at hf
   refine⟨fun e=>by rw[e]at hf;simp at hf,risingL_mem hf.1.1.2⟩
end Drv
end Go.Proofs.Ytgflanlniejflaa
namespace Go.Proofs.Ytgflanlniejflaa
namespace Drv
inductive InS (n:NNet):Int→Int→Prop where
 | start (r:Int):InS n r (at0 n.starts r)
 | step (r s:Int) (e:Ed):InS n r s→e∈(n.states.getD s.toNat ⟨0,[],[]⟩).edges→e.kind≠1→(e.kind=2→InS n e.what (at0 n.stops e.what))→InS n r e.to
def Emp (n:NNet) (r:Int):Prop:=InS n r (at0 n.stops r)
def Dir (n:NNet) (r q:Int):Prop:=∃s e,InS n r s∧e∈(n.states.getD s.toNat ⟨0,[],[]⟩).edges∧e.kind=2∧e.what=q
inductive Rch (n:NNet):Int→Int→Prop where
 | one {r q:Int}:Dir n r q→Rch n r q
 | more {r q t:Int}:Dir n r q→Rch n q t→Rch n r t
theorem Rch.trans {n:NNet}{r q t:Int}(h:Rch n r q) (g:Rch n q t):Rch n r t:=by
 induction h with
 | one h=>exact .more h g
 | more h _ ih=>exact .more h (ih g)
def most40 (x:Int):Int:=min x 1099511627776
def ownE (rules:Int→Bool) (was:Int→Int):List Ed→Int→Int
 | [],sum=>sum
 | e ::r,sum=>ownE rules was r (if e.kind=2∧rules e.what=true then most40 (sum+was e.what)else sum)
def ownS (r:Int) (rules:Int→Bool) (was:Int→Int):List NSt→Int→Int
 | [],sum=>sum
 | s ::l,sum=>ownS r rules was l (if s.rule=r then ownE rules was s.edges (sum+1)else sum)
def ownN (n:NNet) (rules:Int→Int→Bool):Nat→Int→Int
 | 0,_=>0
 | k+1,r=>ownS r (rules r) (ownN n rules k) n.states 0
theorem ownE_congr {rules:Int→Bool}{was was':Int→Int}(h:∀q,rules q=true→was q=was' q):∀(l:List Ed) (sum:Int),ownE rules was l sum=ownE rules was' l sum
 | [],_=>rfl
 | e ::r,sum=>by
  unfold ownE
  rw[ownE_congr h r]
  congr 1
  by_cases g:e.kind=2∧rules e.what=true
  ·rw[if_pos g,if_pos g,h _ g.2]
  ·rw[if_neg g,if_neg g]
theorem ownS_congr {r:Int}{rules:Int→Bool}{was was':Int→Int}(h:∀q,rules q=true→was q=was' q):∀(l:List NSt) (sum:Int),ownS r rules was l sum=ownS r rules was' l sum
 | [],_=>rfl
 | s ::l,sum=>by
  unfold ownS
  rw[ownS_congr h l,ownE_congr h]
def hgt (R:Nat) (rules:Int→Int→Bool) (r:Int):Nat:=((List.range R).filter fun q:Nat=>rules r q).length
theorem filter_lt {l:List Nat}{p q:Nat→Bool}(h:∀x∈l,p x=true→q x=true){y:Nat}(hy:y∈l) (h1:p y=false) (h2:q y=true):(l.filter p).length<(l.filter q).length:=by
 induction l with
 | nil=>cases hy
 | cons a l ih=>
  have hle:(l.filter p).length≤(l.filter q).length:=by
   clear ih hy
   induction l with
   | nil=>exact Nat.le_refl _
   | cons b l ih2=>
    have ih2:=ih2 (fun x hx=>h x (by rcases List.mem_cons.1 hx with rfl | hx <;> simp[*]))
    by_cases pb:p b=true
    ·rw[List.filter_cons_of_pos pb,List.filter_cons_of_pos (h b (by simp) pb)];simp;exact ih2
    ·rw[List.filter_cons_of_neg pb]
     by_cases qb:q b=true
     ·rw[List.filter_cons_of_pos qb];simp;omega
     ·rw[List.filter_cons_of_neg qb];exact ih2
  rcases List.mem_cons.1 hy with rfl | hy
  ·rw[List.filter_cons_of_neg (by simp[h1]),List.filter_cons_of_pos h2];simp;omega
  ·have ih:=ih (fun x hx=>h x (List.mem_cons_of_mem _ hx)) hy
   by_cases pa:p a=true
   ·rw[List.filter_cons_of_pos pa,List.filter_cons_of_pos (h a (by simp) pa)];simp;exact ih
   ·rw[List.filter_cons_of_neg pa]
    by_cases qa:q a=true
    ·rw[List.filter_cons_of_pos qa];simp;omega
    ·rw[List.filter_cons_of_neg qa];exact ih
theorem hgt_lt {R:Nat}{rules:Int→Int→Bool}(ht:∀a b c,rules a b=true→rules b c=true→rules a c=true) (hi:∀a,rules a a=false){r:Int}{q:Nat}(hq:q<R) (h:rules r q=true):hgt R rules q<hgt R rules r:=
 filter_lt (fun x _ hx=>ht r q x h hx) (List.mem_range.2 hq) (hi q) h
theorem ownN_stable (n:NNet){R:Nat}{rules:Int→Int→Bool}(ht:∀a b c,rules a b=true→rules b c=true→rules a c=true) (hi:∀a,rules a a=false) (hR:∀a b,rules a b=true→∃q:Nat,q<R∧b=q):
 ∀(m:Nat) (r:Int),hgt R rules r<m→∀k,m≤k→ownN n rules k r=ownN n rules m r
 | 0,r,h,_,_=>by omega
 | m+1,r,h,0,hk=>by omega
 | m+1,r,h,k+1,hk=>by
  unfold ownN
  refine ownS_congr (fun q hq=>?_) _ _
  obtain⟨q',hq',rfl⟩:=hR r q hq
  have:=hgt_lt ht hi hq' hq
  exact ownN_stable n ht hi hR m q' (by omega) k (by omega)
end Drv
end Go.Proofs.Ytgflanlniejflaa
