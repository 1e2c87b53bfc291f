/-
  Drivers: what holds of walks that call one another: ranges, sizes, room to tell. Plain law, no program in sight.
-/
import Derived.Test.YtgflanlniejflaaK03
namespace Go.Proofs.Ytgflanlniejflaa
namespace Drv
structure POk (c:DC) (p:PS):Prop where
 used0:0≤p.used
 used1:p.used≤c.fuel
 kn:∀e∈p.known,K1 c e
 few:(p.known.length:Int)≤p.used
 spec0:0≤p.spec
 spec1:p.spec≤64*p.used
 deep0:0≤p.deep
 deep1:p.deep≤c.depth
structure Gro (p q:PS) (a b:Int):Prop where
 used:p.used≤q.used
 room:p.used-p.known.length≤q.used-q.known.length+a
 spec:64*p.used-p.spec≤64*q.used-q.spec+b
theorem Gro.refl (p:PS):Gro p p 0 0:=⟨Int.le_refl _,by omega,by omega⟩
theorem Gro.trans {p q r:PS}{a b a' b':Int}(h:Gro p q a b) (g:Gro q r a' b'):Gro p r (a+a') (b+b'):=
 ⟨Int.le_trans h.used g.used,by have:=h.room;have:=g.room;omega,by have:=h.spec;have:=g.spec;omega⟩
theorem Gro.mono {p q:PS}{a b a' b':Int}(h:Gro p q a b) (ha:a≤a') (hb:b≤b'):Gro p q a' b':=⟨h.used,by have:=h.room;omega,by have:=h.spec;omega⟩
def posOk (c:DC) (pos to:Int):Prop:=to= -1∨(pos≤to∧to≤c.w.length)
def RecOk (c:DC) (rec:Rec):Prop:=∀(st ov pos:Int) (real:Bool) (p:PS),InR c.states.length st→InR c.states.length ov→POk c p→0≤pos→pos≤c.w.length→
 POk c (rec st ov pos real p).2.2∧Gro p (rec st ov pos real p).2.2 0 0∧posOk c pos (rec st ov pos real p).2.1∧((rec st ov pos real p).1.length:Int)≤(rec st ov pos real p).2.2.used-p.used∧(real=false→(rec st ov pos real p).1= [])
def LookOk (c:DC) (look:Int→Int→Int→PS→Int×PS):Prop:=∀(st ov pos:Int) (p:PS),InR c.states.length st→InR c.states.length ov→POk c p→p.spec+1≤64*p.used→0≤pos→pos≤c.w.length→
 POk c (look st ov pos p).2∧Gro p (look st ov pos p).2 0 1∧posOk c pos (look st ov pos p).1
theorem POk.err {c:DC}{p:PS}(h:POk c p) (e:Int):POk c {p with err:=e}:=⟨h.used0,h.used1,h.kn,h.few,h.spec0,h.spec1,h.deep0,h.deep1⟩
theorem POk.say {c:DC}{p:PS}(h:POk c p){a b q t:Int}(hk:K1 c (a,b,q,t)) (hf:(p.known.length:Int)+1≤p.used):POk c {p with known:=say p.known a b q t}:=
 ⟨h.used0,h.used1,fun e he=>by
  rcases say_mem he with h1 | rfl
  ·exact h.kn e h1
  ·exact hk,by have:=say_len p.known a b q t;show((Drv.say p.known a b q t).length:Int)≤p.used;omega,h.spec0,h.spec1,h.deep0,h.deep1⟩
theorem Gro.say (p:PS) (a b q t:Int):Gro p {p with known:=Drv.say p.known a b q t} 1 0:=
 ⟨Int.le_refl _,by have:=say_len p.known a b q t;show p.used-p.known.length≤p.used-((Drv.say p.known a b q t).length:Int)+1;omega,by show 64*p.used-p.spec≤64*p.used-p.spec+0;omega⟩
theorem Gro.err (p:PS) (e:Int):Gro p {p with err:=e} 0 0:=⟨Int.le_refl _,by show p.used-(p.known.length:Int)≤p.used-p.known.length+0;omega,by show 64*p.used-p.spec≤64*p.used-p.spec+0;omega⟩
theorem POk.pay {c:DC}{p:PS}(h:POk c p){n:Int}(hn:0≤n) (hf:¬c.fuel<p.used+n):POk c {p with used:=p.used+n}:=
 ⟨by have:=h.used0;show 0≤p.used+n;omega,by show p.used+n≤c.fuel;omega,h.kn,by have:=h.few;show(p.known.length:Int)≤p.used+n;omega,h.spec0,by have:=h.spec1;show p.spec≤64*(p.used+n);omega,h.deep0,h.deep1⟩
def AltOk (c:DC) (s:NSt) (a:Int):Prop:=InR c.states.length (s.ed a).to∧InR c.states.length (at0 s.ends a)
theorem tryR_ok {c:DC}{look:Int→Int→Int→PS→Int×PS}(hl:LookOk c look){s:NSt}{d pos:Int}(hp0:0≤pos) (hp1:pos≤c.w.length) (hd:InR c.decs.length d):
 ∀(alts:List Int) (p:PS),(∀a∈alts,AltOk c s a∧alt1 c d a)→POk c p→(p.known.length:Int)+1≤p.used→p.spec+alts.length≤64*p.used→
  POk c (tryR c look s d pos alts p).2∧Gro p (tryR c look s d pos alts p).2 1 alts.length
 | [],p,_,h,hf,_=>by
  unfold tryR
  exact⟨h.say ⟨⟨hp0,hp1⟩,.inl ⟨rfl,hd,.inl rfl⟩⟩ hf,Gro.say p 0 d pos (-1)⟩
 | [a],p,ha,h,hf,_=>by
  unfold tryR
  have:=Gro.say p 0 d pos a
  exact⟨h.say ⟨⟨hp0,hp1⟩,.inl ⟨rfl,hd,.inr (ha a (by simp)).2⟩⟩ hf,this.mono (by omega) (by simp)⟩
 | a ::b ::r,p,ha,h,hf,hs=>by
  have hsl:((a ::b ::r).length:Int)=(b ::r).length+1:=by simp
  rw[hsl]at hs⊢
  obtain⟨q1,q2,q3⟩:=hl (s.ed a).to (at0 s.ends a) pos p (ha a (by simp)).1.1 (ha a (by simp)).1.2 h (by omega) hp0 hp1
  unfold tryR
  simp only
  generalize look (s.ed a).to (at0 s.ends a) pos p=q at q1 q2 q3
  have g1:=q2.used
  have g2:=q2.room
  have g3:=q2.spec
  split
  ·exact⟨q1,q2.mono (by omega) (by omega)⟩
  ·split
   ·have h2:=q1.say (a:=0) (b:=d) (q:=pos) (t:=a) ⟨⟨hp0,hp1⟩,.inl ⟨rfl,hd,.inr (ha a (by simp)).2⟩⟩ (by omega)
    have h3:=q2.trans (Gro.say q.2 0 d pos a)
    exact⟨h2,h3.mono (by omega) (by omega)⟩
   ·obtain⟨k1,k2⟩:=tryR_ok hl hp0 hp1 hd (b ::r) q.2 (fun x hx=>ha x (List.mem_cons_of_mem _ hx)) q1 (by omega) (by omega)
    have k3:=q2.trans k2
    exact⟨k1,k3.mono (by omega) (by omega)⟩
theorem ed_in {s:NSt}{i:Int}(h:InR s.edges.length i):s.ed i∈s.edges:=by
 unfold NSt.ed
 have h0:=h.1
 have h1:=h.2
 rw[List.getD_eq_getElem?_getD,List.getElem?_eq_getElem (by omega)]
 exact List.getElem_mem _
theorem at0_in {l:List Int}{i:Int}(h:InR l.length i):at0 l i∈l:=by
 unfold at0
 have h0:=h.1
 have h1:=h.2
 rw[List.getD_eq_getElem?_getD,List.getElem?_eq_getElem (by omega)]
 exact List.getElem_mem _
theorem altOk {c:DC}(hg:Rng c) (hv:Val c){state a:Int}(he:(c.st state).ends.length≠0) (h:InR (c.st state).edges.length a):AltOk c (c.st state) a∧alt1 c (c.dec state) a:=by
 refine⟨⟨(hg.edge state _ (ed_in h)).1,hg.ends state _ (at0_in ?_)⟩,?_⟩
 ·have:=(hg.both state he).1
  unfold InR at h⊢
  omega
 ·unfold alt1
  rw[hv.dec state he]
  exact h
theorem pickR_ok {c:DC}(hg:Rng c) (hv:Val c){look:Int→Int→Int→PS→Int×PS}(hl:LookOk c look){state pos:Int}(he:(c.st state).ends.length≠0) (hp0:0≤pos) (hp1:pos≤c.w.length){p:PS}(h:POk c p):
 POk c (pickR c look state pos p).2∧Gro p (pickR c look state pos p).2 0 0:=by
 unfold pickR
 cases hk:know p.known 0 (c.dec state) pos with
 | some alt=>exact⟨h,Gro.refl p⟩
 | none=>
  have hseen:=hv.seen (c.dec state) pos
  have hpick:=hv.pick state pos he
  have htry:=hv.tries state pos he
  have halts:=hg.alts (c.dec state) pos
  have hd:=hg.dec state he
  simp only
  generalize c.run (c.dec state) pos=r at hseen hpick htry halts
  split
  ·exact⟨h.err 6,Gro.err p 6⟩
  ·rename_i hf
   have h1:=h.pay (n:=1+r.2.2) (by omega) hf
   have hfew:(p.known.length:Int)+1≤p.used+(1+r.2.2):=by have:=h.few;omega
   have hgr:Gro p {p with used:=p.used+(1+r.2.2)} (-1) (-64):=⟨by show p.used≤p.used+_;omega,by show p.used-(p.known.length:Int)≤p.used+(1+r.2.2)-p.known.length+ -1;omega,by show 64*p.used-p.spec≤64*(p.used+(1+r.2.2))-p.spec+ -64;omega⟩
   split
   ·rename_i h2
    have h3:=(altOk hg hv he (hpick h2)).2
    have h4:=hgr.trans (Gro.say _ 0 (c.dec state) pos (r.2.1.headD 0))
    exact⟨h1.say ⟨⟨hp0,hp1⟩,.inl ⟨rfl,hd,.inr h3⟩⟩ hfew,h4.mono (by omega) (by omega)⟩
   ·split
    ·rename_i h2
     obtain⟨k1,k2⟩:=tryR_ok (s:=c.st state) hl hp0 hp1 hd r.2.1 {p with used:=p.used+(1+r.2.2)} (fun a ha=>altOk hg hv he ((htry h2).2 a ha)) h1 hfew (by have:=h.spec1;show p.spec+_≤64*(p.used+(1+r.2.2));omega)
     have k3:=hgr.trans k2
     exact⟨k1,k3.mono (by omega) (by omega)⟩
    ·have h4:=hgr.trans (Gro.say _ 0 (c.dec state) pos (-1))
     exact⟨h1.say ⟨⟨hp0,hp1⟩,.inl ⟨rfl,hd,.inl rfl⟩⟩ hfew,h4.mono (by omega) (by omega)⟩
def EdgeOk (c:DC) (pos:Int) (real:Bool) (out:List Tr) (p:PS) (r:Option (List Tr×Int)×PS):Prop:=
 POk c r.2∧Gro p r.2 1 1∧∀o,r.1=some o→pos≤o.2∧o.2≤c.w.length∧(o.1.length:Int)≤out.length+1∧(real=false→o.1=out)
theorem edgeR_ok {c:DC}(hg:Rng c){rec:Rec}{look:Int→Int→Int→PS→Int×PS}(hr:RecOk c rec) (hl:LookOk c look){e:Ed}(he:(e.kind=2→InR c.starts.length e.what)∧(e.kind=3→InR c.preds.length e.what)){pos:Int}(hp0:0≤pos) (hp1:pos≤c.w.length)
 {real:Bool}{out:List Tr}{p:PS}(h:POk c p) (hf:(p.known.length:Int)+1≤p.used) (hs:p.spec+1≤64*p.used):EdgeOk c pos real out p (edgeR c rec look e pos real out p):=by
 have g0:Gro p p 1 1:=⟨Int.le_refl _,by omega,by omega⟩
 have sNo:∀{q:PS},POk c q→Gro p q 1 1→EdgeOk c pos real out p (none,q):=fun hq hgq=>⟨hq,hgq,fun o ho=>by cases ho⟩
 unfold edgeR
 split
 ·split
  ·exact sNo h g0
  ·rename_i h1
   refine⟨h,g0,fun o ho=>?_⟩
   injection ho with ho
   subst ho
   refine⟨by show pos≤pos+1;omega,by show pos+1≤_;omega,?_,fun hrf=>by rw[hrf];rfl⟩
   show(((if real=true then out++ [leaf pos e.what]else out).length:Nat):Int)≤_
   split
   ·simp
   ·omega
 ·split
  ·rename_i h2
   have hw:=he.1 h2
   have hs2:=hg.starts _ hw
   cases real with
   | true=>
    obtain⟨q1,q2,q3,_,_⟩:=hr (at0 c.starts e.what) (at0 c.stops e.what) pos true p hs2.1 hs2.2 h hp0 hp1
    simp only[if_true]
    generalize rec (at0 c.starts e.what) (at0 c.stops e.what) pos true p=q at q1 q2 q3
    have q2':Gro p q.2.2 1 1:=⟨q2.used,by have:=q2.room;omega,by have:=q2.spec;omega⟩
    split
    ·exact sNo q1 q2'
    ·rename_i h3
     refine⟨q1,q2',fun o ho=>?_⟩
     injection ho with ho
     subst ho
     rcases q3 with q3 | q3
     ·omega
     ·exact⟨q3.1,q3.2,by simp,fun hrf=>by cases hrf⟩
   | false=>
    simp only[Bool.false_eq_true,if_false]
    split
    ·rename_i to hk
     split
     ·exact sNo h g0
     ·rename_i hto
      refine⟨h,g0,fun o ho=>?_⟩
      injection ho with ho
      subst ho
      have hk1:=h.kn _ (know_mem hk)
      obtain⟨_,h5⟩:=hk1
      simp only at h5
      refine⟨by omega,by omega,by show(out.length:Int)≤_;omega,fun _=>rfl⟩
    ·obtain⟨q1,q2,q3,_,_⟩:=hr (at0 c.starts e.what) (at0 c.stops e.what) pos false p hs2.1 hs2.2 h hp0 hp1
     generalize rec (at0 c.starts e.what) (at0 c.stops e.what) pos false p=q at q1 q2 q3
     have g1:=q2.used
     have g2:=q2.room
     have g3:=q2.spec
     have q2':Gro p q.2.2 1 1:=⟨g1,by omega,by omega⟩
     split
     ·exact sNo q1 q2'
     ·have k1:K1 c (2,e.what,pos,q.2.1):=⟨⟨hp0,hp1⟩,.inr (.inr ⟨rfl,hw,q3⟩)⟩
      have q5:=q1.say k1 (by omega)
      have q6:=q2.trans (Gro.say q.2.2 2 e.what pos q.2.1)
      have q7:Gro p {q.2.2 with known:=Drv.say q.2.2.known 2 e.what pos q.2.1} 1 1:=q6.mono (by omega) (by omega)
      split
      ·exact sNo q5 q7
      ·rename_i hto
       refine⟨q5,q7,fun o ho=>?_⟩
       injection ho with ho
       subst ho
       rcases q3 with q3 | q3
       ·omega
       ·exact⟨q3.1,q3.2,by show(out.length:Int)≤_;omega,fun _=>rfl⟩
  ·split
   ·rename_i h3
    have hw:=he.2 h3
    have hs2:=hg.preds _ hw
    split
    ·split
     ·exact sNo h g0
     ·refine⟨h,g0,fun o ho=>?_⟩
      injection ho with ho
      subst ho
      exact⟨Int.le_refl _,hp1,by show(out.length:Int)≤_;omega,fun _=>rfl⟩
    ·obtain⟨q1,q2,q3⟩:=hl (at0 c.preds e.what) (at0 c.preds e.what+1) pos p hs2.1 hs2.2 h hs hp0 hp1
     generalize look (at0 c.preds e.what) (at0 c.preds e.what+1) pos p=q at q1 q2 q3
     dsimp only
     have g1:=q2.used
     have g2:=q2.room
     have g3:=q2.spec
     have q2':Gro p q.2 1 1:=⟨g1,by omega,by omega⟩
     split
     ·exact sNo q1 q2'
     ·have hok:min q.1 0= -1∨min q.1 0=0:=by
       rcases q3 with q3 | q3 <;> omega
      have k1:K1 c (1,e.what,pos,min q.1 0):=⟨⟨hp0,hp1⟩,.inr (.inl ⟨rfl,hw,hok⟩)⟩
      have q5:=q1.say k1 (by omega)
      have q6:=q2.trans (Gro.say q.2 1 e.what pos (min q.1 0))
      have q7:Gro p {q.2 with known:=Drv.say q.2.known 1 e.what pos (min q.1 0)} 1 1:=q6.mono (by omega) (by omega)
      split
      ·exact sNo q5 q7
      ·refine⟨q5,q7,fun o ho=>?_⟩
       injection ho with ho
       subst ho
       exact⟨Int.le_refl _,hp1,by show(out.length:Int)≤_;omega,fun _=>rfl⟩
   ·refine⟨h,g0,fun o ho=>?_⟩
    injection ho with ho
    subst ho
    exact⟨Int.le_refl _,hp1,by show(out.length:Int)≤_;omega,fun _=>rfl⟩
theorem wayL_ok {c:DC}(hg:Rng c) (hv:Val c){rec:Rec}{look:Int→Int→Int→PS→Int×PS}(hr:RecOk c rec) (hl:LookOk c look){over:Int}{real:Bool}:
 ∀(n:Nat) (state pos:Int) (out:List Tr) (p:PS),POk c p→0≤pos→pos≤c.w.length→(real=false→out= [])→
  POk c (wayL c rec look n state over pos real out p).2.2∧Gro p (wayL c rec look n state over pos real out p).2.2 0 0∧posOk c pos (wayL c rec look n state over pos real out p).2.1∧
  ((wayL c rec look n state over pos real out p).1.length:Int)≤out.length+((wayL c rec look n state over pos real out p).2.2.used-p.used)∧(real=false→(wayL c rec look n state over pos real out p).1= [])
 | 0,_,_,out,p,h,_,_,_=>by
  unfold wayL
  exact⟨h,Gro.refl p,.inl rfl,by simp,fun _=>rfl⟩
 | n+1,state,pos,out,p,h,hp0,hp1,ho=>by
  unfold wayL
  split
  ·exact⟨h,Gro.refl p,.inr ⟨Int.le_refl _,hp1⟩,by show(out.length:Int)≤out.length+(p.used-p.used);omega,ho⟩
  ·simp only
   have hi:POk c (if(c.st state).ends.length=0 then(0,p)else pickR c look state pos p).2∧Gro p (if(c.st state).ends.length=0 then(0,p)else pickR c look state pos p).2 0 0:=by
    split
    ·exact⟨h,Gro.refl p⟩
    ·rename_i he
     exact pickR_ok hg hv hl he hp0 hp1 h
   generalize (if(c.st state).ends.length=0 then((0:Int),p)else pickR c look state pos p)=i at hi
   obtain⟨i1,i2⟩:=hi
   have g1:=i2.used
   have g2:=i2.room
   have g3:=i2.spec
   split
   ·exact⟨i1,i2,.inl rfl,by simp;omega,fun _=>rfl⟩
   ·rename_i hin
    split
    ·exact⟨i1.err 6,⟨g1,by show _≤i.2.used-(i.2.known.length:Int)+0;omega,by show _≤64*i.2.used-i.2.spec+0;omega⟩,.inl rfl,by show((0:Nat):Int)≤out.length+(i.2.used-p.used);omega,fun _=>rfl⟩
    ·rename_i hf
     have hmem:(c.st state).ed i.1∈(c.st state).edges:=ed_in ⟨by omega,by omega⟩
     have hed:=hg.edge state _ hmem
     have p1:=i1.pay (n:=1) (by omega) hf
     have he:=edgeR_ok hg hr hl (e:=(c.st state).ed i.1) ⟨hed.2.1,hed.2.2⟩ hp0 hp1 (real:=real) (out:=out) p1 (by have:=i1.few;show(i.2.known.length:Int)+1≤i.2.used+1;omega) (by have:=i1.spec1;show i.2.spec+1≤64*(i.2.used+1);omega)
     generalize edgeR c rec look ((c.st state).ed i.1) pos real out {i.2 with used:=i.2.used+1}=r at he
     obtain⟨k1,k2,k3⟩:=he
     have m1:i.2.used+1≤r.2.used:=k2.used
     have m2:i.2.used+1-(i.2.known.length:Int)≤r.2.used-r.2.known.length+1:=k2.room
     have m3:64*(i.2.used+1)-i.2.spec≤64*r.2.used-r.2.spec+1:=k2.spec
     have kg:Gro p r.2 0 0:=⟨by omega,by omega,by omega⟩
     split
     ·exact⟨k1,kg,.inl rfl,by simp;omega,fun _=>rfl⟩
     ·rename_i o ho2
      obtain⟨o1,o2,o3,o4⟩:=k3 o ho2
      have ih:=wayL_ok hg hv hr hl (over:=over) (real:=real) n ((c.st state).ed i.1).to o.2 o.1 r.2 k1 (by omega) o2 (fun hrf=>by rw[o4 hrf,ho hrf])
      obtain⟨j1,j2,j3,j4,j5⟩:=ih
      refine⟨j1,?_,?_,by omega,j5⟩
      ·have:=kg.trans j2
       exact this.mono (by omega) (by omega)
      ·rcases j3 with j3 | j3
       ·exact .inl j3
       ·exact .inr ⟨by omega,j3.2⟩
theorem lookF_ok {c:DC}{N d:Nat}(h:RecOk c (walkF c N d)):LookOk c (lookF c N d):=by
 intro st ov pos p h1 h2 hp hs hp0 hp1
 unfold lookF
 split
 ·exact⟨hp.err 7,⟨Int.le_refl _,by show p.used-(p.known.length:Int)≤p.used-p.known.length+0;omega,by show 64*p.used-p.spec≤64*p.used-p.spec+1;omega⟩,.inl rfl⟩
 ·have hp':POk c {p with spec:=p.spec+1}:=⟨hp.used0,hp.used1,hp.kn,hp.few,by have:=hp.spec0;show 0≤p.spec+1;omega,hs,hp.deep0,hp.deep1⟩
  obtain⟨q1,q2,q3,_,_⟩:=h st ov pos false _ h1 h2 hp' hp0 hp1
  refine⟨q1,⟨q2.used,q2.room,?_⟩,q3⟩
  have:=q2.spec
  have h9:64*p.used-(p.spec+1)≤64*(walkF c N d st ov pos false {p with spec:=p.spec+1}).2.2.used-(walkF c N d st ov pos false {p with spec:=p.spec+1}).2.2.spec+0:=this
  show 64*p.used-p.spec≤64*(walkF c N d st ov pos false {p with spec:=p.spec+1}).2.2.used-(walkF c N d st ov pos false {p with spec:=p.spec+1}).2.2.spec+1
  omega
theorem walkF_ok {c:DC}(hg:Rng c) (hv:Val c) (N:Nat):∀d:Nat,d≤c.depth→RecOk c (walkF c N d)
 | 0,_=>fun st ov pos real p _ _ h hp0 hp1=>⟨h.err 7,Gro.err p 7,.inl rfl,by show((0:Nat):Int)≤p.used-p.used;omega,fun _=>rfl⟩
 | d+1,hd=>by
  have ih:=walkF_ok hg hv N d (by omega)
  intro st ov pos real p _ _ h hp0 hp1
  rw[walkF_succ]
  have hdp:POk c {p with deep:=max p.deep (c.depth-d:Int)}:=⟨h.used0,h.used1,h.kn,h.few,h.spec0,h.spec1,by have:=h.deep0;show 0≤max p.deep _;omega,by have:=h.deep1;show max p.deep (c.depth-d:Int)≤_;omega⟩
  obtain⟨a1,a2,a3,a4,a5⟩:=wayL_ok hg hv ih (lookF_ok ih) (over:=ov) (real:=real) N st pos [] _ hdp hp0 hp1 (fun _=>rfl)
  refine⟨a1,⟨a2.used,a2.room,a2.spec⟩,a3,?_,a5⟩
  simpa using a4
end Drv
end Go.Proofs.Ytgflanlniejflaa
