/-
  Drivers: DrvInv, DrvInv2, DrvInv3, DrvRng (texts joined).
-/
import Derived.Test.YtgflanlniejflaaK02
namespace Go.Proofs.Ytgflanlniejflaa
namespace Drv
def InR (n:Nat) (x:Int):Prop:=0≤x∧x<n
structure Rng (c:DC):Prop where
 edge:∀i e,e∈(c.st i).edges→InR c.states.length e.to∧(e.kind=2→InR c.starts.length e.what)∧(e.kind=3→InR c.preds.length e.what)
 starts:∀r,InR c.starts.length r→InR c.states.length (at0 c.starts r)∧InR c.states.length (at0 c.stops r)
 preds:∀q,InR c.preds.length q→InR c.states.length (at0 c.preds q)∧InR c.states.length (at0 c.preds q+1)
 ends:∀i e,e∈(c.st i).ends→InR c.states.length e
 both:∀i,(c.st i).ends.length≠0→(c.st i).ends.length=(c.st i).edges.length∧(c.st i).edges.length≤32
 dec:∀i,(c.st i).ends.length≠0→InR c.decs.length (c.dec i)
 alts:∀d pos,(c.run d pos).2.1.length≤32
def alt1 (c:DC) (d a:Int):Prop:=InR (c.st (at0 c.decs d)).edges.length a
def K1 (c:DC) (e:K4):Prop:=
 (0≤e.2.2.1∧e.2.2.1≤c.w.length)∧
 ((e.1=0∧InR c.decs.length e.2.1∧(e.2.2.2= -1∨alt1 c e.2.1 e.2.2.2))∨(e.1=1∧InR c.preds.length e.2.1∧(e.2.2.2= -1∨e.2.2.2=0))∨
  (e.1=2∧InR c.starts.length e.2.1∧(e.2.2.2= -1∨(e.2.2.1≤e.2.2.2∧e.2.2.2≤c.w.length))))
def W1 (c:DC) (x:Wk):Prop:=
 InR c.states.length x.state∧InR c.states.length x.over∧0≤x.start∧(x.start≤c.w.length)∧
 ((x.sort≤1∧InR c.starts.length x.what)∨(x.sort=2∧InR c.preds.length x.what)∨
  (x.sort=3∧InR c.decs.length x.what∧2≤x.alts.length∧x.alts.length≤32∧(c.st (at0 c.decs x.what)).ends.length≠0∧∀a∈x.alts,alt1 c x.what a))
theorem W1.rule {c:DC}{x:Wk}(h:W1 c x) (hs:x.sort≤1):InR c.starts.length x.what:=by
 rcases h.2.2.2.2 with h1 | h1 | h1
 ·exact h1.2
 ·omega
 ·omega
theorem W1.pred {c:DC}{x:Wk}(h:W1 c x) (hs:x.sort=2):InR c.preds.length x.what:=by
 rcases h.2.2.2.2 with h1 | h1 | h1
 ·omega
 ·exact h1.2
 ·omega
theorem W1.try {c:DC}{x:Wk}(h:W1 c x) (hs:3≤x.sort):InR c.decs.length x.what∧2≤x.alts.length∧x.alts.length≤32∧(c.st (at0 c.decs x.what)).ends.length≠0∧∀a∈x.alts,alt1 c x.what a:=by
 rcases h.2.2.2.2 with h1 | h1 | h1
 ·omega
 ·omega
 ·exact h1.2
def nonreal (l:List Wk):Nat:=(l.filter fun x=>x.sort !=0).length
structure COk (c:DC) (k:Cf):Prop where
 pos0:0≤k.pos
 pos1:k.pos≤c.w.length
 used0:0≤k.used
 used1:k.used≤c.fuel
 kn:∀e∈k.known,K1 c e
 wk:∀x∈k.opn,W1 c x
 start:∀x∈k.opn,x.start≤k.pos
 chain:k.opn.Pairwise fun x y=>y.start≤x.start
 size:k.opn.length≤c.depth
 few:(k.known.length:Int)+nonreal k.opn≤k.used
 top:∀x∈k.opn,(x.subs.length:Int)≤k.used
 low:∀x∈k.opn.tail,(x.subs.length:Int)+1≤k.used
theorem know_mem {K:List K4}{a b p t:Int}(h:know K a b p=some t):(a,b,p,t)∈K:=by
 unfold know at h
 rw[Option.map_eq_some_iff]at h
 obtain⟨e,h1,h2⟩:=h
 have h3:=List.find?_some h1
 have h4:=List.mem_of_find?_eq_some h1
 simp only[Bool.and_eq_true,beq_iff_eq]at h3
 obtain⟨⟨h5,h6⟩,h7⟩:=h3
 obtain⟨e1,e2,e3,e4⟩:=e
 simp only at h2 h5 h6 h7
 subst h2 h5 h6 h7
 exact h4
theorem say_mem {K:List K4}{a b p t:Int}{e:K4}(h:e∈say K a b p t):e∈K∨e=(a,b,p,t):=by
 unfold say at h
 split at h
 ·exact .inl h
 ·simpa using h
theorem say_len (K:List K4) (a b p t:Int):(say K a b p t).length≤K.length+1:=by
 unfold say
 split
 ·omega
 ·simp
theorem nonreal_cons (x:Wk) (l:List Wk):nonreal (x ::l)=nonreal l+(if x.sort=0 then 0 else 1):=by
 unfold nonreal
 by_cases h:x.sort=0
 ·rw[List.filter_cons_of_neg (by simp[h]),if_pos h];rfl
 ·rw[List.filter_cons_of_pos (by simp[h]),if_neg h];simp
section
variable {c:DC}{k:Cf}
theorem COk.fin (h:COk c k) (e:Int):COk c (k.fin e):=⟨h.pos0,h.pos1,h.used0,h.used1,h.kn,h.wk,h.start,h.chain,h.size,h.few,h.top,h.low⟩
theorem COk.pop {x:Wk}{rest:List Wk}(h:COk c k) (ho:k.opn=x ::rest){q:Int}(hq:q=k.pos∨q=x.start):COk c {k with opn:=rest,pos:=q}:=by
 have hx:=h.wk x (by rw[ho];simp)
 have hs:=h.start x (by rw[ho];simp)
 have hc:=h.chain
 have hfew:=h.few
 rw[ho]at hc hfew
 rw[List.pairwise_cons]at hc
 rw[nonreal_cons]at hfew
 have hp0:=h.pos0
 have hp1:=h.pos1
 have hle:∀y∈rest,y.start≤q:=fun y hy=>by
  have h1:=hc.1 y hy
  have h2:=h.start y (by rw[ho];exact List.mem_cons_of_mem _ hy)
  rcases hq with rfl | rfl
  ·exact h2
  ·exact h1
 refine⟨?_,?_,h.used0,h.used1,h.kn,fun y hy=>h.wk y (by rw[ho];exact List.mem_cons_of_mem _ hy),hle,hc.2,?_,?_,fun y hy=>h.top y (by rw[ho];exact List.mem_cons_of_mem _ hy),fun y hy=>?_⟩
 ·rcases hq with rfl | rfl
  ·exact hp0
  ·exact hx.2.2.1
 ·rcases hq with rfl | rfl
  ·exact hp1
  ·exact hx.2.2.2.1
 ·have:=h.size;rw[ho]at this;simp at this;show rest.length≤_;omega
 ·show(k.known.length:Int)+(nonreal rest:Nat)≤k.used
  split at hfew <;> omega
 ·have hy:=List.mem_of_mem_tail hy
  have:=h.low y (by rw[ho];exact hy)
  exact this
theorem COk.pop_few {x:Wk}{rest:List Wk}(h:COk c k) (ho:k.opn=x ::rest) (hx:x.sort≠0):(k.known.length:Int)+nonreal rest+1≤k.used:=by
 have hfew:=h.few
 rw[ho,nonreal_cons,if_neg hx]at hfew
 omega
theorem COk.tell (h:COk c k){a b p t:Int}(hk:K1 c (a,b,p,t)) (hf:(k.known.length:Int)+nonreal k.opn+1≤k.used):COk c (k.tell a b p t):=
 ⟨h.pos0,h.pos1,h.used0,h.used1,fun e he=>by
  rcases say_mem he with he | rfl
  ·exact h.kn e he
  ·exact hk,h.wk,h.start,h.chain,h.size,by have:=say_len k.known a b p t;show((say k.known a b p t).length:Int)+(nonreal k.opn:Nat)≤k.used;omega,h.top,h.low⟩
theorem COk.begin (h:COk c k){x:Wk}(hx:W1 c {x with start:=k.pos}) (hsub:x.subs= []) (hf:x.sort≠0→(k.known.length:Int)+nonreal k.opn+1≤k.used) (hl:∀y∈k.opn,(y.subs.length:Int)+1≤k.used):COk c (beginM c x k):=by
 unfold beginM
 split
 ·exact h.fin 7
 ·rename_i hd
  refine⟨h.pos0,h.pos1,h.used0,h.used1,h.kn,?_,?_,?_,?_,?_,?_,hl⟩
  ·intro y hy
   rcases List.mem_cons.1 hy with rfl | hy
   ·exact hx
   ·exact h.wk y hy
  ·intro y hy
   rcases List.mem_cons.1 hy with rfl | hy
   ·exact Int.le_refl _
   ·exact h.start y hy
  ·exact List.pairwise_cons.2 ⟨fun y hy=>h.start y hy,h.chain⟩
  ·show k.opn.length+1≤c.depth;omega
  ·show(k.known.length:Int)+(nonreal ({x with start:=k.pos} ::k.opn):Nat)≤k.used
   rw[nonreal_cons]
   have:=h.few
   by_cases h0:x.sort=0
   ·rw[if_pos h0];omega
   ·rw[if_neg h0];have:=hf h0;omega
  ·intro y hy
   rcases List.mem_cons.1 hy with rfl | hy
   ·show((x.subs.length:Nat):Int)≤k.used;rw[hsub];exact h.used0
   ·exact h.top y hy
theorem COk.tries (hg:Rng c) (h:COk c k){d:Int}{alts:List Int}(hd:InR c.decs.length d) (he:(c.st (at0 c.decs d)).ends.length≠0) (hne:alts≠[]) (hl:alts.length≤32) (ha:∀a∈alts,alt1 c d a)
 (hf:(k.known.length:Int)+nonreal k.opn+1≤k.used) (hlow:∀y∈k.opn,(y.subs.length:Int)+1≤k.used):COk c (triesM c d alts k):=by
 unfold triesM
 cases alts with
 | nil=>exact absurd rfl hne
 | cons a r=>
  have ha0:=ha a (by simp)
  split
  ·exact h.tell ⟨⟨h.pos0,h.pos1⟩,.inl ⟨rfl,hd,.inr ha0⟩⟩ hf
  ·rename_i hl1
   have hb:=hg.both _ he
   have hlt:a.toNat<(c.st (at0 c.decs d)).edges.length:=by have:=ha0.1;have:=ha0.2;omega
   refine h.begin ⟨?_,?_,h.pos0,h.pos1,.inr (.inr ⟨rfl,hd,?_,hl,he,ha⟩)⟩ rfl (fun _=>hf) hlow
   ·show InR _ (NSt.ed _ a).to
    unfold NSt.ed
    rw[List.getD_eq_getElem?_getD,List.getElem?_eq_getElem hlt]
    exact(hg.edge _ _ (List.getElem_mem hlt)).1
   ·show InR _ (at0 _ a)
    have hlt2:a.toNat<(c.st (at0 c.decs d)).ends.length:=by rw[hb.1];exact hlt
    show InR _ ((c.st (at0 c.decs d)).ends.getD a.toNat 0)
    rw[List.getD_eq_getElem?_getD,List.getElem?_eq_getElem hlt2]
    exact hg.ends _ _ (List.getElem_mem hlt2)
   ·show 2≤(a ::r).length
    cases r with
    | nil=>simp at hl1
    | cons b r=>simp
theorem COk.fails (hg:Rng c):∀(l:List Wk) (k:Cf),COk c k→k.opn=l→COk c (failsL c l k)
 | [],k,h,_=>h
 | x ::rest,k,h,ho=>by
  have hx:=h.wk x (by rw[ho];simp)
  have hp:=h.pop ho (q:=x.start) (.inr rfl)
  have hlow:∀y∈rest,(y.subs.length:Int)+1≤k.used:=fun y hy=>h.low y (by rw[ho];exact hy)
  unfold failsL
  match hs:x.sort with
  | 0=>exact hp.fin 8
  | 1=>
   have hw:=hx.rule (by omega)
   exact COk.fails hg rest _ (hp.tell ⟨⟨hx.2.2.1,hx.2.2.2.1⟩,.inr (.inr ⟨rfl,hw,.inl rfl⟩)⟩ (h.pop_few ho (by omega))) rfl
  | 2=>
   have hw:=hx.pred hs
   exact COk.fails hg rest _ (hp.tell ⟨⟨hx.2.2.1,hx.2.2.2.1⟩,.inr (.inl ⟨rfl,hw,.inl rfl⟩)⟩ (h.pop_few ho (by omega))) rfl
  | n+3=>
   obtain⟨hd,hl2,hl32,he,ha⟩:=hx.try (by omega)
   exact hp.tries hg hd he (fun e=>by have:=congrArg List.length e;simp at this;omega) (by simp;omega) (fun a h'=>ha a (List.mem_of_mem_tail h')) (h.pop_few ho (by omega)) hlow
end
end Drv
end Go.Proofs.Ytgflanlniejflaa
namespace Go.Proofs.Ytgflanlniejflaa
namespace Drv
section
variable {c:DC}{k:Cf}
theorem COk.failsM (hg:Rng c) (h:COk c k):COk c (failsM c k):=COk.fails hg k.opn k h rfl
theorem COk.well (h:COk c k):COk c (wellM k):=by
 unfold wellM
 split
 ·exact h
 ·rename_i x rest ho
  have hx:=h.wk x (by rw[ho];simp)
  have hs:=h.start x (by rw[ho];simp)
  have hp:=h.pop ho (q:=k.pos) (.inl rfl)
  have hq:=h.pop ho (q:=x.start) (.inr rfl)
  have p1:=h.pos1
  simp only
  match hsort:x.sort with
  | 0=>
   simp only
   split
   ·exact⟨hp.pos0,hp.pos1,hp.used0,hp.used1,hp.kn,hp.wk,hp.start,hp.chain,hp.size,hp.few,hp.top,hp.low⟩
   ·rename_i up r
    have hl:(up.subs.length:Int)+1≤k.used:=h.low up (by rw[ho];simp)
    refine⟨hp.pos0,hp.pos1,hp.used0,hp.used1,hp.kn,?_,?_,?_,hp.size,?_,?_,hp.low⟩
    ·intro y hy
     rcases List.mem_cons.1 hy with rfl | hy
     ·exact hp.wk up (by simp)
     ·exact hp.wk y (List.mem_cons_of_mem _ hy)
    ·intro y hy
     rcases List.mem_cons.1 hy with rfl | hy
     ·exact hp.start up (by simp)
     ·exact hp.start y (List.mem_cons_of_mem _ hy)
    ·have:=List.pairwise_cons.1 hp.chain
     exact List.pairwise_cons.2 ⟨fun y hy=>this.1 y hy,this.2⟩
    ·have:=hp.few
     have e1:nonreal (up ::r)=nonreal ({up with subs:=up.subs++ [.node x.what 0 0 false x.subs]} ::r):=by rw[nonreal_cons,nonreal_cons]
     show(k.known.length:Int)+(nonreal ({up with subs:=up.subs++ [.node x.what 0 0 false x.subs]} ::r):Nat)≤k.used
     rw[←e1];exact this
    ·intro y hy
     rcases List.mem_cons.1 hy with rfl | hy
     ·show((up.subs++ [_]).length:Int)≤k.used;rw[List.length_append];simp;omega
     ·exact hp.top y (List.mem_cons_of_mem _ hy)
  | 1=>
   exact hp.tell ⟨⟨hx.2.2.1,hx.2.2.2.1⟩,.inr (.inr ⟨rfl,hx.rule (by omega),.inr ⟨hs,p1⟩⟩)⟩ (h.pop_few ho (by omega))
  | 2=>
   exact hq.tell ⟨⟨hx.2.2.1,hx.2.2.2.1⟩,.inr (.inl ⟨rfl,hx.pred hsort,.inr rfl⟩)⟩ (h.pop_few ho (by omega))
  | n+3=>
   obtain⟨hd,hl2,_,_,ha⟩:=hx.try (by omega)
   refine hq.tell ⟨⟨hx.2.2.1,hx.2.2.2.1⟩,.inl ⟨rfl,hd,.inr (ha _ ?_)⟩⟩ (h.pop_few ho (by omega))
   cases hal:x.alts with
   | nil=>rw[hal]at hl2;simp at hl2
   | cons a r=>simp
theorem COk.calls (hg:Rng c) (h:COk c k){r:Int}(hr:InR c.starts.length r) (hf:(k.known.length:Int)+nonreal k.opn+1≤k.used) (hlow:∀y∈k.opn,(y.subs.length:Int)+1≤k.used):COk c (callsM c r k):=by
 have hs:=hg.starts r hr
 unfold callsM
 split
 ·split
  ·rename_i to hk
   split
   ·exact h.failsM hg
   ·have h1:=h.kn _ (know_mem hk)
    have h2:k.pos≤to∧to≤c.w.length:=by
     rcases h1.2 with h1 | h1 | h1
     ·have:=h1.1;simp at this
     ·have:=h1.1;simp at this
     ·rcases h1.2.2 with h3 | h3
      ·have h3:to= -1:=h3
       contradiction
      ·exact h3
    have:=h.pos0
    exact⟨by show 0≤to;omega,h2.2,h.used0,h.used1,h.kn,h.wk,fun x hx=>by have:=h.start x hx;show x.start≤to;omega,h.chain,h.size,h.few,h.top,h.low⟩
  ·exact h.begin ⟨hs.1,hs.2,h.pos0,h.pos1,.inl ⟨by simp,hr⟩⟩ rfl (fun _=>hf) hlow
 ·exact h.begin ⟨hs.1,hs.2,h.pos0,h.pos1,.inl ⟨by simp,hr⟩⟩ rfl (fun e=>absurd rfl e) hlow
theorem COk.asks (hg:Rng c) (h:COk c k){q:Int}(hq:InR c.preds.length q) (hf:(k.known.length:Int)+nonreal k.opn+1≤k.used) (hlow:∀y∈k.opn,(y.subs.length:Int)+1≤k.used):COk c (asksM c q k):=by
 have hs:=hg.preds q hq
 unfold asksM
 split
 ·exact h.begin ⟨hs.1,hs.2,h.pos0,h.pos1,.inr (.inl ⟨rfl,hq⟩)⟩ rfl (fun _=>hf) hlow
 ·split
  ·exact h.failsM hg
  ·exact h
theorem COk.top_set {x x':Wk}{rest:List Wk}(h:COk c k) (ho:k.opn=x ::rest) (hw:W1 c x') (h1:x'.start=x.start) (h2:x'.sort=x.sort) (h3:(x'.subs.length:Int)≤k.used){q:Int}(hq:k.pos≤q) (hq2:q≤c.w.length):COk c {k with opn:=x' ::rest,pos:=q}:=by
 have hc:=h.chain
 have hfew:=h.few
 have hsz:=h.size
 rw[ho]at hc hfew hsz
 rw[List.pairwise_cons]at hc
 rw[nonreal_cons]at hfew
 have hlow:=h.low
 rw[ho]at hlow
 have hp:=h.pos0
 refine⟨by show 0≤q;omega,hq2,h.used0,h.used1,h.kn,?_,?_,List.pairwise_cons.2 ⟨fun y hy=>by rw[h1];exact hc.1 y hy,hc.2⟩,hsz,?_,?_,hlow⟩
 ·intro y hy
  rcases List.mem_cons.1 hy with rfl | hy
  ·exact hw
  ·exact h.wk y (by rw[ho];exact List.mem_cons_of_mem _ hy)
 ·intro y hy
  rcases List.mem_cons.1 hy with rfl | hy
  ·have:=h.start x (by rw[ho];simp);rw[h1];show x.start≤q;omega
  ·have:=h.start y (by rw[ho];exact List.mem_cons_of_mem _ hy);show y.start≤q;omega
 ·show(k.known.length:Int)+(nonreal (x' ::rest):Nat)≤k.used
  rw[nonreal_cons,h2];exact hfew
 ·intro y hy
  rcases List.mem_cons.1 hy with rfl | hy
  ·exact h3
  ·exact h.top y (by rw[ho];exact List.mem_cons_of_mem _ hy)
theorem COk.pay (h:COk c k){n:Int}(hn:1≤n) (hf:¬c.fuel-k.used<n):COk c {k with used:=k.used+n}∧(k.known.length:Int)+nonreal k.opn+1≤k.used+n∧∀y∈k.opn,(y.subs.length:Int)+1≤k.used+n:=by
 have h1:=h.used0
 have h2:=h.few
 refine⟨⟨h.pos0,h.pos1,by show 0≤k.used+n;omega,by show k.used+n≤_;omega,h.kn,h.wk,h.start,h.chain,h.size,by show _≤k.used+n;show(k.known.length:Int)+(nonreal k.opn:Nat)≤k.used+n;omega,fun y hy=>by have:=h.top y hy;show _≤k.used+n;omega,fun y hy=>by have:=h.low y hy;show _≤k.used+n;omega⟩,by omega,fun y hy=>by have:=h.top y hy;omega⟩
theorem COk.goes (hg:Rng c) (h:COk c k){x:Wk}{rest:List Wk}(ho:k.opn=x ::rest){e:Ed}(he:e∈(c.st x.state).edges):COk c (goesM c e k):=by
 have hx:=h.wk x (by rw[ho];simp)
 have hed:=hg.edge _ e he
 unfold goesM
 split
 ·exact h.fin 6
 ·rename_i hf
  obtain⟨hp,hfew,hlow⟩:=h.pay (n:=1) (Int.le_refl _) hf
  simp only
  split
  ·exact hp.failsM hg
  ·rename_i hm
   have hst:setTop {k with used:=k.used+1} (fun x=>{x with state:=e.to})= {k with used:=k.used+1,opn:={x with state:=e.to} ::rest}:=by unfold setTop;simp only[ho]
   have hw2:W1 c {x with state:=e.to}:=⟨hed.1,hx.2.1,hx.2.2.1,hx.2.2.2.1,hx.2.2.2.2⟩
   have ht:=hp.top_set (x:=x) (x':={x with state:=e.to}) ho hw2 rfl rfl (hp.top x (by show x∈k.opn;rw[ho];simp)) (Int.le_refl _) hp.pos1
   have hlow2:∀y∈{x with state:=e.to} ::rest,(y.subs.length:Int)+1≤k.used+1:=fun y hy=>by
    rcases List.mem_cons.1 hy with rfl | hy
    ·exact hlow x (by rw[ho];simp)
    ·exact hlow y (by rw[ho];exact List.mem_cons_of_mem _ hy)
   have hfew2:(k.known.length:Int)+(nonreal ({x with state:=e.to} ::rest):Nat)+1≤k.used+1:=by
    have e1:nonreal ({x with state:=e.to} ::rest)=nonreal k.opn:=by rw[ho,nonreal_cons,nonreal_cons]
    rw[e1];exact hfew
   rw[hst]
   split
   ·rename_i h1
    have hlt:k.pos<c.w.length:=by
     rcases Int.lt_or_le k.pos c.w.length with h2 | h2
     ·exact h2
     ·exact absurd ⟨h1,.inl h2⟩ hm
    refine ht.top_set (x:={x with state:=e.to}) (x':=if x.sort=0 then {{x with state:=e.to} with subs:=x.subs++ [leaf k.pos e.what]} else {x with state:=e.to}) (rest:=rest) rfl ?_ ?_ ?_ ?_ (q:=k.pos+1) (by show k.pos≤k.pos+1;omega) (by omega)
    ·split <;> exact hw2
    ·split <;> rfl
    ·split <;> rfl
    ·split
     ·have:=hlow x (by rw[ho];simp)
      show((x.subs++ [_]).length:Int)≤k.used+1
      rw[List.length_append];simp;omega
     ·exact hp.top x (by show x∈k.opn;rw[ho];simp)
   ·split
    ·rename_i h2
     exact ht.calls hg (hed.2.1 h2) hfew2 hlow2
    ·split
     ·rename_i h3
      exact ht.asks hg (hed.2.2 h3) hfew2 hlow2
     ·exact ht
theorem COk.decides (hg:Rng c) (hv:Val c) (h:COk c k){i:Int}(hi:(c.st i).ends.length≠0):
 COk c (decidesM c (c.dec i) k).2∧∀alt,(decidesM c (c.dec i) k).1=some alt→(decidesM c (c.dec i) k).2=k∧(alt= -1∨alt1 c (c.dec i) alt):=by
 have hd:=hg.dec i hi
 have hdi:=hv.dec i hi
 have hb:=hg.both i hi
 unfold decidesM
 split
 ·rename_i alt hk
  refine⟨h,fun a ha=>⟨rfl,?_⟩⟩
  injection ha with ha
  subst ha
  rcases(h.kn _ (know_mem hk)).2 with h1 | h1 | h1
  ·exact h1.2.2
  ·have:=h1.1;simp at this
  ·have:=h1.1;simp at this
 ·simp only
  have hsn:=hv.seen (c.dec i) k.pos
  split
  ·exact⟨h.fin 6,fun a ha=>by cases ha⟩
  ·rename_i hf
   obtain⟨hp,hfew,hlow⟩:=h.pay (n:=1+(c.run (c.dec i) k.pos).2.2) (by omega) hf
   split
   ·rename_i h1
    have h2:=hv.pick i k.pos hi h1
    refine⟨hp.tell ⟨⟨h.pos0,h.pos1⟩,.inl ⟨rfl,hd,.inr ?_⟩⟩ hfew,fun a ha=>by cases ha⟩
    show InR (c.st (at0 c.decs (c.dec i))).edges.length _
    rw[hdi]
    exact h2
   ·split
    ·rename_i h3
     have h2:=hv.tries i k.pos hi h3
     refine⟨hp.tries hg hd (by rw[hdi];exact hi) h2.1 (hg.alts _ _) (fun a ha=>?_) hfew hlow,fun a ha=>by cases ha⟩
     show InR (c.st (at0 c.decs (c.dec i))).edges.length a
     rw[hdi]
     exact h2.2 a ha
    ·exact⟨hp.tell ⟨⟨h.pos0,h.pos1⟩,.inl ⟨rfl,hd,.inl rfl⟩⟩ hfew,fun a ha=>by cases ha⟩
theorem COk.step (hg:Rng c) (hv:Val c) (h:COk c k):COk c (stepM c k):=by
 unfold stepM
 split
 ·exact h
 ·rename_i x rest ho
  simp only
  split
  ·exact h.well
  ·split
   ·rename_i hs
    obtain⟨h1,h2⟩:=h.decides hg hv hs
    split
    ·rename_i alt ha
     obtain⟨h3,h4⟩:=h2 alt ha
     rw[h3]
     split
     ·exact h.failsM hg
     ·rename_i hne
      have h5:InR (c.st x.state).edges.length alt:=by
       rcases h4 with h4 | h4
       ·exact absurd h4 hne
       ·unfold alt1 at h4;rw[hv.dec x.state hs]at h4;exact h4
      have hlt:alt.toNat<(c.st x.state).edges.length:=by have:=h5.1;have:=h5.2;omega
      refine h.goes hg ho ?_
      unfold NSt.ed
      rw[List.getD_eq_getElem?_getD,List.getElem?_eq_getElem hlt]
      exact List.getElem_mem hlt
    ·exact h1
   ·split
    ·exact h.failsM hg
    ·rename_i he
     have hlt:0<(c.st x.state).edges.length:=by omega
     refine h.goes hg ho ?_
     unfold NSt.ed
     rw[List.getD_eq_getElem?_getD,show(0:Int).toNat=0 from rfl,List.getElem?_eq_getElem hlt]
     exact List.getElem_mem hlt
def BOk (k:Cf):Prop:=k.ended=true∨(k.opn.getLast?.map (·.sort))=some 0
theorem BOk.begin {x:Wk}(h:BOk k):BOk (beginM c x k):=by
 unfold beginM
 split
 ·exact .inl rfl
 ·rcases h with h | h
  ·exact .inl h
  ·refine .inr ?_
   cases ho:k.opn with
   | nil=>rw[ho]at h;simp at h
   | cons y r=>rw[ho]at h;simpa[List.getLast?_cons_cons]using h
theorem BOk.tries {d:Int}{alts:List Int}(h:BOk k):BOk (triesM c d alts k):=by
 unfold triesM
 split
 ·exact h
 ·exact h.begin
theorem BOk.fails:∀(l:List Wk) (k:Cf),k.opn=l→(l.getLast?.map (·.sort))=some 0→BOk (failsL c l k)
 | [],k,_,h=>by simp at h
 | x ::rest,k,ho,h=>by
  unfold failsL
  have hr:x.sort≠0→(rest.getLast?.map (·.sort))=some 0:=fun hx=>by
   cases rest with
   | nil=>simp at h;exact absurd h hx
   | cons y r=>simpa[List.getLast?_cons_cons]using h
  match hs:x.sort with
  | 0=>exact .inl rfl
  | 1=>exact BOk.fails rest _ rfl (hr (by omega))
  | 2=>exact BOk.fails rest _ rfl (hr (by omega))
  | n+3=>exact BOk.tries (.inr (hr (by omega)))
theorem BOk.failsM (h:BOk k) (he:k.ended=false):BOk (failsM c k):=by
 rcases h with h | h
 ·rw[he]at h;cases h
 ·exact BOk.fails k.opn k rfl h
theorem BOk.top {x x':Wk}{rest:List Wk}(h:BOk k) (ho:k.opn=x ::rest) (hs:x'.sort=x.sort){q u:Int}:BOk {k with opn:=x' ::rest,pos:=q,used:=u}:=by
 rcases h with h | h
 ·exact .inl h
 ·refine .inr ?_
  rw[ho]at h
  show((x' ::rest).getLast?.map (·.sort))=some 0
  cases rest with
  | nil=>simpa[hs]using h
  | cons y r=>simpa[List.getLast?_cons_cons]using h
theorem BOk.well (h:BOk k) (he:k.ended=false):BOk (wellM k):=by
 rcases h with h | h
 ·rw[he]at h;cases h
 ·unfold wellM
  split
  ·rename_i ho;rw[ho]at h;simp at h
  ·rename_i x rest ho
   rw[ho]at h
   have hr:x.sort≠0→(rest.getLast?.map (·.sort))=some 0:=fun hx=>by
    cases rest with
    | nil=>simp at h;exact absurd h hx
    | cons y r=>simpa[List.getLast?_cons_cons]using h
   simp only
   match hs:x.sort with
   | 0=>
    simp only
    split
    ·exact .inl rfl
    ·rename_i up r
     refine .inr ?_
     cases r with
     | nil=>simpa using h
     | cons y r=>simpa[List.getLast?_cons_cons]using h
   | 1=>exact .inr (hr (by omega))
   | 2=>exact .inr (hr (by omega))
   | n+3=>exact .inr (hr (by omega))
theorem BOk.goes {x:Wk}{rest:List Wk}(h:BOk k) (he:k.ended=false) (ho:k.opn=x ::rest) (e:Ed):BOk (goesM c e k):=by
 unfold goesM
 split
 ·exact .inl rfl
 ·simp only
  have hk1:BOk {k with used:=k.used+1}:=h
  split
  ·exact hk1.failsM he
  ·have hst:setTop {k with used:=k.used+1} (fun x=>{x with state:=e.to})= {k with used:=k.used+1,opn:={x with state:=e.to} ::rest}:=by unfold setTop;simp only[ho]
   rw[hst]
   have hk2:BOk {k with used:=k.used+1,opn:={x with state:=e.to} ::rest}:=h.top (x':={x with state:=e.to}) ho rfl
   split
   ·refine hk2.top (x:={x with state:=e.to}) (x':=if x.sort=0 then {{x with state:=e.to} with subs:=x.subs++ [leaf k.pos e.what]} else {x with state:=e.to}) (rest:=rest) rfl ?_
    split <;> rfl
   ·split
    ·unfold callsM
     split
     ·split
      ·split
       ·exact hk2.failsM he
       ·exact hk2
      ·exact hk2.begin
     ·exact hk2.begin
    ·split
     ·unfold asksM
      split
      ·exact hk2.begin
      ·split
       ·exact hk2.failsM he
       ·exact hk2
     ·exact hk2
theorem BOk.step (h:BOk k) (he:k.ended=false):BOk (stepM c k):=by
 unfold stepM
 split
 ·exact h
 ·rename_i x rest ho
  simp only
  split
  ·exact h.well he
  ·split
   ·have hd:BOk (decidesM c (c.dec x.state) k).2∧((decidesM c (c.dec x.state) k).1≠none→(decidesM c (c.dec x.state) k).2=k):=by
     unfold decidesM
     split
     ·exact⟨h,fun _=>rfl⟩
     ·simp only
      split
      ·exact⟨.inl rfl,fun g=>absurd rfl g⟩
      ·split
       ·exact⟨h,fun g=>absurd rfl g⟩
       ·split
        ·exact⟨BOk.tries (k:={k with used:=_}) h,fun g=>absurd rfl g⟩
        ·exact⟨h,fun g=>absurd rfl g⟩
    split
    ·rename_i alt ha
     rw[hd.2 (by rw[ha];simp)]
     split
     ·exact h.failsM he
     ·exact h.goes he ho _
    ·exact hd.1
   ·split
    ·exact h.failsM he
    ·exact h.goes he ho _
end
end Drv
end Go.Proofs.Ytgflanlniejflaa
namespace Go.Proofs.Ytgflanlniejflaa
namespace Drv
def pot:List Wk→Int
 | []=>0
 | x ::l=>(if 3≤x.sort then(x.alts.length:Int)else 0)+pot l
theorem pot_nonneg:∀l,0≤pot l
 | []=>Int.le_refl _
 | x ::l=>by
  unfold pot
  have:=pot_nonneg l
  split <;> omega
def SOk (k:Cf):Prop:=0≤k.spec∧k.spec+pot k.opn≤33*k.used
section
variable {c:DC}{k:Cf}
theorem SOk.tell (h:SOk k) (a b p t:Int):SOk (k.tell a b p t):=h
theorem SOk.pop {x:Wk}{rest:List Wk}(h:SOk k) (ho:k.opn=x ::rest) (q:Int):SOk {k with opn:=rest,pos:=q}:=by
 have h2:=h.2
 rw[ho]at h2
 unfold pot at h2
 refine⟨h.1,?_⟩
 show k.spec+pot rest≤33*k.used
 split at h2 <;> omega
theorem SOk.top {x x':Wk}{rest:List Wk}(h:SOk k) (ho:k.opn=x ::rest) (hs:x'.sort=x.sort) (ha:x'.alts=x.alts) (q:Int):SOk {k with opn:=x' ::rest,pos:=q}:=by
 have h2:=h.2
 rw[ho]at h2
 refine⟨h.1,?_⟩
 show k.spec+pot (x' ::rest)≤33*k.used
 unfold pot at h2⊢
 rw[hs,ha]
 exact h2
theorem SOk.begin {x:Wk}(h:SOk k) (hc:k.spec+pot k.opn+(if 1<x.sort then 1 else 0)+(if 3≤x.sort then(x.alts.length:Int)else 0)≤33*k.used):SOk (beginM c x k):=by
 unfold beginM
 split
 ·exact h
 ·have h1:=h.1
  refine⟨?_,?_⟩
  ·show 0≤if 1<x.sort then k.spec+1 else k.spec
   split <;> omega
  ·show(if 1<x.sort then k.spec+1 else k.spec)+pot ({x with start:=k.pos} ::k.opn)≤33*k.used
   unfold pot
   show(if 1<x.sort then k.spec+1 else k.spec)+((if 3≤x.sort then(x.alts.length:Int)else 0)+pot k.opn)≤33*k.used
   split at hc <;> split <;> first | omega | (split at hc <;> split <;> omega)
theorem SOk.tries {d:Int}{alts:List Int}(h:SOk k) (hc:k.spec+pot k.opn+1+(alts.length:Int)≤33*k.used):SOk (triesM c d alts k):=by
 unfold triesM
 split
 ·exact h
 ·refine h.begin ?_
  rw[if_pos (by show 1<3;decide),if_pos (by show 3≤3;decide)]
  exact hc
theorem SOk.fails:∀(l:List Wk) (k:Cf),SOk k→(∀x∈l,3≤x.sort→1≤x.alts.length)→k.opn=l→SOk (failsL c l k)
 | [],k,h,_,_=>h
 | x ::rest,k,h,ha,ho=>by
  have hp:=h.pop ho x.start
  have hr:∀y∈rest,3≤y.sort→1≤y.alts.length:=fun y hy=>ha y (List.mem_cons_of_mem _ hy)
  unfold failsL
  match hs:x.sort with
  | 0=>exact hp
  | 1=>exact SOk.fails rest _ (hp.tell _ _ _ _) hr rfl
  | 2=>exact SOk.fails rest _ (hp.tell _ _ _ _) hr rfl
  | n+3=>
   have h1:=ha x (by simp) (by omega)
   have h2:=h.2
   rw[ho]at h2
   unfold pot at h2
   rw[if_pos (by omega)]at h2
   refine hp.tries ?_
   show k.spec+pot rest+1+(x.alts.tail.length:Int)≤33*k.used
   rw[List.length_tail]
   omega
theorem SOk.failsM (h:SOk k) (hc:COk c k):SOk (failsM c k):=SOk.fails k.opn k h (fun x hx hs=>by
 have:=(hc.wk x hx).try hs
 omega) rfl
theorem SOk.well (h:SOk k):SOk (wellM k):=by
 unfold wellM
 split
 ·exact h
 ·rename_i x rest ho
  have hp:=fun q=>h.pop ho q
  simp only
  split
  ·split
   ·exact hp k.pos
   ·rename_i up r
    exact(hp k.pos).top (x:=up) (x':={up with subs:=up.subs++ [.node x.what 0 0 false x.subs]}) (rest:=r) rfl rfl rfl k.pos
  ·exact hp k.pos
  ·exact hp x.start
  ·exact hp x.start
theorem SOk.calls {r:Int}(h:SOk k) (hc:COk c k):SOk (callsM c r k):=by
 have h2:=h.2
 unfold callsM
 split
 ·split
  ·split
   ·exact h.failsM hc
   ·exact h
  ·refine h.begin ?_
   rw[if_neg (by show¬1<1;decide),if_neg (by show¬3≤1;decide)]
   omega
 ·refine h.begin ?_
  rw[if_neg (by show¬1<0;decide),if_neg (by show¬3≤0;decide)]
  omega
theorem SOk.asks {q:Int}(h:SOk k) (hc:COk c k) (hs:k.spec+pot k.opn+1≤33*k.used):SOk (asksM c q k):=by
 unfold asksM
 split
 ·refine h.begin ?_
  rw[if_pos (by show 1<2;decide),if_neg (by show¬3≤2;decide)]
  omega
 ·split
  ·exact h.failsM hc
  ·exact h
theorem SOk.pay (h:SOk k){n:Int}(hn:1≤n):SOk {k with used:=k.used+n}∧k.spec+pot k.opn+33≤33*(k.used+n):=by
 have h1:=h.1
 have h2:=h.2
 exact⟨⟨h1,by show k.spec+pot k.opn≤33*(k.used+n);omega⟩,by omega⟩
theorem SOk.decides (hg:Rng c) (hv:Val c) (h:SOk k){d:Int}:SOk (decidesM c d k).2:=by
 unfold decidesM
 split
 ·exact h
 ·simp only
  have hsn:=hv.seen d k.pos
  split
  ·exact h
  ·obtain⟨hp,hs⟩:=h.pay (n:=1+(c.run d k.pos).2.2) (by omega)
   split
   ·exact hp
   ·split
    ·refine hp.tries ?_
     have:=hg.alts d k.pos
     show k.spec+pot k.opn+1+_≤33*(k.used+(1+(c.run d k.pos).2.2))
     omega
    ·exact hp
theorem SOk.goes (hg:Rng c) (h:SOk k) (hc:COk c k){x:Wk}{rest:List Wk}(ho:k.opn=x ::rest){e:Ed}(he:e∈(c.st x.state).edges):SOk (goesM c e k):=by
 have hx:=hc.wk x (by rw[ho];simp)
 have hed:=hg.edge _ e he
 unfold goesM
 split
 ·exact h
 ·rename_i hf
  obtain⟨hp,hfew,hlow⟩:=hc.pay (n:=1) (Int.le_refl _) hf
  obtain⟨sp,ss⟩:=h.pay (n:=1) (Int.le_refl _)
  simp only
  split
  ·exact sp.failsM hp
  ·rename_i hm
   have hst:setTop {k with used:=k.used+1} (fun x=>{x with state:=e.to})= {k with used:=k.used+1,opn:={x with state:=e.to} ::rest}:=by unfold setTop;simp only[ho]
   have hw2:W1 c {x with state:=e.to}:=⟨hed.1,hx.2.1,hx.2.2.1,hx.2.2.2.1,hx.2.2.2.2⟩
   have ht:=hp.top_set (x:=x) (x':={x with state:=e.to}) ho hw2 rfl rfl (hp.top x (by show x∈k.opn;rw[ho];simp)) (Int.le_refl _) hp.pos1
   have hs:=sp.top (x:=x) (x':={x with state:=e.to}) ho rfl rfl k.pos
   have hpot:pot ({x with state:=e.to} ::rest)=pot k.opn:=by rw[ho];rfl
   rw[hst]
   split
   ·exact hs.top (x:={x with state:=e.to}) (x':=if x.sort=0 then {{x with state:=e.to} with subs:=x.subs++ [leaf k.pos e.what]} else {x with state:=e.to}) (rest:=rest) rfl (by split <;> rfl) (by split <;> rfl) (k.pos+1)
   ·split
    ·exact SOk.calls hs ht
    ·split
     ·refine SOk.asks hs ht ?_
      show k.spec+pot ({x with state:=e.to} ::rest)+1≤33*(k.used+1)
      rw[hpot]
      omega
     ·exact hs
theorem SOk.step (hg:Rng c) (hv:Val c) (h:SOk k) (hc:COk c k):SOk (stepM c k):=by
 unfold stepM
 split
 ·exact h
 ·rename_i x rest ho
  simp only
  split
  ·exact h.well
  ·split
   ·rename_i hs
    obtain⟨h1,h2⟩:=hc.decides hg hv hs
    have hd:=SOk.decides hg hv h (d:=c.dec x.state)
    split
    ·rename_i alt ha
     obtain⟨h3,h4⟩:=h2 alt ha
     rw[h3]
     split
     ·exact h.failsM hc
     ·rename_i hne
      have h5:InR (c.st x.state).edges.length alt:=by
       rcases h4 with h4 | h4
       ·exact absurd h4 hne
       ·unfold alt1 at h4;rw[hv.dec x.state hs]at h4;exact h4
      have hlt:alt.toNat<(c.st x.state).edges.length:=by have:=h5.1;have:=h5.2;omega
      refine h.goes hg hc ho ?_
      unfold NSt.ed
      rw[List.getD_eq_getElem?_getD,List.getElem?_eq_getElem hlt]
      exact List.getElem_mem hlt
    ·exact hd
   ·split
    ·exact h.failsM hc
    ·rename_i he
     have hlt:0<(c.st x.state).edges.length:=by omega
     refine h.goes hg hc ho ?_
     unfold NSt.ed
     rw[List.getD_eq_getElem?_getD,show(0:Int).toNat=0 from rfl,List.getElem?_eq_getElem hlt]
     exact List.getElem_mem hlt
end
end Drv
end Go.Proofs.Ytgflanlniejflaa
namespace Go.Proofs.Ytgflanlniejflaa
namespace Drv
theorem risingL_len {most:Int}:∀{least:Int}{l:List Int},risingL most least l=true→(l.length:Int)≤most-least∨l= []
 | _,[],_=>.inr rfl
 | least,n ::r,h=>by
  unfold risingL at h
  simp only[Bool.and_eq_true,decide_eq_true_eq]at h
  rcases risingL_len h.2 with h1 | h1
  ·left;simp only[List.length_cons];omega
  ·subst h1;left;simp;omega
theorem runL_alts {a:List LSt}{toks:List Int}{alts:Int}(ha:∀s∈a,risingL alts 0 s.alts=true) (h0:0≤alts) (n:Nat) (s:Int) (pos:Nat):((runL a toks n s pos).2.1.length:Int)≤alts:=by
 induction n generalizing s pos with
 | zero=>unfold runL;exact h0
 | succ n ih=>
  unfold runL
  split
  ·exact h0
  ·rename_i hs
   simp only
   split
   ·have hm:a.getD s.toNat ⟨0,[],[]⟩∈a:=by
     rw[List.getD_eq_getElem?_getD,List.getElem?_eq_getElem (by omega)]
     exact List.getElem_mem _
    show(((a.getD s.toNat ⟨0,[],[]⟩).alts.length:Nat):Int)≤alts
    rcases risingL_len (ha _ hm)with h1 | h1
    ·omega
    ·rw[h1];exact h0
   ·generalize (if pos<toks.length then toks.getD pos 0 else -1)=tok
    split
    ·exact h0
    ·split
     ·exact h0
     ·exact ih _ _
theorem rng_mk {n:NNet}{autos:List (List LSt)}(hn:mayNet n=true) (hl:autos.length=n.decs.length) (ha:∀d (h:d<autos.length),mayAuto autos[d] (altsOf n d) 64=true) (h32:∀d,d<autos.length→altsOf n d≤32) (w:List Int) (fuel:Int) (depth:Nat):
 Rng (mkDC n autos w fuel depth):=by
 have hn':=hn
 unfold mayNet at hn'
 simp only[Bool.and_eq_true,beq_iff_eq,List.all_eq_true,decide_eq_true_eq]at hn'
 obtain⟨⟨⟨⟨⟨hss,hsts⟩,hstp⟩,hpr⟩,hst⟩,hdec⟩:=hn'
 have inB:∀i,stateB n i=true→InR n.states.length i:=fun i h=>by
  unfold stateB at h
  simp only[Bool.and_eq_true,decide_eq_true_eq]at h
  exact h
 have at0_mem:∀(l:List Int) (i:Int),InR l.length i→at0 l i∈l:=fun l i h=>by
  have h1:=h.1
  have h2:=h.2
  unfold at0
  rw[List.getD_eq_getElem?_getD,List.getElem?_eq_getElem (by omega)]
  exact List.getElem_mem _
 have hSt:∀i,(((mkDC n autos w fuel depth).st i).edges= []∧((mkDC n autos w fuel depth).st i).ends= [])∨∃s∈n.states,(mkDC n autos w fuel depth).st i=s:=fun i=>by
  unfold DC.st
  split
  ·exact .inl ⟨rfl,rfl⟩
  ·by_cases h:i.toNat<n.states.length
   ·refine .inr ⟨n.states[i.toNat],List.getElem_mem h,?_⟩
    show n.states.getD i.toNat _=_
    rw[List.getD_eq_getElem?_getD,List.getElem?_eq_getElem h];rfl
   ·refine .inl ?_
    show(n.states.getD i.toNat _).edges= []∧(n.states.getD i.toNat _).ends= []
    rw[List.getD_eq_getElem?_getD,List.getElem?_eq_none (by omega)]
    exact⟨rfl,rfl⟩
 have hmem:∀i,((mkDC n autos w fuel depth).st i).ends.length≠0→i∈n.decs:=fun i h=>by
  obtain⟨h0,h1,h2⟩:=st_ne h
  rw[h2]at h
  rw[←hdec]
  exact decsOf_mem.2 ⟨h0,h1,h⟩
 have hv:=val_mk hn hl ha w fuel depth
 have hix:∀i,((mkDC n autos w fuel depth).st i).ends.length≠0→(decIx n i).toNat<autos.length∧InR n.decs.length (decIx n i):=fun i h=>by
  have hlt:=List.idxOf_lt_length_iff.2 (hmem i h)
  unfold decIx InR
  simp only[Int.toNat_natCast]
  omega
 refine⟨fun i e he=>?_,fun r hr=>?_,fun q hq=>?_,fun i e he=>?_,fun i hi=>?_,fun i hi=>(hix i hi).2,fun d pos=>?_⟩
 ·rcases hSt i with⟨h1,_⟩ | ⟨s,hs,h1⟩
  ·rw[h1]at he;cases he
  ·rw[h1]at he
   have h2:=(hst s hs).1.1
   unfold stMay at h2
   simp only[Bool.and_eq_true,List.all_eq_true]at h2
   have h3:=h2.1 e he
   unfold edgeB at h3
   simp only[Bool.and_eq_true,Bool.or_eq_true,decide_eq_true_eq,beq_iff_eq]at h3
   obtain⟨⟨⟨_,h4⟩,h5⟩,h6⟩:=h3
   refine⟨inB _ h6,fun hk=>⟨h4,?_⟩,fun hk=>⟨h4,?_⟩⟩
   ·rcases h5 with h5 | h5
    ·omega
    ·rw[if_pos hk]at h5;exact h5
   ·rcases h5 with h5 | h5
    ·omega
    ·rw[if_neg (by omega),if_pos hk]at h5;exact h5
 ·have hr:InR n.starts.length r:=hr
  exact⟨inB _ (hsts _ (at0_mem _ _ hr)),inB _ (hstp _ (at0_mem _ _ (by unfold InR at hr⊢;omega)))⟩
 ·have hq:InR n.preds.length q:=hq
  have:=hpr _ (at0_mem _ _ hq)
  show InR n.states.length (at0 n.preds q)∧InR n.states.length (at0 n.preds q+1)
  unfold InR
  omega
 ·rcases hSt i with⟨_,h1⟩ | ⟨s,hs,h1⟩
  ·rw[h1]at he;cases he
  ·rw[h1]at he
   have h2:=(hst s hs).1.1
   unfold stMay at h2
   simp only[Bool.and_eq_true,List.all_eq_true,Bool.or_eq_true,beq_iff_eq]at h2
   rcases h2.2 with h3 | h3
   ·have:s.ends= []:=List.eq_nil_of_length_eq_zero h3
    rw[this]at he;cases he
   ·exact inB _ (h3.2 e he)
 ·rcases hSt i with⟨_,h1⟩ | ⟨s,hs,h1⟩
  ·rw[h1]at hi;exact absurd rfl hi
  ·have h2:=(hst s hs).1.1
   unfold stMay at h2
   simp only[Bool.and_eq_true,Bool.or_eq_true,beq_iff_eq]at h2
   have h4:s.ends.length=s.edges.length:=by
    rcases h2.2 with h3 | h3
    ·rw[h1]at hi;exact absurd h3 hi
    ·exact h3.1.1.1
   refine⟨by rw[h1];exact h4,?_⟩
   have h5:=h32 _ (hix i hi).1
   have h6:=hv.dec i hi
   have e1:(((decIx n i).toNat:Nat):Int)=decIx n i:=by unfold decIx;simp
   have h6:at0 n.decs (decIx n i)=i:=h6
   unfold altsOf at h5
   rw[e1,h6]at h5
   obtain⟨h0,hlt,hse⟩:=st_ne hi
   have hlt:i.toNat<n.states.length:=hlt
   rw[List.getD_eq_getElem?_getD,List.getElem?_eq_getElem hlt]at h5
   have hse:(mkDC n autos w fuel depth).st i=n.states[i.toNat]:=hse
   rw[hse]
   have h7:n.states[i.toNat].ends.length=n.states[i.toNat].edges.length:=by rw[←hse,h1];exact h4
   simp only[Option.getD_some]at h5
   omega
 ·show((runA (autos.getD d.toNat []) (w.drop pos.toNat)).2.1.length)≤32
  by_cases hd:d.toNat<autos.length
  ·have h1:=ha _ hd
   unfold mayAuto at h1
   simp only[Bool.and_eq_true,List.all_eq_true]at h1
   have h2:∀s∈autos[d.toNat],risingL (altsOf n d.toNat) 0 s.alts=true:=fun s hs=>by
    have:=h1.2 s hs
    unfold fineL at this
    simp only[Bool.and_eq_true]at this
    exact this.1.1.2
   have h3:=h32 _ hd
   have h4:=runL_alts h2 (by unfold altsOf;omega) ((w.drop pos.toNat).length+2) 0 0 (toks:=w.drop pos.toNat)
   have e2:autos.getD d.toNat []=autos[d.toNat]:=by rw[List.getD_eq_getElem?_getD,List.getElem?_eq_getElem hd];rfl
   rw[e2]
   unfold runA
   omega
  ·have e2:autos.getD d.toNat []= []:=by rw[List.getD_eq_getElem?_getD,List.getElem?_eq_none (by omega)];rfl
   rw[e2]
   have h4:=runL_alts (a:=[]) (toks:=w.drop pos.toNat) (alts:=0) (fun s hs=>by cases hs) (by decide) ((w.drop pos.toNat).length+2) 0 0
   unfold runA
   omega
end Drv
end Go.Proofs.Ytgflanlniejflaa
