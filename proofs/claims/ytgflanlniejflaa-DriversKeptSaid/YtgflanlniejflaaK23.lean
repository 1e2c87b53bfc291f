/-
  Drivers: the reference's way: the walk.
-/
import Derived.Deep.LoopGhost
import Derived.Deep.CutRange
import Derived.Test.YtgflanlniejflaaK22
namespace Go.Proofs.Ytgflanlniejflaa
open Go.RowKit Go.Maps
open Go.Sort (grow)
set_option maxRecDepth 100000
structure WayI (f:Rf) (kv:Value) (dp:Int) (w:World) (q:Drv.PS) (outv:Value) (out:List Drv.Tr) (kv':Value) (wr:World):Prop where
 at':RpAt wr f kv' dp q
 only:Only (RT f kv) w wr
 new:∀k',kv'.ownBlock=some k'→kv.ownBlock=some k'∨w.heap.size≤k'
 trs:∃xs,wr.ownsRow w.heap.size 65 5 outv out.length xs∧TrsV wr (fun k=>RT f kv' k∨outv.ownBlock=some k∨k<w.heap.size) out xs
theorem WayI.step {f:Rf}{kv:Value}{dp:Int}{w:World}{q q':Drv.PS}{outv:Value}{out:List Drv.Tr}{kv' kv2:Value}{wr w2:World}(h:WayI f kv dp w q outv out kv' wr) (ho:Only (RT f kv') wr w2) (hn:∀k',kv2.ownBlock=some k'→kv'.ownBlock=some k'∨wr.heap.size≤k') (ha:RpAt w2 f kv2 dp q'):WayI f kv dp w q' outv out kv2 w2:=by
 have hno:∀k,outv.ownBlock=some k→¬RT f kv' k:=fun k e e2=>by
  obtain⟨xs,hr,_⟩:=h.trs
  rcases e2 with rfl | e2
  ·exact row_not hr h.at'.blk (by decide) e
  ·have h1:=h.at'.row
   rcases hr.2 with⟨h2,_⟩ | ⟨g,cap,cur,hv,_,hh,_⟩
   ·rw[h2]at e;cases e
   ·rw[hv]at e
    injection e with e
    have e:g=k:=e
    subst e
    exact row_not h1 hh (by decide) e2
 refine⟨ha,h.only.trans ho fun b hb e=>e.elim .inl fun e=>(h.new b e).elim .inr fun g=>by omega,fun k' e=>?_,?_⟩
 ·rcases hn k' e with g | g
  ·exact h.new k' g
  ·exact .inr (Nat.le_trans h.only.size g)
 ·obtain⟨xs,hr,ht⟩:=h.trs
  refine⟨xs,ownsRow_only hr ho hno,TrsV.only (ho.more (S':=fun k=>RT f kv' k∨outv.ownBlock=some k∨k<w.heap.size) fun _ _ e=>.inl e) (fun b hb e=>?_) _ _ ht⟩
  rcases e with e | e | e
  ·rcases e with e | e
   ·exact .inl (.inl e)
   ·rcases hn b e with g | g
    ·exact .inl (.inr g)
    ·omega
  ·exact .inr (.inl e)
  ·exact .inr (.inr e)
theorem WayI.grow {f:Rf}{kv:Value}{dp:Int}{w:World}{q:Drv.PS}{outv:Value}{out:List Drv.Tr}{kv':Value}{wr w2:World}(h:WayI f kv dp w q outv out kv' wr) (ho:Only (fun _=>False) wr w2):WayI f kv dp w q outv out kv' w2:=
 h.step (ho.more fun _ _ e=>e.elim) (fun _ e=>.inl e) (h.at'.only ho fun _ _ e=>e)
theorem WayI.push {f:Rf}{kv:Value}{dp:Int}{w:World}{q:Drv.PS}{outv:Value}{out:List Drv.Tr}{kv':Value}{wr w2:World}{t:Drv.Tr}{cs xs:List Value}{g c:Nat}(h:WayI f kv dp w q outv out kv' wr)
 (hx:wr.ownsRow w.heap.size 65 5 outv out.length xs) (ht:TrsV wr (fun k=>RT f kv' k∨outv.ownBlock=some k∨k<w.heap.size) out xs) (hc:TrV wr (fun k=>RT f kv' k∨outv.ownBlock=some k∨k<w.heap.size) t cs)
 (hg:outv.ownBlock=some g∨wr.heap.size<g) (ho:Only (fun k=>outv.ownBlock=some k) wr w2) (hr:w2.ownsRow w.heap.size 65 5 (.slice (some ⟨g,0,none⟩) (out.length+1) c) (out.length+1) (xs++cs)):
 WayI f kv dp w q (.slice (some ⟨g,0,none⟩) (out.length+1) c) (out++ [t]) kv' w2:=by
 have hno:∀k,RT f kv' k→¬outv.ownBlock=some k:=fun k e2 e=>by
  rcases e2 with rfl | e2
  ·exact row_not hx h.at'.blk (by decide) e
  ·have h1:=h.at'.row
   rcases hx.2 with⟨h2,_⟩ | ⟨g,cap,cur,hv,_,hh,_⟩
   ·rw[h2]at e;cases e
   ·rw[hv]at e
    injection e with e
    have e:g=k:=e
    subst e
    exact row_not h1 hh (by decide) e2
 refine⟨h.at'.only ho hno,h.only.trans ho fun b hb e=>?_,h.new,xs++cs,by simpa using hr,?_⟩
 ·have:=(hx.lt b e).1
  omega
 ·refine TrsV.only (ho.more (S':=fun k=>RT f kv' k∨outv.ownBlock=some k∨k<w.heap.size) fun _ _ e=>.inr (.inl e)) (fun b hb e=>?_) _ _ (ht.snoc hc)
  rcases e with e | e | e
  ·exact .inl e
  ·have e:some g=some b:=e
   injection e with e
   subst e
   rcases hg with hg | hg
   ·exact .inr (.inl hg)
   ·omega
  ·exact .inr (.inr e)
theorem WayI.fail {f:Rf}{kv:Value}{dp:Int}{w:World}{q:Drv.PS}{outv:Value}{out:List Drv.Tr}{kv':Value}{wr:World}(h:WayI f kv dp w q outv out kv' wr):RWalkP f kv dp ([],-1,q) w (.returned (.tuple #[.slice none 0 0,.int .i64 (-1)])) wr:=
 ⟨none,0,kv',[],rfl,h.at',⟨rfl,fun e=>absurd e (Nat.lt_irrefl 0)⟩,by unfold TrsV;rfl,h.only,h.new⟩
theorem WayI.done {f:Rf}{kv:Value}{dp:Int}{w:World}{q:Drv.PS}{A:Option Addr}{n c:Nat}{out:List Drv.Tr}{kv':Value}{wr:World}{pos:Int}(h:WayI f kv dp w q (.slice A n c) out kv' wr):RWalkP f kv dp (out,pos,q) w (.returned (.tuple #[.slice A n c,.int .i64 pos])) wr:=by
 obtain⟨xs,hr,ht⟩:=h.trs
 obtain⟨A',c',e,hrd,_⟩:=Reads.own hr
 injection e with e1 e2 e3
 subst e1 e2 e3
 have hno:∀k,(Value.slice A out.length c).ownBlock=some k→¬RT f kv' k:=fun k e e2=>by
  rcases e2 with rfl | e2
  ·exact row_not hr h.at'.blk (by decide) e
  ·have h1:=h.at'.row
   rcases hr.2 with⟨h2,_⟩ | ⟨g,cap,cur,hv,_,hh,_⟩
   ·rw[h2]at e;cases e
   ·rw[hv]at e
    injection e with e
    have e:g=k:=e
    subst e
    exact row_not h1 hh (by decide) e2
 refine⟨A,c,kv',xs,rfl,h.at',⟨hrd.1,fun hn=>?_⟩,?_,h.only,h.new⟩
 ·obtain⟨b,off,rfl,hb,hc⟩:=hrd.2 hn
  refine⟨b,off,rfl,hb,fun e=>?_,hc⟩
  rcases hr.2 with⟨h2,_⟩ | ⟨g,cap,cur,hv,hg,hh,_⟩
  ·cases h2
  ·have hv2:=hv
   injection hv with hv _ _
   injection hv with hv
   injection hv with hv _ _
   subst hv
   rcases e with e | e
   ·exact hno b (by rw[hv2];rfl) e
   ·omega
 ·exact TrsV.only (Only.refl _ wr) (fun b hb e=>e.elim .inl fun e=>.inr (.inr e)) _ _ ht
namespace Drv
theorem wayL_over {c:DC}{rec:Rec}{look:Int→Int→Int→PS→Int×PS}(m:Nat) (over pos:Int) (real:Bool) (out:List Tr) (p:PS):wayL c rec look (m+1) over over pos real out p=(out,pos,p):=by
 unfold wayL;rw[if_pos rfl]
theorem wayL_go {c:DC}{rec:Rec}{look:Int→Int→Int→PS→Int×PS}(m:Nat){state over pos:Int}(real:Bool) (out:List Tr) (p:PS) (h:state≠over) (i:Int×PS) (hi:(if(c.st state).ends.length=0 then((0:Int),p)else pickR c look state pos p)=i):
 wayL c rec look (m+1) state over pos real out p=if i.2.err≠0∨i.1<0∨((c.st state).edges.length:Int)≤i.1 then([],-1,i.2)
  else if c.fuel<i.2.used+1 then([],-1,{i.2 with err:=6})
  else match (edgeR c rec look ((c.st state).ed i.1) pos real out {i.2 with used:=i.2.used+1}).1 with
   | none=>([],-1,(edgeR c rec look ((c.st state).ed i.1) pos real out {i.2 with used:=i.2.used+1}).2)
   | some o=>wayL c rec look m ((c.st state).ed i.1).to over o.2 real o.1 (edgeR c rec look ((c.st state).ed i.1) pos real out {i.2 with used:=i.2.used+1}).2:=by
 conv=>lhs;unfold wayL
 rw[if_neg h]
 simp only[hi]
 rfl
section
variable (c:DC) (rec:Rec) (look:Int→Int→Int→PS→Int×PS){e:Ed}(pos:Int) (out:List Tr) (p:PS)
theorem edgeR_tok (real:Bool) (h:e.kind=1):edgeR c rec look e pos real out p=if(c.w.length:Int)≤pos∨c.tok pos≠e.what then(none,p)else(some (if real=true then out++ [leaf pos e.what]else out,pos+1),p):=by
 unfold edgeR;rw[if_pos h]
theorem edgeR_real (h:e.kind=2) (q:List Tr×Int×PS) (hq:rec (at0 c.starts e.what) (at0 c.stops e.what) pos true p=q):
 edgeR c rec look e pos true out p=if q.2.1<0 then(none,q.2.2)else(some (out++ [.node e.what 0 0 false q.1],q.2.1),q.2.2):=by
 unfold edgeR;rw[if_neg (by omega),if_pos h,if_pos rfl,←hq]
theorem edgeR_known2 (h:e.kind=2){tv:Int}(hk:know p.known 2 e.what pos=some tv):edgeR c rec look e pos false out p=if tv<0 then(none,p)else(some (out,tv),p):=by
 unfold edgeR;rw[if_neg (by omega),if_pos h,if_neg (by decide),hk]
theorem edgeR_rule (h:e.kind=2) (hk:know p.known 2 e.what pos=none) (q:List Tr×Int×PS) (hq:rec (at0 c.starts e.what) (at0 c.stops e.what) pos false p=q):
 edgeR c rec look e pos false out p=if q.2.2.err≠0 then(none,q.2.2)else if q.2.1<0 then(none,{q.2.2 with known:=say q.2.2.known 2 e.what pos q.2.1})else(some (out,q.2.1),{q.2.2 with known:=say q.2.2.known 2 e.what pos q.2.1}):=by
 unfold edgeR;rw[if_neg (by omega),if_pos h,if_neg (by decide),hk,←hq]
theorem edgeR_known1 (real:Bool) (h:e.kind=3){tv:Int}(hk:know p.known 1 e.what pos=some tv):edgeR c rec look e pos real out p=if tv<0 then(none,p)else(some (out,pos),p):=by
 unfold edgeR;rw[if_neg (by omega),if_neg (by omega),if_pos h,hk]
theorem edgeR_pred (real:Bool) (h:e.kind=3) (hk:know p.known 1 e.what pos=none) (q:Int×PS) (hq:look (at0 c.preds e.what) (at0 c.preds e.what+1) pos p=q):
 edgeR c rec look e pos real out p=if q.2.err≠0 then(none,q.2)else if min q.1 0<0 then(none,{q.2 with known:=say q.2.known 1 e.what pos (min q.1 0)})else(some (out,pos),{q.2 with known:=say q.2.known 1 e.what pos (min q.1 0)}):=by
 unfold edgeR;rw[if_neg (by omega),if_neg (by omega),if_pos h,hk,←hq]
end
end Drv
end Go.Proofs.Ytgflanlniejflaa
