/-
  Drivers: FlwM, Flw (texts joined).
-/
import Derived.Deep.LoopGhost
import Derived.Deep.CutRange
import Derived.Test.YtgflanlniejflaaA05
import Derived.Test.YtgflanlniejflaaA22
import Derived.Test.YtgflanlniejflaaA34
namespace Go.Proofs.Ytgflanlniejflaa
open Go.RowKit
set_option maxRecDepth 100000
namespace Drv
def bArr (R:Nat) (f:Nat→Bool):Array Value:=((List.range R).map fun i=>Value.bool (f i)).toArray
theorem bArr_get {R:Nat}{f:Nat→Bool}{i:Nat}(h:i<R):(bArr R f)[i]? =some (.bool (f i)):=by
 simp[bArr,h]
theorem bArr_set (R:Nat) (f:Nat→Bool) (i:Nat) (b:Bool):(bArr R f).setIfInBounds i (.bool b)=bArr R (fun x=>if x=i then b else f x):=by
 unfold bArr
 rw[List.setIfInBounds_toArray]
 congr 1
 apply List.ext_getElem
 ·simp
 ·intro j h1 h2
  simp only[List.getElem_set,List.getElem_map,List.getElem_range]
  by_cases e:i=j
  ·subst e;simp
  ·rw[if_neg e,if_neg (fun g=>e g.symm)]
theorem bArr_repl (R:Nat):bArr R (fun _=>false)=Array.replicate R (Value.bool false):=by
 unfold bArr
 apply Array.ext
 ·simp
 ·intro i h1 h2;simp
end Drv
structure FlM (w:World) (R rg eb:Nat) (rb:Nat→Nat) (M:Nat→Nat→Bool) (E:Nat→Bool) (wr:World):Prop where
 below:Below w.heap.size w wr
 outer:∃oc,wr.heap[rg]? =some (.cells oc 136 (0,0))∧∀i,i<R→oc[i]? =some (.slice (some ⟨rb i,0,none⟩) R R)
 row:∀i,i<R→wr.heap[rb i]? =some (.cells (Drv.bArr R (M i)) 4 (0,0))
 ge:∀i,i<R→w.heap.size≤rb i∧rb i<eb
 inj:∀i j,i<R→j<R→rb i=rb j→i=j
 emp:wr.heap[eb]? =some (.cells (Drv.bArr R E) 4 (0,0))
 ger:w.heap.size≤rg∧rg<eb
section
variable {w wr w':World}{R rg eb:Nat}{rb:Nat→Nat}{M:Nat→Nat→Bool}{E:Nat→Bool}
theorem FlM.only (h:FlM w R rg eb rb M E wr){S:Nat→Prop}(ho:Only S wr w') (hS:∀k,S k→eb<k):FlM w R rg eb rb M E w':=by
 obtain⟨oc,o1,o2⟩:=h.outer
 have he:=h.emp
 have hr:=h.ger
 have hw:=h.below.size
 refine⟨ho.below (fun k e=>by have:=hS k e;omega) h.below hw,⟨oc,(ho.block _ (heap_lt o1) fun e=>by have:=hS _ e;omega).trans o1,o2⟩,fun i hi=>?_,h.ge,h.inj,(ho.block _ (heap_lt he) fun e=>by have:=hS _ e;omega).trans he,hr⟩
 have h1:=h.row i hi
 exact(ho.block _ (heap_lt h1) fun e=>by have:=hS _ e;have:=h.ge i hi;omega).trans h1
theorem FlM.still (h:FlM w R rg eb rb M E wr) (ho:Only (fun _=>False) wr w'):FlM w R rg eb rb M E w':=h.only ho fun _ e=>e.elim
theorem FlM.set (h:FlM w R rg eb rb M E wr){r q:Nat}(hr:r<R) (b:Bool):FlM w R rg eb rb (fun x y=>if x=r∧y=q then b else M x y) E (wr.setCell ⟨rb r,q,none⟩ (.bool b)):=by
 obtain⟨oc,o1,o2⟩:=h.outer
 have he:=h.emp
 have hg:=h.ge r hr
 have h0:=h.row r hr
 have ho:=Only.of_set wr (rb r) q (.bool b)
 have hw:=h.below.size
 refine⟨ho.below (fun k e=>by omega) h.below hw,⟨oc,(ho.block _ (heap_lt o1) fun e=>?_).trans o1,o2⟩,fun i hi=>?_,h.ge,h.inj,(ho.block _ (heap_lt he) fun e=>by omega).trans he,h.ger⟩
 ·exact not_cells o1 h0 (by decide) e
 ·by_cases e:i=r
  ·subst e
   rw[heap_setCell_same wr _ q _ _ (.bool b) h0,Drv.bArr_set]
   congr 3
   funext x
   simp
  ·have h1:=h.row i hi
   rw[(ho.block _ (heap_lt h1) fun e2=>e (h.inj i r hi hr e2)).trans h1]
   congr 3
   funext x
   rw[if_neg (fun g=>e g.1)]
theorem FlM.mark (h:FlM w R rg eb rb M E wr){r:Nat}(q:Nat) (hr:r<R):FlM w R rg eb rb (Drv.updM M r q) E (wr.setCell ⟨rb r,q,none⟩ (.bool true)):=h.set hr true
theorem FlM.setE (h:FlM w R rg eb rb M E wr) (r:Nat):FlM w R rg eb rb M (Drv.updE E r) (wr.setCell ⟨eb,r,none⟩ (.bool true)):=by
 obtain⟨oc,o1,o2⟩:=h.outer
 have ho:=Only.of_set wr eb r (.bool true)
 have hw:=h.below.size
 have hr:=h.ger
 refine⟨ho.below (fun k e=>by omega) h.below hw,⟨oc,(ho.block _ (heap_lt o1) fun e=>by omega).trans o1,o2⟩,fun i hi=>?_,h.ge,h.inj,?_,hr⟩
 ·have h1:=h.row i hi
  exact(ho.block _ (heap_lt h1) fun e=>by have:=h.ge i hi;omega).trans h1
 ·rw[heap_setCell_same wr _ r _ _ (.bool true) h.emp,Drv.bArr_set]
  rfl
theorem FlM.bit (h:FlM w R rg eb rb M E wr){r q:Nat}(hr:r<R) (hq:q<R):wr.cell? ⟨rg,r,none⟩=some (.slice (some ⟨rb r,0,none⟩) R R)∧wr.cell? ⟨rb r,q,none⟩=some (.bool (M r q))∧wr.frozen? ⟨rb r,q,none⟩=false:=by
 obtain⟨oc,o1,o2⟩:=h.outer
 have h1:=h.row r hr
 exact⟨by rw[Lib.cell_of_heap o1];exact o2 r hr,by rw[Lib.cell_of_heap h1,Drv.bArr_get hq],Lib.frozen_of_heap h1 q⟩
theorem FlM.ebit (h:FlM w R rg eb rb M E wr){r:Nat}(hr:r<R):wr.cell? ⟨eb,r,none⟩=some (.bool (E r))∧wr.frozen? ⟨eb,r,none⟩=false:=
 ⟨by rw[Lib.cell_of_heap h.emp,Drv.bArr_get hr],Lib.frozen_of_heap h.emp r⟩
end
structure FlB (w:World) (R i:Nat) (v:Value) (rb:Nat→Nat) (wr:World):Prop where
 below:Below w.heap.size w wr
 own:wr.ownsRow w.heap.size 136 1 v i ((List.range i).map fun j=>Value.slice (some ⟨rb j,0,none⟩) R R)
 row:∀j,j<i→wr.heap[rb j]? =some (.cells (Drv.bArr R fun _=>false) 4 (0,0))∧w.heap.size≤rb j
 inj:∀j k,j<i→k<i→rb j=rb k→j=k
section
variable {w wr w1 w':World}{R i:Nat}{v:Value}{rb:Nat→Nat}
theorem FlB.start (w:World) (R:Nat):FlB w R 0 (.slice none 0 0) (fun _=>0) w:=⟨Below.refl _ _,World.ownsRow_nil _ _ _ _,fun _ h=>absurd h (Nat.not_lt_zero _),fun _ _ h=>absurd h (Nat.not_lt_zero _)⟩
theorem FlB.push (h:FlB w R i v rb wr) (h1:w1=wr.alloc (.cells (Array.replicate R (Value.bool false)) 4)){g c:Nat}(hown:w'.ownsRow w.heap.size 136 1 (.slice (some ⟨g,0,none⟩) (i+1) c) (i+1) ((List.range i).map (fun j=>Value.slice (some ⟨rb j,0,none⟩) R R)++ [.slice (some ⟨wr.heap.size,0,none⟩) R R])) (ho:Only (fun k=>v.ownBlock=some k) w1 w'):
 FlB w R (i+1) (.slice (some ⟨g,0,none⟩) (i+1) c) (fun j=>if j=i then wr.heap.size else rb j) w':=by
 have hw:=h.below.size
 have hz:w1.heap.size=wr.heap.size+1:=by rw[h1];simp
 have hn:w1.heap[wr.heap.size]? =some (.cells (Array.replicate R (Value.bool false)) 4 (0,0)):=by rw[h1];exact heap_alloc_new _ _
 have hob:∀{b:Nat}{cs:Array Value},w1.heap[b]? =some (.cells cs 4 (0,0))→v.ownBlock≠some b:=fun hb=>by
  have h2:w1.ownsRow w.heap.size 136 1 v i ((List.range i).map fun j=>Value.slice (some ⟨rb j,0,none⟩) R R):=by rw[h1];exact h.own.alloc _
  exact row_not h2 hb (by decide)
 have hlt:∀k,v.ownBlock=some k→w.heap.size≤k:=fun k e=>(h.own.lt k e).1
 refine⟨ho.below hlt (by rw[h1];exact h.below.alloc hw _) (by omega),?_,fun j hj=>?_,fun j k hj hk e=>?_⟩
 ·have e:(List.range (i+1)).map (fun j=>Value.slice (some ⟨if j=i then wr.heap.size else rb j,0,none⟩) R R)=(List.range i).map (fun j=>Value.slice (some ⟨rb j,0,none⟩) R R)++ [.slice (some ⟨wr.heap.size,0,none⟩) R R]:=by
   rw[List.range_succ,List.map_append]
   congr 1
   ·apply List.map_congr_left
    intro j hj
    rw[if_neg (by have:=List.mem_range.1 hj;omega)]
   ·simp
  rw[e]
  exact hown
 ·by_cases e:j=i
  ·subst e
   simp only[if_true]
   refine⟨?_,hw⟩
   rw[(ho.block _ (heap_lt hn) (hob hn)).trans hn,Drv.bArr_repl]
  ·simp only[if_neg e]
   obtain⟨g1,g2⟩:=h.row j (by omega)
   have g3:w1.heap[rb j]? =some (.cells (Drv.bArr R fun _=>false) 4 (0,0)):=by rw[h1,Below.heap_alloc _ _ _ (heap_lt g1)];exact g1
   exact⟨(ho.block _ (heap_lt g3) (hob g3)).trans g3,g2⟩
 ·have lt:∀m,m<i→rb m<wr.heap.size:=fun m hm=>heap_lt (h.row m hm).1
  by_cases e1:j=i
  ·by_cases e2:k=i
   ·omega
   ·simp only[if_pos e1,if_neg e2]at e
    have:=lt k (by omega)
    omega
  ·by_cases e2:k=i
   ·simp only[if_pos e2,if_neg e1]at e
    have:=lt j (by omega)
    omega
   ·simp only[if_neg e1,if_neg e2]at e
    exact h.inj j k (by omega) (by omega) e
theorem FlB.done (h:FlB w R R v rb wr) (hR:0<R) (h1:w1=wr.alloc (.cells (Array.replicate R (Value.bool false)) 4)):∃rg c,v= .slice (some ⟨rg,0,none⟩) R c∧FlM w R rg wr.heap.size rb (fun _ _=>false) (fun _=>false) w1:=by
 have hw:=h.below.size
 have hn:w1.heap[wr.heap.size]? =some (.cells (Array.replicate R (Value.bool false)) 4 (0,0)):=by rw[h1];exact heap_alloc_new _ _
 rcases h.own.2 with⟨_,h0⟩ | ⟨g,c,cur,hv,hg,hh,h2,h3,h4,h5⟩
 ·omega
 ·refine⟨g,c,hv,by rw[h1];exact h.below.alloc hw _,⟨cur,by rw[h1,Below.heap_alloc _ _ _ (heap_lt hh)];exact hh,fun i hi=>?_⟩,fun i hi=>?_,fun i hi=>⟨(h.row i hi).2,heap_lt (h.row i hi).1⟩,h.inj,by rw[hn,Drv.bArr_repl],⟨hg,heap_lt hh⟩⟩
  ·have h6:(cur.toList.take R)[i]? =((List.range R).map fun j=>Value.slice (some ⟨rb j,0,none⟩) R R)[i]?:=by rw[←h5,Nat.mul_one]
   rw[List.getElem?_take_of_lt hi,Array.getElem?_toList]at h6
   rw[h6]
   simp[hi]
  ·rw[h1,Below.heap_alloc _ _ _ (heap_lt (h.row i hi).1)]
   exact(h.row i hi).1
end
end Go.Proofs.Ytgflanlniejflaa
namespace Go.Proofs.Ytgflanlniejflaa
open Go.RowKit
set_option maxRecDepth 100000
structure Boxd (p:Prop):Prop where
 out:p
theorem wpStill_step4 {P:Program}{ops:Array Oper}{w:World}{Q:Act→Prop}{a:Act}{o:Oper}{rest:List Oper}
 (h:∀K:Act→Prop,(∀a,Boxd (wpStill P ops w Q rest a)→K a)→if Region.wanted o (yielded ops a.tmps)then o.still P a w K else K (a.put o.dst undef)):Boxd (wpStill P ops w Q (o ::rest) a):=⟨h _ fun _ h=>h.out⟩
theorem infoBl:(Try.prog.info? 136).map (fun i=>(i.zero,i.size,i.bytes))=some (some (.slice none 0 0),1,24):=by kernel_rfl
def FlwP (n:Drv.NNet) (w:World) (e:Ending) (w':World):Prop:=
 ∃rg c eb rb M E,e= .returned (.tuple #[.slice (some ⟨rg,0,none⟩) n.starts.length c,.slice (some ⟨eb,0,none⟩) n.starts.length n.starts.length])∧FlM w n.starts.length rg eb rb M E w'∧Drv.Known n ⟨Drv.eI n.starts.length E,Drv.mI n.starts.length M⟩
structure FlR (w:World) (n:Drv.NNet) (rg eb:Nat) (rb:Nat→Nat) (N0 ib r s k:Nat) (g ch:Bool) (M:Nat→Nat→Bool) (E I:Nat→Bool) (wr:World):Prop where
 mem:FlM w n.starts.length rg eb rb M E wr
 inb:wr.heap[ib]? =some (.cells (Drv.bArr n.states.length I) 4 (0,0))
 gi:eb<ib
 rdn:Drv.Rdn n N0 M E ch r
 inn:Drv.Inn n M E I r g s k
theorem FlR.still {w:World}{n:Drv.NNet}{rg eb:Nat}{rb:Nat→Nat}{N0 ib r s k:Nat}{g ch:Bool}{M:Nat→Nat→Bool}{E I:Nat→Bool}{wr w':World}(h:FlR w n rg eb rb N0 ib r s k g ch M E I wr) (ho:Only (fun _=>False) wr w'):FlR w n rg eb rb N0 ib r s k g ch M E I w':=
 ⟨h.mem.still ho,(ho.block _ (heap_lt h.inb) id).trans h.inb,h.gi,h.rdn,h.inn⟩
theorem FlR.mark {w:World}{n:Drv.NNet}{rg eb:Nat}{rb:Nat→Nat}{N0 ib r s k:Nat}{g ch:Bool}{M:Nat→Nat→Bool}{E I:Nat→Bool}{wr:World}(h:FlR w n rg eb rb N0 ib r s k g ch M E I wr){q:Nat}(hr:r<n.starts.length) (hq:q<n.starts.length) (hd:Drv.Dir n r q) (hf:M r q=false):
 FlR w n rg eb rb N0 ib r s k g true (Drv.updM M r q) E I (wr.setCell ⟨rb r,q,none⟩ (.bool true)):=
 ⟨h.mem.mark q hr,(Only.block (Only.of_set wr (rb r) q (.bool true)) _ (heap_lt h.inb) (by have:=h.gi;have:=(h.mem.ge r hr).2;omega)).trans h.inb,h.gi,h.rdn.mark hr hq hd hf,h.inn.mark r q⟩
theorem FlR.grow {w:World}{n:Drv.NNet}{rg eb:Nat}{rb:Nat→Nat}{N0 ib r s k k':Nat}{g ch:Bool}{M:Nat→Nat→Bool}{E I:Nat→Bool}{wr:World}(h:FlR w n rg eb rb N0 ib r s k g ch M E I wr){a:Nat}(ha:a<n.states.length) (hi:Drv.InS n r a):
 FlR w n rg eb rb N0 ib r s k' true ch M E (Drv.updE I a) (wr.setCell ⟨ib,a,none⟩ (.bool true)):=
 ⟨h.mem.only (Only.of_set wr ib a (.bool true)) fun k e=>by rw[e];exact h.gi,by rw[heap_setCell_same wr _ a _ _ (.bool true) h.inb,Drv.bArr_set];rfl,h.gi,h.rdn,h.inn.grow ha hi⟩
theorem FlR.skip {w:World}{n:Drv.NNet}{rg eb:Nat}{rb:Nat→Nat}{N0 ib r s k:Nat}{g ch:Bool}{M:Nat→Nat→Bool}{E I:Nat→Bool}{wr:World}(h:FlR w n rg eb rb N0 ib r s k g ch M E I wr) (hk:∀hk:k<(Drv.edgesAt n s).length,Drv.EdC M E I r (Drv.edgesAt n s)[k]):FlR w n rg eb rb N0 ib r s (k+1) g ch M E I wr:=
 ⟨h.mem,h.inb,h.gi,h.rdn,h.inn.skip hk⟩
def FlT (b:Bool) (ek:Int) (m:Bool):Prop:=(b=true→ek=2∧m=false)∧(b=false→ek=2→m=true)
def FlI (w:World) (n:Drv.NNet) (R rg eb:Nat) (rb:Nat→Nat) (m:Nat) (b:Bool) (M:Nat→Nat→Bool) (E:Nat→Bool) (wr:World):Prop:=
 FlM w n.starts.length rg eb rb M E wr∧Drv.Flo n M E∧(b=true→Drv.opM R M+Drv.opE R E<m)∧(b=false→∃N0,Drv.Rdn n N0 M E false n.starts.length)
def FlG (w:World) (n:Drv.NNet) (nS rg eb:Nat) (rb:Nat→Nat) (N0 ib r m:Nat) (g ch:Bool) (M:Nat→Nat→Bool) (E I:Nat→Bool) (wr:World):Prop:=
 ∃s k,FlR w n rg eb rb N0 ib r s k g ch M E I wr∧(g=true→Drv.opE nS I<m)∧(g=false→s=nS)
def FlS (w:World) (n:Drv.NNet) (nS rg eb:Nat) (rb:Nat→Nat) (N0 ib r N1 s k:Nat) (g ch:Bool) (M:Nat→Nat→Bool) (E I:Nat→Bool) (wr:World):Prop:=
 FlR w n rg eb rb N0 ib r s k g ch M E I wr∧Drv.opE nS I≤N1∧(g=true→Drv.opE nS I<N1)
def FlF (w:World) (n:Drv.NNet) (rg eb:Nat) (rb:Nat→Nat) (a r b:Nat) (M:Nat→Nat→Bool) (E:Nat→Bool) (wr:World):Prop:=
 FlM w n.starts.length rg eb rb M E wr∧Drv.FW (Drv.DirR n) n.starts.length M a r b
theorem FlF.step {w:World}{n:Drv.NNet}{rg eb:Nat}{rb:Nat→Nat}{a r b:Nat}{M:Nat→Nat→Bool}{E:Nat→Bool}{wr:World}(h:FlF w n rg eb rb a r b M E wr) (ha:a<n.starts.length) (hr:r<n.starts.length) (hb:b<n.starts.length) (v:Bool) (hv:v=(M r b || (M r a && M a b))):
 FlF w n rg eb rb a r (b+1) (fun x y=>if x=r∧y=b then v else M x y) E (wr.setCell ⟨rb r,b,none⟩ (.bool v)):=
 ⟨h.1.set hr v,h.2.step ha hr hb (fun x y e=>if_neg e) (by simp only[and_self,if_true];exact hv)⟩
set_option maxHeartbeats 51200000 in
theorem flows_any (w:World) (D:Nat) (n:Drv.NNet) (au:List (List Drv.LSt)) (h:RDrv w D w.heap.size n au) (hok:Drv.OkNet n au):Calls Try.prog 63 #[.pointer (some ⟨D,0,none⟩)] w (FlwP n w):=by
 obtain⟨i4,hi4,hz4,hs4,hy4⟩:=info_parts infoBl
 have hm:=hok.may
 obtain⟨R,hR⟩:∃R,n.starts.length=R:=⟨_,rfl⟩
 obtain⟨nS,hnS⟩:∃m,n.states.length=m:=⟨_,rfl⟩
 have hR1:1≤R:=by rw[←hR];exact hok.starts1
 have hR64:R≤64:=by rw[←hR];exact hok.starts
 have hS6:nS≤1000000:=by rw[←hnS];exact hok.states
 have hst0:=(Drv.may_start hm (show 0<n.starts.length by omega)).1
 have hS1:0<nS:=by omega
 have hUR:n.stops.length=R:=by rw[hok.stops,hR]
 obtain⟨tb,to',tc,htb,d1,ct⟩:=h.starts.nth (show 0<n.starts.length by omega)
 obtain⟨ub,uo,uc,hub,d2,cu⟩:=h.stops.nth (show 0<n.stops.length by omega)
 obtain⟨ZA,zc,d0,hz⟩:=h.states
 obtain⟨zb,zo,_,_,_,_,rfl,hzb,hzx⟩:=hz.at (show 0<n.states.length by omega)
 clear hzx
 have hD:=h.dlt
 rw[hnS]at d0
 rw[hR]at d1
 rw[hUR]at d2
 have HC:=hid (fun(w':World) (hb:Below w.heap.size w w')=>(show w'.cell? ⟨D,0,none⟩=some (.slice (some ⟨zb,zo,none⟩) nS zc)∧w'.cell? ⟨D,1,none⟩=some (.slice (some ⟨tb,to',none⟩) R tc)∧w'.cell? ⟨D,2,none⟩=some (.slice (some ⟨ub,uo,none⟩) R uc)from
  ⟨(hb.cell (p:=⟨D,0,none⟩) hD).trans d0,(hb.cell (p:=⟨D,1,none⟩) hD).trans d1,(hb.cell (p:=⟨D,2,none⟩) hD).trans d2⟩))
 have HT:=hid (fun(r:Nat) (hr:r<R)=>(show∃a b:Nat,Drv.at0 n.starts r=a∧Drv.at0 n.stops r=b∧a<nS∧b<nS∧∀w':World,Below w.heap.size w w'→w'.cell? ⟨tb,to'+r,none⟩=some (.int .i64 a)∧w'.cell? ⟨ub,uo+r,none⟩=some (.int .i64 b)from by
  have hms:=Drv.may_start hm (show r<n.starts.length by omega)
  refine⟨(Drv.at0 n.starts r).toNat,(Drv.at0 n.stops r).toNat,by omega,by omega,by omega,by omega,fun w' hb=>⟨(hb.cell (p:=⟨tb,to'+r,none⟩) htb).trans ?_,(hb.cell (p:=⟨ub,uo+r,none⟩) hub).trans ?_⟩⟩
  ·rw[ct r (by omega),Int.toNat_of_nonneg hms.1.1]
   unfold Drv.at0
   rw[Int.toNat_natCast,List.getD_eq_getElem?_getD,List.getElem?_eq_getElem (by omega)];rfl
  ·rw[cu r (by omega),Int.toNat_of_nonneg hms.2.1.1]
   unfold Drv.at0
   rw[Int.toNat_natCast,List.getD_eq_getElem?_getD,List.getElem?_eq_getElem (by omega)];rfl))
 have HSS:=hid (fun(s:Nat) (hs:s<nS) (w':World) (hb:Below w.heap.size w w')=>(show∃EA ec,w'.cell? ⟨zb,zo+s*3+1,none⟩=some (.slice EA (Drv.edgesAt n s).length ec)∧Reads w' w.heap.size 3 EA (Drv.edgesAt n s).length (flat encEf (Drv.edgesAt n s))from by
  obtain⟨zb',zo',EA,ec,XA,xc,hA,_,_,z2,_,re,_⟩:=hz.at (show s<n.states.length by omega)
  injection hA with hA
  injection hA with hA1 hA2
  subst hA1 hA2
  rw[Drv.edgesAt_mem (show s<n.states.length by omega)]
  exact⟨EA,ec,(hb.cell (p:=⟨zb,zo+s*3+1,none⟩) hzb).trans z2,re.below hb⟩))
 have HES:=hid (fun(s:Nat)=>(show(Drv.edgesAt n s).length≤1000000∧∀e∈Drv.edgesAt n s,(0≤e.to∧e.to<n.states.length)∧0≤e.kind∧e.kind≤3∧0≤e.what∧(e.kind=2→e.what<n.starts.length)from
  ⟨by
   unfold Drv.edgesAt
   rw[List.getD_eq_getElem?_getD]
   cases g:n.states[(s:Int).toNat]? with
   | none=>simp
   | some x=>exact hok.edges x (List.mem_of_getElem? g),fun e he=>by
   obtain⟨x,hx,hxe⟩:=Drv.edgesAt_in he
   exact Drv.may_edge hm hx hxe⟩))
 have hmk1:=mkBools R (by omega)
 have HMK2:=hid (mkBools nS hS6)
 have HM:=hid hm
 have HR:=hid hR
 have HNS:=hid hnS
 clear h hok hst0 hUR ct cu hz hm hR hnS htb hub hzb hD
 go_enter Try.func63,Try.ntmps63
 go_wp2_with fail
 go_loopw[5,6] (fun v i wr=>∃(k:Nat) (rb:Nat→Nat),k≤R∧i= .int .i64 k∧Hid (FlB w R k v rb wr)) (fun _ i _=>R-(intOf i).toNat)
 case atStart=>exact⟨0,_,Nat.zero_le _,rfl,hid (FlB.start w R)⟩
 case round=>
  obtain⟨k,rb,hk,rfl,HB⟩:=hrel
  by_cases hlt:k<R
  ·have hltI:(k:Int)<(R:Int):=by omega
   obtain⟨VA,vc,rfl⟩:=row_form HB.out.own
   obtain⟨w1,hw1⟩:∃x,x=wr.alloc (.cells (Array.replicate R (Value.bool false)) 4):=⟨_,rfl⟩
   have hown:w1.ownsRow w.heap.size 136 1 (.slice VA k vc) k ((List.range k).map fun j=>Value.slice (some ⟨rb j,0,none⟩) R R):=by rw[hw1];exact HB.out.own.alloc _
   have hw1s:w.heap.size≤w1.heap.size:=by rw[hw1];have:=HB.out.below.size;simp;omega
   have HW1:=hid hw1.symm
   have HW1':=hid hw1
   have hk6:k+1≤maxLen:=by simp only[maxLen];omega
   clear hw1 d0 d1 d2
   have hmk:=hmk1 wr
   rw[HW1.out]at hmk
   clear hmk1
   go_wp2_with (at_builtin;go_must (refine wpList_push4 w1 rfl _ _ 157 rfl w.heap.size 136 i4 _ 1 24 Try.underlying157 hi4 hz4 hs4 hy4 rfl (by omega) (.slice VA k vc) k _ rfl hown [.slice (some ⟨wr.heap.size,0,none⟩) R R] 1 w1.heap.size rfl rfl rfl (by simp[Value.oneCell']) Nat.zero_lt_one hk6 (by omega) hw1s ?_);intro g9 c9 w9 hown9 hg9 ho9)
   have HN:=hid (HB.out.push HW1'.out hown9 ho9)
   go_roundw
   case rel=>exact⟨k+1,_,by omega,by go_num,HN⟩
   case measure=>simp[intOf];omega
  ·have hkR:R=k:=by omega
   subst hkR
   have hltI:¬(R:Int)<(R:Int):=by omega
   obtain⟨w1,hw1⟩:∃x,x=wr.alloc (.cells (Array.replicate R (Value.bool false)) 4):=⟨_,rfl⟩
   obtain⟨rg,vc,rfl,hF⟩:=HB.out.done (by omega) hw1
   have HF:=hid hF
   have HW1:=hid hw1.symm
   clear hw1 hF d0 d1 d2
   go_upto_region 8 with fail
   rw[HW1.out]
   generalize wr.heap.size=eb at HF⊢
   clear HW1 HB hmk1
   have START:Hid (FlI w n R rg eb rb (R*R+R+1) true (fun _ _=>false) (fun _=>false) w1):=
    hid ⟨by rw[HR.out];exact HF.out,Drv.Flo.start n,fun _=>by have:=Drv.opM_le R (fun _ _=>false);have:=Drv.opE_le R (fun _=>false);omega,fun e=>(by cases e)⟩
   clear HF
   go_wp2_with fail
   go_loopg [8] (R*R+R+1) (fun m c wx=>∃(b:Bool) (M:Nat→Nat→Bool) (E:Nat→Bool),c= .bool b∧Hid (FlI w n R rg eb rb m b M E wx))
   case atStart=>exact⟨true,_,_,rfl,START⟩
   case round=>
    clear START
    obtain⟨b,M,E,rfl,HI⟩:=hrel
    cases b with
    | true=>
     as_aux_lemma=>
      have hN:=HI.out.2.2.1 rfl
      obtain⟨N0,hN0⟩:∃N0,Drv.opM R M+Drv.opE R E=N0:=⟨_,rfl⟩
      have HS0:Hid (FlM w n.starts.length rg eb rb M E wr∧Drv.Rdn n N0 M E false 0):=hid ⟨HI.out.1,Drv.Rdn.begin HI.out.2.1 (by rw[HR.out];omega)⟩
      rw[hN0]at hN
      clear hN0 HI
      go_wp2_with fail
      go_loopw[8,9] (fun c i wy=>∃(r:Nat) (ch:Bool) (M:Nat→Nat→Bool) (E:Nat→Bool),r≤R∧c= .bool ch∧i= .int .i64 r∧Hid (FlM w n.starts.length rg eb rb M E wy∧Drv.Rdn n N0 M E ch r)) (fun _ i _=>R-(intOf i).toNat)
      case atStart=>exact⟨0,false,M,E,Nat.zero_le _,rfl,rfl,HS0⟩
      case round=>
       rename World=>wy
       clear HS0
       obtain⟨r,ch,M,E,hr,rfl,rfl,HI⟩:=hrel
       by_cases hrl:r<R
       ·have hrI:(r:Int)<(R:Int):=by omega
        have hrn:r<n.starts.length:=by rw[HR.out];exact hrl
        obtain⟨a,b,ha,hb,haS,hbS,hTT⟩:=HT.out r hrl
        have HA:=hid ha
        have HB:=hid hb
        have HTT:=hid hTT
        obtain⟨d0,d1,d2⟩:=HC.out wy HI.out.1.below
        obtain⟨t1,t2⟩:=hTT wy HI.out.1.below
        obtain⟨w2,hw2⟩:∃x,x=wy.alloc (.cells (Array.replicate nS (Value.bool false)) 4):=⟨_,rfl⟩
        have hF2:FlM w n.starts.length rg eb rb M E w2:=HI.out.1.still (by rw[hw2];exact Only.of_below (below_new _ _))
        have T2:w2.heap[wy.heap.size]? =some (.cells (Array.replicate nS (Value.bool false)) 4 (0,0)):=by rw[hw2];exact heap_alloc_new _ _
        have hgi:eb<wy.heap.size:=heap_lt HI.out.1.emp
        have haI:(a:Int)<(nS:Int):=by omega
        have HW2:=hid hw2.symm
        have hmk:=HMK2.out wy
        rw[HW2.out]at hmk
        have HF2:=hid hF2
        have HT2:=hid T2
        clear hw2 hF2 T2 ha hb hTT
        go_upto_region 15 with fail
        clear d0 d1 d2 t1 t2 hmk
        generalize hib:wy.heap.size=ib at HT2 hgi⊢
        obtain⟨d0,d1,d2⟩:=HC.out w2 HF2.out.below
        obtain⟨t1,t2⟩:=HTT.out w2 HF2.out.below
        have zf:=Lib.frozen_of_heap HT2.out a
        have zc0:w2.cell? ⟨ib,a,none⟩=some (.bool false):=by rw[Lib.cell_of_heap HT2.out];simp[haS]
        have hF3:FlR w n rg eb rb N0 ib r 0 0 true ch M E (Drv.updE (fun _=>false) a) (w2.setCell ⟨ib,a,none⟩ (.bool true)):=by
         refine⟨HF2.out.only (Only.of_set w2 ib a (.bool true)) fun k e=>by rw[e];exact hgi,?_,hgi,HI.out.2,?_⟩
         ·rw[heap_setCell_same w2 _ a _ _ (.bool true) HT2.out,HNS.out,←Drv.bArr_repl,Drv.bArr_set];rfl
         ·have h1:=Drv.Inn.begin (M:=M) (E:=E) HM.out hrn
          rw[HA.out,Int.toNat_natCast]at h1
          exact h1
        have HF3:=hid hF3
        clear hF3 HW2 hib
        go_upto_region 16 with fail
        generalize w2.setCell ⟨ib,a,none⟩ (.bool true)=w3 at HF3⊢
        clear zf zc0 d0 d1 d2 t1 t2 HT2 HF2
        have START:Hid (FlG w n nS rg eb rb N0 ib r (nS+1) true ch M E (Drv.updE (fun _=>false) a) w3):=hid ⟨0,0,HF3.out,fun _=>by have:=Drv.opE_le nS (Drv.updE (fun _=>false) a);omega,fun e=>(by cases e)⟩
        go_wp2_with fail
        go_loopg [8,11] (nS+1) (fun m c gv wq=>∃(ch g:Bool) (M:Nat→Nat→Bool) (I:Nat→Bool),c= .bool ch∧gv= .bool g∧Hid (FlG w n nS rg eb rb N0 ib r m g ch M E I wq))
        case atStart=>exact⟨ch,true,M,_,rfl,rfl,START⟩
        case round=>
         rename World=>wq
         clear START
         obtain⟨ch,g,M,I,rfl,rfl,HQ⟩:=hrel
         obtain⟨s,k,hQ,hQ1,hQ2⟩:=HQ.out
         clear HQ
         cases g with
         | true=>
          have hq1:=hQ1 rfl
          obtain⟨N1,hN1⟩:∃N1,Drv.opE nS I=N1:=⟨_,rfl⟩
          have HS1:Hid (FlS w n nS rg eb rb N0 ib r N1 0 0 false ch M E I wq):=hid ⟨⟨hQ.mem,hQ.inb,hQ.gi,hQ.rdn,hQ.inn.pass⟩,by omega,fun e=>(by cases e)⟩
          rw[hN1]at hq1
          clear hQ hQ1 hQ2 hN1
          go_wp2_with fail
          go_loopw[8,11,12] (fun c gv sv wz=>∃(s:Nat) (ch g:Bool) (M:Nat→Nat→Bool) (I:Nat→Bool),s≤nS∧c= .bool ch∧gv= .bool g∧sv= .int .i64 s∧Hid (FlS w n nS rg eb rb N0 ib r N1 s 0 g ch M E I wz)) (fun _ _ s _=>nS-(intOf s).toNat)
          case atStart=>exact⟨0,ch,false,M,I,Nat.zero_le _,rfl,rfl,rfl,HS1⟩
          case round=>
           rename World=>wz
           clear HS1
           obtain⟨s,ch,g,M,I,hs,rfl,rfl,rfl,HZ⟩:=hrel
           by_cases hsl:s<nS
           ·have hsI:(s:Int)<(nS:Int):=by omega
            obtain⟨hel,hee⟩:=HES.out s
            obtain⟨nE,hnE⟩:∃m,(Drv.edgesAt n s).length=m:=⟨_,rfl⟩
            rw[hnE]at hel
            have HEE:=hid hee
            have HNE:=hid hnE
            clear hee hnE
            go_wp2_with fail
            go_loopw[8,11,13] (fun c gv kv wk=>∃(k:Nat) (ch g:Bool) (M:Nat→Nat→Bool) (I:Nat→Bool),k≤nE∧c= .bool ch∧gv= .bool g∧kv= .int .i64 k∧Hid (FlS w n nS rg eb rb N0 ib r N1 s k g ch M E I wk)) (fun _ _ k _=>nE-(intOf k).toNat)
            case atStart=>exact⟨0,ch,g,M,I,Nat.zero_le _,rfl,rfl,rfl,HZ⟩
            case round=>
             rename World=>wk
             clear HZ
             obtain⟨k,ch,g,M,I,hk,rfl,rfl,rfl,HK⟩:=hrel
             obtain⟨d0,d1,d2⟩:=HC.out wk HK.out.1.mem.below
             obtain⟨EA,ec,z1,re⟩:=HSS.out s hsl wk HK.out.1.mem.below
             rw[HNE.out]at z1 re
             have RE:=hid re
             clear re
             by_cases hkl:k<nE
             ·have hkI:(k:Int)<(nE:Int):=by omega
              have yI:wk.cell? ⟨ib,s,none⟩=some (.bool (I s)):=by rw[Lib.cell_of_heap HK.out.1.inb,Drv.bArr_get (by rw[HNS.out];exact hsl)]
              cases hIs:I s with
              | false=>
               rw[hIs]at yI
               have HNX:Hid (FlS w n nS rg eb rb N0 ib r N1 (s+1) 0 g ch M E I wk):=hid ⟨⟨HK.out.1.mem,HK.out.1.inb,HK.out.1.gi,HK.out.1.rdn,HK.out.1.inn.next (.inl hIs)⟩,HK.out.2⟩
               clear HK hIs
               go_wp2_with fail
               go_roundw
               case rel=>exact⟨s+1,ch,g,M,I,by omega,rfl,rfl,by go_num,HNX⟩
               case measure=>simp[intOf];omega
              | true=>
               as_aux_lemma=>
                rw[hIs]at yI
                have hks:k<(Drv.edgesAt n s).length:=by rw[HNE.out];exact hkl
                obtain⟨xb,xo,rfl,hxb,ce⟩:=RE.out.2 (by omega)
                have f0:=ce _ _ (flat_get encEf 3 (fun _=>rfl) (Drv.edgesAt n s) k hks 0 (by omega))
                have f1:=ce _ _ (flat_get encEf 3 (fun _=>rfl) (Drv.edgesAt n s) k hks 1 (by omega))
                have f2:=ce _ _ (flat_get encEf 3 (fun _=>rfl) (Drv.edgesAt n s) k hks 2 (by omega))
                have x0:wk.cell? ⟨xb,xo+(k*3+0),none⟩=some (.int .i64 (Drv.edgesAt n s)[k].kind):=f0
                have x1:wk.cell? ⟨xb,xo+(k*3+1),none⟩=some (.int .i64 (Drv.edgesAt n s)[k].what):=f1
                have x2:wk.cell? ⟨xb,xo+(k*3+2),none⟩=some (.int .i64 (Drv.edgesAt n s)[k].to):=f2
                rw[Nat.add_zero]at x0
                rw[←Nat.add_assoc]at x1 x2
                have hb4:=HEE.out _ (List.getElem_mem hks)
                have HDIR:=hid (fun h2=>HK.out.1.inn.dir hIs (List.getElem_mem hks) h2)
                have HSTP:=hid (fun h1 h2=>HK.out.1.inn.step hIs (List.getElem_mem hks) h1 h2)
                have HSKP:=hid (fun(g ch:Bool) (M:Nat→Nat→Bool) (wx:World) (h:FlR w n rg eb rb N0 ib r s k g ch M E I wx) (hc:Drv.EdC M E I r (Drv.edgesAt n s)[k])=>h.skip (fun _=>hc))
                generalize (Drv.edgesAt n s)[k]=e at x0 x1 x2 hb4 HDIR HSTP HSKP
                obtain⟨ek,ew,et⟩:=e
                simp only at x0 x1 x2 hb4 HDIR HSTP
                obtain⟨tn,rfl⟩:∃tn:Nat,et=tn:=⟨et.toNat,by omega⟩
                have htn:tn<n.states.length:=by omega
                have htnS:tn<nS:=by rw[←HNS.out];exact htn
                have htnI:(tn:Int)<(nS:Int):=by omega
                obtain⟨w4,hw4⟩:∃x,x=wk.alloc (.cells #[.int .i64 ek,.int .i64 ew,.int .i64 tn] 93):=⟨_,rfl⟩
                have T4:w4.heap[wk.heap.size]? =some (.cells #[.int .i64 ek,.int .i64 ew,.int .i64 tn] 93 (0,0)):=by rw[hw4];exact heap_alloc_new _ _
                have HK4:=hid (HK.out.1.still (w':=w4) (by rw[hw4];exact Only.of_below (below_new _ _)))
                have HK2:=hid HK.out.2
                have HW4:=hid hw4.symm
                have HT4:=hid T4
                clear hw4 T4 HK f0 f1 f2 ce hks
                go_upto_region 26 with fail
                rw[HW4.out]
                generalize wk.heap.size=g4 at HT4⊢
                clear HW4 x0 x1 x2 d0 d1 d2 z1 yI
                have hrn':=hrn
                obtain⟨hkd0,hkd1⟩:0≤ek∧ek≤3:=⟨hb4.2.1,hb4.2.2.1⟩
                have HB4:=hid hb4
                clear hb4
                go_cut[111]from 66 to 145 (fun t wx=>∃b:Bool,t= .bool b∧Hid (Only (fun _=>False) w4 wx∧FlT b ek (M r ew.toNat)))
                case first=>
                 as_aux_lemma=>
                  have y0:w4.cell? ⟨g4,0,none⟩=some (.int .i64 ek):=by rw[Lib.cell_of_heap HT4.out];rfl
                  have y1:w4.cell? ⟨g4,1,none⟩=some (.int .i64 ew):=by rw[Lib.cell_of_heap HT4.out];rfl
                  by_cases h2:ek=2
                  ·obtain⟨wn,hwn⟩:∃wn:Nat,ew=wn:=⟨ew.toNat,by have:=HB4.out.2.2.2.1;omega⟩
                   subst hwn
                   have hwR:wn<R:=by have:=HB4.out.2.2.2.2 h2;rw[HR.out]at this;omega
                   have hwI:(wn:Int)<(R:Int):=by omega
                   obtain⟨b0,b1,_⟩:=HK4.out.mem.bit (q:=wn) hrn (by rw[HR.out];exact hwR)
                   rw[HR.out]at b0
                   subst h2
                   obtain⟨mb,hmb⟩:∃mb,M r wn=mb:=⟨_,rfl⟩
                   rw[hmb]at b1
                   have HMB:=hid hmb
                   clear hmb
                   go_quiet (fail)
                   go_wp2_with fail
                   go_meet
                   case rel=>exact⟨!mb,rfl,hid ⟨(Only.refl (fun _=>False) w4).none_drew nq,fun e=>⟨rfl,by rw[Int.toNat_natCast,HMB.out];simpa using e⟩,fun e _=>by rw[Int.toNat_natCast,HMB.out];simpa using e⟩⟩
                  ·have h2b:(ek==2)=false:=by rw[beq_eq_false_iff_ne];exact h2
                   have H2:=hid h2
                   clear h2
                   go_quiet (fail)
                   go_wp2_with fail
                   go_meet
                   case rel=>exact⟨false,rfl,hid ⟨(Only.refl (fun _=>False) w4).none_drew nq,fun e=>(by cases e),fun _ e=>absurd e H2.out⟩⟩
                case rest=>
                 rename World=>w5
                 obtain⟨b,rfl,HCU⟩:=hcut
                 have HK5:=hid (HK4.out.still HCU.out.1)
                 have HT5:=hid ((HCU.out.1.block g4 (heap_lt HT4.out) id).trans HT4.out)
                 have HCB:=hid HCU.out.2
                 clear HCU HK4 HT4
                 go_upto_if 111 with fail
                 go_cut[8]from 66 to 145 (fun c wx=>∃(ch:Bool) (M:Nat→Nat→Bool),c= .bool ch∧Hid (FlR w n rg eb rb N0 ib r s k g ch M E I wx∧wx.heap[g4]? =some (.cells #[.int .i64 ek,.int .i64 ew,.int .i64 tn] 93 (0,0))∧FlT false ek (M r ew.toNat)))
                 case first=>
                  cases b with
                  | false=>
                   go_wp2_with fail
                   go_meet
                   case rel=>exact⟨ch,M,rfl,hid ⟨HK5.out,HT5.out,HCB.out⟩⟩
                  | true=>
                   obtain⟨hk2,hMf⟩:=HCB.out.1 rfl
                   subst hk2
                   obtain⟨wn,hwn⟩:∃wn:Nat,ew=wn:=⟨ew.toNat,by have:=HB4.out.2.2.2.1;omega⟩
                   subst hwn
                   rw[Int.toNat_natCast]at hMf
                   have hwN:wn<n.starts.length:=by have:=HB4.out.2.2.2.2 rfl;omega
                   have hwR:wn<R:=by rw[←HR.out];exact hwN
                   have hwI:(wn:Int)<(R:Int):=by omega
                   go_upto_region 27 with fail
                   refine still_tail 7 (by kernel_rfl) (by kernel_rfl) ?_
                   intro w6 HW6
                   have ho6:Only (fun _=>False) w5 w6:=by rw[HW6.out];exact⟨rfl,rfl,rfl,Nat.le_refl _,fun _ _ _=>rfl⟩
                   clear HW6
                   have h6:=HK5.out.still ho6
                   have T6:=(ho6.block g4 (heap_lt HT5.out) id).trans HT5.out
                   have y1:w6.cell? ⟨g4,1,none⟩=some (.int .i64 wn):=by rw[Lib.cell_of_heap T6];rfl
                   obtain⟨b0,b1,bz⟩:=h6.mem.bit hrn hwN
                   rw[HR.out]at b0
                   have H7:=hid (h6.mark hrn hwN (HDIR.out rfl) hMf)
                   have HT7:=hid ((Only.block (Only.of_set w6 (rb r) wn (.bool true)) g4 (heap_lt T6) (not_cells T6 (h6.mem.row r hrn) (by decide))).trans T6)
                   have HFT:Hid (FlT false 2 (Drv.updM M r wn r (wn:Int).toNat)):=hid ⟨fun e=>(by cases e),fun _ _=>by rw[Int.toNat_natCast];exact Drv.updM_self _ _ _⟩
                   clear ho6 h6 T6 hMf
                   simp only[List.take_succ_cons,List.take_zero,List.drop_succ_cons,List.drop_zero]
                   repeat still_step
                   refine wpStill_nil ?_
                   go_wp2_with fail
                   go_meet
                   case rel=>exact⟨true,_,rfl,hid ⟨H7.out,HT7.out,HFT.out⟩⟩
                 case rest=>
                  rename World=>w6
                  obtain⟨ch,M,rfl,HCU⟩:=hcut
                  have y0:w6.cell? ⟨g4,0,none⟩=some (.int .i64 ek):=by rw[Lib.cell_of_heap HCU.out.2.1];rfl
                  have y1:w6.cell? ⟨g4,1,none⟩=some (.int .i64 ew):=by rw[Lib.cell_of_heap HCU.out.2.1];rfl
                  have y2:w6.cell? ⟨g4,2,none⟩=some (.int .i64 tn):=by rw[Lib.cell_of_heap HCU.out.2.1];rfl
                  have yT:w6.cell? ⟨ib,tn,none⟩=some (.bool (I tn)):=by rw[Lib.cell_of_heap HCU.out.1.inb,Drv.bArr_get htn]
                  have zT:=Lib.frozen_of_heap HCU.out.1.inb tn
                  have HFT:=hid HCU.out.2.2
                  by_cases hk1:ek=1
                  ·have d1:(ek==1)=true:=by rw[beq_iff_eq];exact hk1
                   have HNX:Hid (FlS w n nS rg eb rb N0 ib r N1 s (k+1) g ch M E I w6):=hid ⟨HSKP.out g ch M w6 HCU.out.1 ⟨HFT.out.2 rfl,fun h=>absurd hk1 h⟩,HK2.out⟩
                   clear hk1 HCU HFT
                   go_wp2_with fail
                   go_roundw
                   case rel=>exact⟨k+1,ch,g,M,I,by omega,rfl,rfl,by go_num,HNX⟩
                   case measure=>simp[intOf];omega
                  ·have d1:(ek==1)=false:=by rw[beq_eq_false_iff_ne];exact hk1
                   by_cases hk2:ek=2
                   ·have d2:(ek==2)=true:=by rw[beq_iff_eq];exact hk2
                    obtain⟨wn,hwn⟩:∃wn:Nat,ew=wn:=⟨ew.toNat,by have:=HB4.out.2.2.2.1;omega⟩
                    subst hwn
                    have hwN:wn<n.starts.length:=by have:=HB4.out.2.2.2.2 hk2;omega
                    have hwR:wn<R:=by rw[←HR.out];exact hwN
                    have hwI:(wn:Int)<(R:Int):=by omega
                    have yE:=(HCU.out.1.mem.ebit hwN).1
                    cases hEw:E wn with
                    | false=>
                     rw[hEw]at yE
                     have HNX:Hid (FlS w n nS rg eb rb N0 ib r N1 s (k+1) g ch M E I w6):=hid ⟨HSKP.out g ch M w6 HCU.out.1 ⟨HFT.out.2 rfl,fun _ h=>by have:=h hk2;rw[Int.toNat_natCast,hEw]at this;cases this⟩,HK2.out⟩
                     clear hk1 hk2 hEw HCU HFT
                     go_wp2_with fail
                     go_roundw
                     case rel=>exact⟨k+1,ch,g,M,I,by omega,rfl,rfl,by go_num,HNX⟩
                     case measure=>simp[intOf];omega
                    | true=>
                     rw[hEw]at yE
                     have HEM:=hid (HCU.out.1.rdn.flo.e wn hEw)
                     have HK1:=hid hk1
                     clear hk1 hk2 hEw
                     cases hIt:I tn with
                     | true=>
                      rw[hIt]at yT
                      have HNX:Hid (FlS w n nS rg eb rb N0 ib r N1 s (k+1) g ch M E I w6):=hid ⟨HSKP.out g ch M w6 HCU.out.1 ⟨HFT.out.2 rfl,fun _ _=>by simpa using hIt⟩,HK2.out⟩
                      clear hIt HCU HFT
                      go_wp2_with fail
                      go_roundw
                      case rel=>exact⟨k+1,ch,g,M,I,by omega,rfl,rfl,by go_num,HNX⟩
                      case measure=>simp[intOf];omega
                     | false=>
                      rw[hIt]at yT
                      have HNX:Hid (FlS w n nS rg eb rb N0 ib r N1 s (k+1) true ch M E (Drv.updE I tn) (w6.setCell ⟨ib,tn,none⟩ (.bool true))):=hid ⟨HCU.out.1.grow htn (HSTP.out HK1.out fun _=>HEM.out),by have:=Drv.opE_less htnS hIt;have:=HK2.out.1;omega,fun _=>by have:=Drv.opE_less htnS hIt;have:=HK2.out.1;omega⟩
                      clear hIt HCU HFT
                      go_wp2_with fail
                      go_roundw
                      case rel=>exact⟨k+1,ch,true,M,_,by omega,rfl,rfl,by go_num,HNX⟩
                      case measure=>simp[intOf];omega
                   ·have d2:(ek==2)=false:=by rw[beq_eq_false_iff_ne];exact hk2
                    have HK1:=hid hk1
                    have HKK:=hid hk2
                    clear hk1 hk2
                    cases hIt:I tn with
                    | true=>
                     rw[hIt]at yT
                     have HNX:Hid (FlS w n nS rg eb rb N0 ib r N1 s (k+1) g ch M E I w6):=hid ⟨HSKP.out g ch M w6 HCU.out.1 ⟨HFT.out.2 rfl,fun _ _=>by simpa using hIt⟩,HK2.out⟩
                     clear hIt HCU HFT
                     go_wp2_with fail
                     go_roundw
                     case rel=>exact⟨k+1,ch,g,M,I,by omega,rfl,rfl,by go_num,HNX⟩
                     case measure=>simp[intOf];omega
                    | false=>
                     rw[hIt]at yT
                     have HNX:Hid (FlS w n nS rg eb rb N0 ib r N1 s (k+1) true ch M E (Drv.updE I tn) (w6.setCell ⟨ib,tn,none⟩ (.bool true))):=hid ⟨HCU.out.1.grow htn (HSTP.out HK1.out fun h=>absurd h HKK.out),by have:=Drv.opE_less htnS hIt;have:=HK2.out.1;omega,fun _=>by have:=Drv.opE_less htnS hIt;have:=HK2.out.1;omega⟩
                     clear hIt HCU HFT
                     go_wp2_with fail
                     go_roundw
                     case rel=>exact⟨k+1,ch,true,M,_,by omega,rfl,rfl,by go_num,HNX⟩
                     case measure=>simp[intOf];omega
             ·have hkn:nE=k:=by omega
              subst hkn
              have hkI:¬(nE:Int)<(nE:Int):=by omega
              have HNX:Hid (FlS w n nS rg eb rb N0 ib r N1 (s+1) 0 g ch M E I wk):=hid ⟨⟨HK.out.1.mem,HK.out.1.inb,HK.out.1.gi,HK.out.1.rdn,HK.out.1.inn.next (.inr (by rw[HNE.out];exact Nat.le_refl _))⟩,HK.out.2⟩
              clear HK
              go_wp2_with fail
              go_roundw
              case rel=>exact⟨s+1,ch,g,M,I,by omega,rfl,rfl,by go_num,HNX⟩
              case measure=>simp[intOf];omega
           ·have hsn:nS=s:=by omega
            subst hsn
            have hsI:¬(nS:Int)<(nS:Int):=by omega
            have HG:Hid (FlG w n nS rg eb rb N0 ib r N1 g ch M E I wz):=hid ⟨nS,0,HZ.out.1,HZ.out.2.2,fun _=>rfl⟩
            clear HZ
            go_wp2_with fail
            go_roundg N1
            case measure=>exact hq1
            case rel=>exact⟨ch,g,M,I,rfl,rfl,HG⟩
         | false=>
          as_aux_lemma=>
           have hs9:=(hQ2 rfl).symm
           subst hs9
           have hdone:=fun(h:I (Drv.at0 n.stops r).toNat=true→E r=true)=>Drv.Inn.done (E:=E) (M:=M) (I:=I) (k:=k) (r:=r) (n:=n) (by have:=hQ.inn;rw[←HNS.out]at this;exact this) HM.out hrn h
           rw[HB.out,Int.toNat_natCast]at hdone
           have hemp:=fun(h:I b=true)=>(show Drv.Emp n r from by
            have h1:=(hQ.inn.snd b h).2
            unfold Drv.Emp
            rw[HB.out]
            exact h1)
           have yI:wq.cell? ⟨ib,b,none⟩=some (.bool (I b)):=by rw[Lib.cell_of_heap hQ.inb,Drv.bArr_get (by rw[HNS.out];exact hbS)]
           obtain⟨yE,zE⟩:=hQ.mem.ebit hrn
           obtain⟨d0,d1,d2⟩:=HC.out wq hQ.mem.below
           obtain⟨t1,t2⟩:=HTT.out wq hQ.mem.below
           have hbI:(b:Int)<(nS:Int):=by omega
           have HQ:=hid hQ
           have HD:=hid hdone
           have HE:=hid hemp
           clear hQ hQ1 hQ2 hdone hemp
           cases hIb:I b with
           | false=>
            rw[hIb]at yI
            have HNX:Hid (FlM w n.starts.length rg eb rb M E wq∧Drv.Rdn n N0 M E ch (r+1)):=hid ⟨HQ.out.mem,HQ.out.rdn.next fun _=>HD.out fun e=>(by rw[hIb]at e;cases e)⟩
            clear HQ HD HE hIb
            go_wp2_with fail
            go_roundw
            case rel=>exact⟨r+1,ch,M,E,by omega,rfl,by go_num,HNX⟩
            case measure=>simp[intOf];omega
           | true=>
            rw[hIb]at yI
            cases hEr:E r with
            | true=>
             rw[hEr]at yE
             have HNX:Hid (FlM w n.starts.length rg eb rb M E wq∧Drv.Rdn n N0 M E ch (r+1)):=hid ⟨HQ.out.mem,HQ.out.rdn.next fun _=>HD.out fun e=>hEr⟩
             clear HQ HD HE hIb hEr
             go_wp2_with fail
             go_roundw
             case rel=>exact⟨r+1,ch,M,E,by omega,rfl,by go_num,HNX⟩
             case measure=>simp[intOf];omega
            | false=>
             rw[hEr]at yE
             have HNX:Hid (FlM w n.starts.length rg eb rb M (Drv.updE E r) (wq.setCell ⟨eb,r,none⟩ (.bool true))∧Drv.Rdn n N0 M (Drv.updE E r) true (r+1)):=hid ⟨HQ.out.mem.setE r,(HQ.out.rdn.emp hrn (HE.out hIb) hEr).any _⟩
             clear HQ HD HE hIb hEr
             go_wp2_with fail
             go_roundw
             case rel=>exact⟨r+1,true,M,Drv.updE E r,by omega,rfl,by go_num,HNX⟩
             case measure=>simp[intOf];omega
       ·have hrR:R=r:=by omega
        subst hrR
        have hN2:=hN
        have HFIN:Hid (FlI w n R rg eb rb N0 ch M E wy):=hid ⟨HI.out.1,HI.out.2.flo,fun e=>by have:=HI.out.2.lt e;rw[HR.out]at this;exact this,fun e=>by subst e;exact⟨N0,by rw[HR.out];exact HI.out.2⟩⟩
        clear HI
        go_wp2_with fail
        go_roundg N0
        case measure=>exact hN2
        case rel=>exact⟨ch,M,E,rfl,HFIN⟩
    | false=>
     as_aux_lemma=>
      obtain⟨N0,hRd⟩:=HI.out.2.2.2 rfl
      have HALL:=hid (hRd.all HM.out).1
      have HS2:Hid (FlF w n rg eb rb 0 0 0 M E wr):=hid ⟨HI.out.1,hRd.fw HM.out⟩
      clear HI hRd
      go_wp2_with fail
      go_loopw[15] (fun av wa=>∃(a:Nat) (M:Nat→Nat→Bool),a≤R∧av= .int .i64 a∧Hid (FlF w n rg eb rb a 0 0 M E wa)) (fun a _=>R-(intOf a).toNat)
      case atStart=>exact⟨0,M,Nat.zero_le _,rfl,HS2⟩
      case round=>
       rename World=>wa
       clear HS2
       obtain⟨a,M,ha,rfl,HA⟩:=hrel
       by_cases hal:a<R
       ·have haI:(a:Int)<(R:Int):=by omega
        have haN:a<n.starts.length:=by rw[HR.out];exact hal
        go_wp2_with fail
        go_loopw[16] (fun rv wb=>∃(r:Nat) (M:Nat→Nat→Bool),r≤R∧rv= .int .i64 r∧Hid (FlF w n rg eb rb a r 0 M E wb)) (fun r _=>R-(intOf r).toNat)
        case atStart=>exact⟨0,M,Nat.zero_le _,rfl,HA⟩
        case round=>
         rename World=>wb
         clear HA
         obtain⟨r,M,hr,rfl,HB⟩:=hrel
         by_cases hrl:r<R
         ·have hrI:(r:Int)<(R:Int):=by omega
          have hrN:r<n.starts.length:=by rw[HR.out];exact hrl
          go_wp2_with fail
          go_loopw[17] (fun bv wc=>∃(b:Nat) (M:Nat→Nat→Bool),b≤R∧bv= .int .i64 b∧Hid (FlF w n rg eb rb a r b M E wc)) (fun b _=>R-(intOf b).toNat)
          case atStart=>exact⟨0,M,Nat.zero_le _,rfl,HB⟩
          case round=>
           rename World=>wc
           clear HB
           obtain⟨b,M,hb,rfl,HC⟩:=hrel
           by_cases hbl:b<R
           ·have hbI:(b:Int)<(R:Int):=by omega
            have hbN:b<n.starts.length:=by rw[HR.out];exact hbl
            go_upto_region 44 with fail
            refine still_tail 31 (by kernel_rfl) (by kernel_rfl) ?_
            intro w6 HW6
            have ho6:Only (fun _=>False) wc w6:=by rw[HW6.out];exact⟨rfl,rfl,rfl,Nat.le_refl _,fun _ _ _=>rfl⟩
            clear HW6
            have H6:Hid (FlF w n rg eb rb a r b M E w6):=hid ⟨HC.out.1.still ho6,HC.out.2⟩
            clear HC ho6
            obtain⟨b0,b1,bz⟩:=H6.out.1.bit hrN hbN
            obtain⟨_,b2,_⟩:=H6.out.1.bit hrN haN
            obtain⟨b3,b4,_⟩:=H6.out.1.bit haN hbN
            rw[HR.out]at b0 b3
            simp only[List.take_succ_cons,List.take_zero,List.drop_succ_cons,List.drop_zero]
            cases h1:M r b with
            | true=>
             as_aux_lemma=>
              rw[h1]at b1
              refine Boxd.out ?_
              have HN:=hid (H6.out.step haN hrN hbN true (by rw[h1];rfl))
              clear H6 h1
              repeat (refine wpStill_step4 (fun K hK=>?_);go_simp;refine hK _ ?_;clear hK K)
              refine⟨wpStill_nil ?_⟩
              go_wp2_with fail
              go_roundw
              case rel=>exact⟨b+1,_,by omega,by go_num,HN⟩
              case measure=>simp[intOf];omega
            | false=>
             rw[h1]at b1
             cases h2:M r a with
             | true=>
              as_aux_lemma=>
               rw[h2]at b2
               refine Boxd.out ?_
               have HN:=hid (H6.out.step haN hrN hbN (M a b) (by rw[h1,h2];rfl))
               clear H6 h1 h2
               generalize M a b=mv at b4 HN
               repeat (refine wpStill_step4 (fun K hK=>?_);go_simp;refine hK _ ?_;clear hK K)
               refine⟨wpStill_nil ?_⟩
               go_wp2_with fail
               go_roundw
               case rel=>exact⟨b+1,_,by omega,by go_num,HN⟩
               case measure=>simp[intOf];omega
             | false=>
              as_aux_lemma=>
               rw[h2]at b2
               refine Boxd.out ?_
               have HN:=hid (H6.out.step haN hrN hbN false (by rw[h1,h2];rfl))
               clear H6 h1 h2
               repeat (refine wpStill_step4 (fun K hK=>?_);go_simp;refine hK _ ?_;clear hK K)
               refine⟨wpStill_nil ?_⟩
               go_wp2_with fail
               go_roundw
               case rel=>exact⟨b+1,_,by omega,by go_num,HN⟩
               case measure=>simp[intOf];omega
           ·have hbR:R=b:=by omega
            subst hbR
            have hbI:¬(R:Int)<(R:Int):=by omega
            have HN:Hid (FlF w n rg eb rb a (r+1) 0 M E wc):=hid ⟨HC.out.1,Drv.FW.row (by have:=HC.out.2;rw[←HR.out]at this;exact this)⟩
            clear HC
            go_wp2_with fail
            go_roundw
            case rel=>exact⟨r+1,M,by omega,by go_num,HN⟩
            case measure=>simp[intOf];omega
         ·have hrR:R=r:=by omega
          subst hrR
          have hrI:¬(R:Int)<(R:Int):=by omega
          have HN:Hid (FlF w n rg eb rb (a+1) 0 0 M E wb):=hid ⟨HB.out.1,Drv.FW.round (by have:=HB.out.2;rw[←HR.out]at this;exact this)⟩
          clear HB
          go_wp2_with fail
          go_roundw
          case rel=>exact⟨a+1,M,by omega,by go_num,HN⟩
          case measure=>simp[intOf];omega
       ·have haR:R=a:=by omega
        subst haR
        have haI:¬(R:Int)<(R:Int):=by omega
        have HN:Hid (FlwP n w (.returned (.tuple #[.slice (some ⟨rg,0,none⟩) R vc,.slice (some ⟨eb,0,none⟩) R R])) wa):=hid ⟨rg,vc,eb,rb,M,E,by rw[HR.out],HA.out.1,Drv.FW.known (by have:=HA.out.2;rw[←HR.out]at this;exact this) HALL.out HM.out⟩
        clear HA
        go_wp2_with fail
        go_ret2
        exact HN.out
end Go.Proofs.Ytgflanlniejflaa
