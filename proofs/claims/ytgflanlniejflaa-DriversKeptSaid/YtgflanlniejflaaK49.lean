/-
  Drivers: Sst, Twn (texts joined).
-/
import Derived.Deep.DeepAppendRoom
import Derived.Lib.QuietBelow
import Derived.Test.YtgflanlniejflaaK22
import Derived.Test.YtgflanlniejflaaK33
namespace Go.Proofs.Ytgflanlniejflaa
open Go.RowKit
set_option maxRecDepth 100000
def SstP (b:Bool) (w:World) (e:Ending) (w':World):Prop:=e= .returned (.bool b)∧Below w.heap.size w w'
set_option maxHeartbeats 1600000 in
theorem sameStats_any (w:World) (a b c a' b' c':Int):Calls Try.prog 15 #[.agg #[.int .i64 a,.int .i64 b,.int .i64 c],.agg #[.int .i64 a',.int .i64 b',.int .i64 c']] w (SstP (a==a' && b==b' && c==c') w):=by
 obtain⟨w1,hw1⟩:∃x,x=w.alloc (.cells #[.int .i64 a,.int .i64 b,.int .i64 c] 70):=⟨_,rfl⟩
 obtain⟨w2,hw2⟩:∃x,x=w1.alloc (.cells #[.int .i64 a',.int .i64 b',.int .i64 c'] 67):=⟨_,rfl⟩
 have s1:w1.heap.size=w.heap.size+1:=by rw[hw1];simp
 have hb:Below w.heap.size w w2:=by
  have b1:Below w.heap.size w w1:=by rw[hw1];exact below_new _ _
  rw[hw2];exact b1.alloc (by omega) _
 have T1:w2.heap[w.heap.size]? =some (.cells #[.int .i64 a,.int .i64 b,.int .i64 c] 70 (0,0)):=by rw[hw2,Below.heap_alloc _ _ _ (by omega),hw1];exact heap_alloc_new _ _
 have T2:w2.heap[w.heap.size+1]? =some (.cells #[.int .i64 a',.int .i64 b',.int .i64 c'] 67 (0,0)):=by rw[hw2,←s1];exact heap_alloc_new _ _
 have x0:w2.cell? ⟨w.heap.size,0,none⟩=some (.int .i64 a):=by rw[Lib.cell_of_heap T1];rfl
 have x1:w2.cell? ⟨w.heap.size,1,none⟩=some (.int .i64 b):=by rw[Lib.cell_of_heap T1];rfl
 have x2:w2.cell? ⟨w.heap.size,2,none⟩=some (.int .i64 c):=by rw[Lib.cell_of_heap T1];rfl
 have y0:w2.cell? ⟨w.heap.size+1,0,none⟩=some (.int .i64 a'):=by rw[Lib.cell_of_heap T2];rfl
 have y1:w2.cell? ⟨w.heap.size+1,1,none⟩=some (.int .i64 b'):=by rw[Lib.cell_of_heap T2];rfl
 have y2:w2.cell? ⟨w.heap.size+1,2,none⟩=some (.int .i64 c'):=by rw[Lib.cell_of_heap T2];rfl
 have HB:=hid hb
 have HW:Hid ((w.alloc (.cells #[.int .i64 a,.int .i64 b,.int .i64 c] 70)).alloc (.cells #[.int .i64 a',.int .i64 b',.int .i64 c'] 67)=w2):=hid (by rw[hw2,hw1])
 obtain⟨p,hp⟩:∃p,(a==a')=p:=⟨_,rfl⟩
 obtain⟨q,hq⟩:∃q,(b==b')=q:=⟨_,rfl⟩
 obtain⟨r,hr⟩:∃r,(c==c')=r:=⟨_,rfl⟩
 rw[hp,hq,hr]
 clear hb T1 T2 hw1 hw2 s1
 cases p with
 | false=>
  go_enter Try.func15,Try.ntmps15
  go_upto_region 1 with fail
  rw[HW.out]
  go_wp2_with fail
  go_ret
  exact⟨rfl,HB.out⟩
 | true=>
  cases q with
  | false=>
   go_enter Try.func15,Try.ntmps15
   go_upto_region 1 with fail
   rw[HW.out]
   go_wp2_with fail
   go_ret
   exact⟨rfl,HB.out⟩
  | true=>
   go_enter Try.func15,Try.ntmps15
   go_upto_region 1 with fail
   rw[HW.out]
   go_wp2_with fail
   go_ret
   exact⟨rfl,HB.out⟩
end Go.Proofs.Ytgflanlniejflaa
namespace Go.Proofs.Ytgflanlniejflaa
open Go.RowKit
open Go.Sort (grow)
set_option maxRecDepth 100000
theorem cell64 (zs:List Int):∀u∈zs.map (Value.int .i64),u.oneCell'=true:=by
 intro u hu
 obtain⟨x,_,rfl⟩:=List.mem_map.1 hu
 rfl
set_option maxRecDepth 100000
theorem wpList_append_spare_reads {P:Program}(w:World){ops:Array Oper}{rest:List Oper}{o:Oper}{a:Act}{Q:Exit→Act→World→Prop}(hgd:o.guard=none) (s x:Operand) (t:TypeId)
 (ho:o.op= .call {callee:=.builtin .append,args:=#[s,x],argTypes:=#[t,t]})
 (base:Nat) (e:TypeId) (i:TypeInfo) (size:Nat) (ht:P.underlying t=some (.slice e)) (hi:P.info? e=some i) (hsize:i.size=size)
 (g n cap:Nat) (xs:List Value) (hs:a.eval s= .slice (some ⟨g,0,none⟩) n cap) (hown:w.ownsRow base e size (.slice (some ⟨g,0,none⟩) n cap) n xs)
 (B:Nat) (A:Option Addr) (m c:Nat) (news:List Value) (hx:a.eval x= .slice A m c) (hr:Reads w B size A m news) (h1:∀u∈news,u.oneCell'=true) (hroom:n+m≤cap)
 (h:∀w',w'.ownsRow base e size (.slice (some ⟨g,0,none⟩) (n+m) cap) (n+m) (xs++news)→w.grownBy w' (some g)→wpList P ops Q rest (a.put o.dst (.slice (some ⟨g,0,none⟩) (n+m) cap)) w'):wpList P ops Q (o ::rest) a w:=by
 rcases A with _ | ad
 ·have hm:m=0:=by
   rcases Nat.eq_zero_or_pos m with h0 | h0
   ·exact h0
   ·obtain⟨_,_,h,_⟩:=hr.2 h0
    cases h
  subst hm
  have hn:news= []:=List.eq_nil_of_length_eq_zero (by simpa using hr.1)
  subst hn
  have hrun:(Builtin.append_ #[t,t] o.type #[.slice (some ⟨g,0,none⟩) n cap,.slice none 0 c]).run P w= .ok (.slice (some ⟨g,0,none⟩) n cap) w:=by
   rcases hown.2 with⟨h0,_⟩ | ⟨g',cap',cur,hv,_,_,hnc,_⟩
   ·cases h0
   ·injection hv with _ _ hv
    subst hv
    simp[Builtin.append_,run_underlying ht,sizeOf,typeInfo,hi,Builtin.lenOf,Builtin.firstCells,hnc,storeCells]
  refine wpList_plain hgd fun _ hK=>?_
  unfold Oper.wp execOp
  simp only[ho,resolve,invoke,builtin,Sem.run_bind,Sem.run_pure,Result.andThen_ok,List.map_toArray,List.map_cons,List.map_nil,hs,hx,hrun]
  exact hK _ _ (h w (by simpa using hown) ⟨rfl,rfl,rfl,Nat.le_refl _,fun _ _ _=>rfl⟩)
 ·refine wpList_append_own_spare (P:=P) w hgd s x t ho base e i size ht hi hsize g n cap xs hs hown ad m c news hx hr.1 ?_ h1 hroom h
  intro j u hu
  rcases Nat.eq_zero_or_pos m with h0 | h0
  ·subst h0
   have hn:news= []:=List.eq_nil_of_length_eq_zero (by simpa using hr.1)
   subst hn
   simp at hu
  ·obtain⟨b,off,hA,_,hc⟩:=hr.2 h0
   injection hA with hA
   subst hA
   have e:(⟨b,off,none⟩:Addr).add j=⟨b,off+j,none⟩:=by
    unfold Addr.add;by_cases h:j=0 <;> simp[h]
   rw[e];exact hc j u hu
theorem grown_below {B:Nat}{W w w':World}{g:Nat}(h:w.grownBy w' (some g)) (hW:Below B W w) (hB:B≤w.heap.size) (hg:B≤g):Below B W w':=
 hW.grown h hB fun k hk=>by injection hk with hk;subst hk;exact hg
theorem addr0' (g k:Nat):(⟨g,0,none⟩:Addr).add k=⟨g,k,none⟩:=by
 unfold Addr.add;by_cases h:k=0 <;> simp[h]
def TwinPostZ (l:List Int) (m:Int) (w:World) (e:Ending) (w':World):Prop:=
 ∃g,e= .returned (.slice (some ⟨g,0,none⟩) l.length (l.length+2))∧w'.ownsRow w.heap.size 3 1 (.slice (some ⟨g,0,none⟩) (l.length+2) (l.length+2)) (l.length+2) ((l++ [m,m]).map (Value.int .i64))∧Below w.heap.size w w'
set_option maxHeartbeats 1600000 in
theorem twinZ_any (l:List Int) (m:Int) (A:Option Addr) (c:Nat) (w:World) (hm:l.length≤1000000) (hr:Reads w w.heap.size 1 A l.length (l.map (Value.int .i64))):
 Calls Try.prog 25 #[.slice A l.length c,.int .i64 m] w (TwinPostZ l m w):=by
 obtain⟨i0,hi,hz0,hz1,hz2⟩:=info_parts infoZ
 have hl2:((l.length:Int)+2)=((l.length+2:Nat):Int):=by omega
 have HL2:=hid hl2
 clear hl2
 go_enter Try.func25,Try.ntmps25
 go_wp2_with (first
  | (at_make;go_must (refine wpList_make_own (P:=Try.prog) _ rfl _ _ 23 rfl w.heap.size 3 i0 _ 1 Try.underlying23 hi hz0 hz1 .i64 .i64 _ (l.length+2) rfl rfl HL2.out (by rw[hz2];omega) (by simp only[maxLen];omega) (by simp) ?_);intro w2 hown2 hg2;have hb2:=(Below.refl w.heap.size w).grown hg2 (Nat.le_refl _) (fun k hk=>by cases hk);have hr2:=hr.next hb2)
  | (at_builtin;(refine wpList_append_spare_reads (P:=Try.prog) _ rfl (.tmp 10) (.tmp 11) 23 rfl w.heap.size 3 i0 1 Try.underlying23 hi hz1 w.heap.size 0 (l.length+2) [] rfl hown2 _ A l.length c (l.map (Value.int .i64)) rfl hr2 (cell64 l) (by omega) ?_);intro w3 hown3 hg3;have hb3:=grown_below hg3 hb2 hb2.size (Nat.le_refl _);simp only[Nat.zero_add,List.nil_append]at hown3⊢)
  | (at_builtin;go_must (refine wpList_append_own_spare (P:=Try.prog) _ rfl (.tmp 13) (.tmp 16) 23 rfl w.heap.size 3 i0 1 Try.underlying23 hi hz1 w.heap.size l.length (l.length+2) (l.map (Value.int .i64)) rfl (hown3.alloc _) ⟨w3.heap.size,0,none⟩ 2 2 [.int .i64 m,.int .i64 m] rfl rfl (fun j u hu=>by rw[addr0',cell_new];simpa using hu) (by simp[Value.oneCell']) (by omega) ?_);intro w4 hown4 hg4))
 go_ret
 refine⟨w.heap.size,rfl,?_,grown_below hg4 (hb3.alloc hb3.size _) (by have:=hb3.size;simp;omega) (Nat.le_refl _)⟩
 rw[List.map_append]
 exact hown4
set_option maxHeartbeats 400000 in
theorem twinN_any (l:List Int) (A:Option Addr) (c:Nat) (w:World) (hm:l.length≤1000000) (hr:Reads w w.heap.size 1 A l.length (l.map (Value.int .i64))):
 Calls Try.prog 11 #[.slice A l.length c] w (TwinPostZ l (-77) w):=by
 go_enter Try.func11,Try.ntmps11
 go_wp2_with fail
 refine(twinZ_any l (-77) A c w hm hr).mono ?_
 rintro e w1 ⟨g,rfl,h1,h2⟩
 go_wp2_with fail
 go_ret
 exact⟨g,rfl,h1,h2⟩
end Go.Proofs.Ytgflanlniejflaa
