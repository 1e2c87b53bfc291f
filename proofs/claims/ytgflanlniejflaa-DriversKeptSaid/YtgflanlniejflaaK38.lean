/-
  Drivers: Samt, DrvSm (texts joined).
-/
import Derived.Lib.QuietBelow
import Derived.Test.YtgflanlniejflaaK02
import Derived.Test.YtgflanlniejflaaK04
import Derived.Test.YtgflanlniejflaaK26
namespace Go.Proofs.Ytgflanlniejflaa
open Go.RowKit Go.Sort
set_option maxRecDepth 100000
namespace Drv
mutual
def szTr:Tr→Nat
 | .node _ _ _ _ subs=>1+szTrs subs
def szTrs:List Tr→Nat
 | []=>0
 | t ::l=>szTr t+szTrs l
end
mutual
def smTr:Tr→Prop
 | .node _ _ _ _ subs=>subs.length≤1000000000∧smTrs subs
def smTrs:List Tr→Prop
 | []=>True
 | t ::l=>smTr t∧smTrs l
end
mutual
def sameTr:Tr→Tr→Bool
 | .node r t k e s,.node r' t' k' e' s'=>(r==r') && (t==t') && (k==k') && (e==e') && (s.length==s'.length) && sameTrs s s'
def sameTrs:List Tr→List Tr→Bool
 | x ::l,y ::m=>sameTr x y && sameTrs l m
 | _,_=>true
end
mutual
theorem sameTr_iff:∀(x y:Tr),sameTr x y=true↔x=y
 | .node r t k e s,.node r' t' k' e' s'=>by
  unfold sameTr
  simp only[Bool.and_eq_true,beq_iff_eq,Tr.node.injEq]
  constructor
  ·rintro⟨⟨⟨⟨⟨rfl,rfl⟩,rfl⟩,rfl⟩,hl⟩,h⟩
   exact⟨rfl,rfl,rfl,rfl,(sameTrs_iff s s' hl).1 h⟩
  ·rintro⟨rfl,rfl,rfl,rfl,rfl⟩
   exact⟨⟨⟨⟨⟨rfl,rfl⟩,rfl⟩,rfl⟩,rfl⟩,(sameTrs_iff s s rfl).2 rfl⟩
theorem sameTrs_iff:∀(l m:List Tr),l.length=m.length→(sameTrs l m=true↔l=m)
 | [],[],_=>by simp[sameTrs]
 | [],_ ::_,h=>by simp at h
 | _ ::_,[],h=>by simp at h
 | x ::l,y ::m,h=>by
  unfold sameTrs
  rw[Bool.and_eq_true,sameTr_iff x y,sameTrs_iff l m (by simpa using h),List.cons.injEq]
end
theorem sameTrs_at:∀(l m:List Tr),sameTrs l m=true↔∀j (h:j<l.length) (h':j<m.length),sameTr l[j] m[j]=true
 | [],m=>by
  unfold sameTrs
  exact⟨fun _ j h=>absurd h (Nat.not_lt_zero _),fun _=>rfl⟩
 | x ::l,[]=>by
  unfold sameTrs
  exact⟨fun _ j _ h=>absurd h (Nat.not_lt_zero _),fun _=>rfl⟩
 | x ::l,y ::m=>by
  unfold sameTrs
  rw[Bool.and_eq_true,sameTrs_at l m]
  constructor
  ·rintro⟨h0,h1⟩ j h h'
   cases j with
   | zero=>exact h0
   | succ j=>exact h1 j (by simpa using h) (by simpa using h')
  ·intro h
   exact⟨h 0 (by simp) (by simp),fun j g g'=>h (j+1) (by simpa using g) (by simpa using g')⟩
theorem szTrs_at:∀(l:List Tr) (j:Nat) (h:j<l.length),szTr l[j]≤szTrs l
 | x ::l,0,_=>by show szTr x≤szTr x+szTrs l;omega
 | x ::l,j+1,h=>by
  have hj:j<l.length:=by simpa using h
  have:=szTrs_at l j hj
  show szTr (l[j]'hj)≤szTr x+szTrs l
  omega
theorem smTrs_at:∀(l:List Tr),smTrs l→∀(j:Nat) (h:j<l.length),smTr l[j]
 | x ::l,hs,0,_=>by unfold smTrs at hs;exact hs.1
 | x ::l,hs,j+1,h=>by unfold smTrs at hs;exact smTrs_at l hs.2 j (by simpa using h)
end Drv
theorem TrsV.at {w:World}{S:Nat→Prop}:∀{l:List Drv.Tr}{xs:List Value},TrsV w S l xs→∀i (h:i<l.length),∃a b c,xs=a++b++c∧a.length=i*5∧TrV w S l[i] b
 | t ::l,_,h,0,_=>by
  unfold TrsV at h
  obtain⟨a,b,rfl,h2,h3⟩:=h
  exact⟨[],a,b,rfl,by simp,h2⟩
 | t ::l,_,h,i+1,hi=>by
  unfold TrsV at h
  obtain⟨a,b,rfl,h2,h3⟩:=h
  obtain⟨p,q,r,rfl,g1,g2⟩:=TrsV.at h3 i (by simpa using hi)
  exact⟨a++p,q,r,by simp,by rw[List.length_append,h2.len,g1];omega,g2⟩
theorem TrsV.cells {w:World}{S:Nat→Prop}{A:Option Addr}{l:List Drv.Tr}{xs:List Value}(hr:RO w S 5 A l.length xs) (h:TrsV w S l xs) (i:Nat) (hi:i<l.length):
 ∃b off r t k e As c,A=some ⟨b,off,none⟩∧b<w.heap.size∧w.cell? ⟨b,off+i*5,none⟩=some (.int .i64 r)∧w.cell? ⟨b,off+i*5+1,none⟩=some (.int .i64 t)∧w.cell? ⟨b,off+i*5+2,none⟩=some (.int .i64 k)∧w.cell? ⟨b,off+i*5+3,none⟩=some (.bool e)∧
  ∃m,w.cell? ⟨b,off+i*5+4,none⟩=some (.slice As m c)∧TrV w S l[i] [.int .i64 r,.int .i64 t,.int .i64 k,.bool e,.slice As m c]:=by
 obtain⟨a,q,z,rfl,g1,g2⟩:=h.at i hi
 obtain⟨b,off,hA,hb,_,hc⟩:=hr.2 (by omega)
 have g3:=g2
 generalize l[i]=x at g2 g3
 obtain⟨r,t,k,e,subs⟩:=x
 unfold TrV at g2
 obtain⟨As,c,ys,rfl,_,_⟩:=g2
 have hg:∀j (hj:j<5),(a++ [Value.int .i64 r,.int .i64 t,.int .i64 k,.bool e,.slice As subs.length c]++z)[i*5+j]? = [Value.int .i64 r,.int .i64 t,.int .i64 k,.bool e,.slice As subs.length c][j]?:=fun j hj=>by
  rw[List.append_assoc,List.getElem?_append_right (by omega),List.getElem?_append_left (by simp;omega),show i*5+j-a.length=j by omega]
 refine⟨b,off,r,t,k,e,As,c,hA,hb,?_,?_,?_,?_,subs.length,?_,g3⟩
 ·exact hc (i*5+0) _ (hg 0 (by omega))
 ·exact hc (i*5+1) _ (hg 1 (by omega))
 ·exact hc (i*5+2) _ (hg 2 (by omega))
 ·exact hc (i*5+3) _ (hg 3 (by omega))
 ·exact hc (i*5+4) _ (hg 4 (by omega))
def SamtP (x y:Drv.Tr) (w:World) (e:Ending) (w':World):Prop:=e= .returned (.bool (Drv.sameTr x y))∧Below w.heap.size w w'
theorem samt_ne {x y:Drv.Tr}{w w':World}(h:Drv.sameTr x y=false) (hb:Below w.heap.size w w'):SamtP x y w (.returned (.bool false)) w':=⟨by rw[h],hb⟩
set_option maxHeartbeats 12800000 in
theorem sameTree_any:∀(m:Nat) (x y:Drv.Tr) (w:World) (S S':Nat→Prop) (vx vy:List Value),Drv.szTr x≤m→Drv.smTr x→TrV w S x vx→TrV w S' y vy→
 Calls Try.prog 16 #[.agg vx.toArray,.agg vy.toArray] w (SamtP x y w):=by
 intro m
 induction m with
 | zero=>
  intro x y w S S' vx vy h
  obtain⟨r,t,k,e,s⟩:=x
  simp[Drv.szTr]at h
 | succ m ih=>
  intro x y w S S' vx vy hsz hsm hx hy
  obtain⟨r,t,k,e,s⟩:=x
  obtain⟨r',t',k',e',s'⟩:=y
  unfold Drv.szTr at hsz
  unfold Drv.smTr at hsm
  unfold TrV at hx hy
  obtain⟨A,c,xs,rfl,hr,ht⟩:=hx
  obtain⟨A',c',xs',rfl,hr',ht'⟩:=hy
  have hN:∀(b:Bool),((r==r') && (t==t') && (k==k') && (e==e') && (s.length==s'.length))=b→Drv.sameTr (.node r t k e s) (.node r' t' k' e' s')=(b && Drv.sameTrs s s'):=fun b hb=>by
   unfold Drv.sameTr;rw[hb]
  obtain⟨n,hn⟩:∃n,s.length=n:=⟨_,rfl⟩
  obtain⟨n',hn'⟩:∃n,s'.length=n:=⟨_,rfl⟩
  rw[hn,hn']at hN
  have hsl:=hsm.1
  rw[hn]at hsl
  have IH:=hid ih
  have HSZ:=hid hsz
  have HSM:=hid hsm.2
  have HR:=hid (And.intro hr ht)
  have HR':=hid (And.intro hr' ht')
  have HN:=hid hN
  have HL:=hid hn
  have HL':=hid hn'
  rw[hn,hn']
  obtain⟨w1,hw1⟩:∃x,x=w.alloc (.cells #[.int .i64 r,.int .i64 t,.int .i64 k,.bool e,.slice A n c] 65):=⟨_,rfl⟩
  obtain⟨w2,hw2⟩:∃x,x=w1.alloc (.cells #[.int .i64 r',.int .i64 t',.int .i64 k',.bool e',.slice A' n' c'] 65):=⟨_,rfl⟩
  have z1:w1.heap.size=w.heap.size+1:=by rw[hw1];simp
  have b1:Below w.heap.size w w1:=by rw[hw1];exact below_new _ _
  have b2:Below w.heap.size w w2:=by rw[hw2];exact b1.alloc (by omega) _
  have T1:w2.heap[w.heap.size]? =some (.cells #[.int .i64 r,.int .i64 t,.int .i64 k,.bool e,.slice A n c] 65 (0,0)):=by rw[hw2,Below.heap_alloc _ _ _ (by omega),hw1];exact heap_alloc_new _ _
  have T2:w2.heap[w.heap.size+1]? =some (.cells #[.int .i64 r',.int .i64 t',.int .i64 k',.bool e',.slice A' n' c'] 65 (0,0)):=by rw[hw2,←z1];exact heap_alloc_new _ _
  have a0:w2.cell? ⟨w.heap.size,0,none⟩=some (.int .i64 r):=by rw[Lib.cell_of_heap T1];rfl
  have a1:w2.cell? ⟨w.heap.size,1,none⟩=some (.int .i64 t):=by rw[Lib.cell_of_heap T1];rfl
  have a2:w2.cell? ⟨w.heap.size,2,none⟩=some (.int .i64 k):=by rw[Lib.cell_of_heap T1];rfl
  have a3:w2.cell? ⟨w.heap.size,3,none⟩=some (.bool e):=by rw[Lib.cell_of_heap T1];rfl
  have a4:w2.cell? ⟨w.heap.size,4,none⟩=some (.slice A n c):=by rw[Lib.cell_of_heap T1];rfl
  have d0:w2.cell? ⟨w.heap.size+1,0,none⟩=some (.int .i64 r'):=by rw[Lib.cell_of_heap T2];rfl
  have d1:w2.cell? ⟨w.heap.size+1,1,none⟩=some (.int .i64 t'):=by rw[Lib.cell_of_heap T2];rfl
  have d2:w2.cell? ⟨w.heap.size+1,2,none⟩=some (.int .i64 k'):=by rw[Lib.cell_of_heap T2];rfl
  have d3:w2.cell? ⟨w.heap.size+1,3,none⟩=some (.bool e'):=by rw[Lib.cell_of_heap T2];rfl
  have d4:w2.cell? ⟨w.heap.size+1,4,none⟩=some (.slice A' n' c'):=by rw[Lib.cell_of_heap T2];rfl
  have HB2:=hid b2
  have HT1:=hid T1
  have HT2:=hid T2
  have hW:=hid (show(w.alloc (.cells #[.int .i64 r,.int .i64 t,.int .i64 k,.bool e,.slice A n c] 65)).alloc (.cells #[.int .i64 r',.int .i64 t',.int .i64 k',.bool e',.slice A' n' c'] 65)=w2 by rw[hw2,hw1])
  clear ih hsz hsm hr ht hr' ht' hN hn hn' hw1 hw2 z1 b1 b2 T1 T2
  go_enter Try.func16,Try.ntmps16
  go_upto_region 1 with fail
  rw[hW.out]
  clear hW
  have NE:=hid (fun(h:((r==r') && (t==t') && (k==k') && (e==e') && (n==n'))=false)=>samt_ne (w:=w) (w':=w2) (HN.out false h) HB2.out)
  by_cases hr1:r=r'
  ·subst hr1
   by_cases ht1:t=t'
   ·subst ht1
    by_cases hk1:k=k'
    ·subst hk1
     by_cases he1:e=e'
     ·subst he1
      have he2:(e==e)=true:=by cases e <;> rfl
      by_cases hn1:n=n'
      ·subst hn1
       have hEQ:Hid (Drv.sameTr (.node r t k e s) (.node r t k e s')=Drv.sameTrs s s'):=hid (by
        rw[HN.out true (by rw[he2];simp)];simp)
       clear NE HN
       go_wp2_with fail
       go_loopw[5] (fun i wx=>∃j:Nat,j≤n∧i= .int .i64 j∧Hid (Below w.heap.size w wx∧wx.heap[w.heap.size]? =some (.cells #[.int .i64 r,.int .i64 t,.int .i64 k,.bool e,.slice A n c] 65 (0,0))∧wx.heap[w.heap.size+1]? =some (.cells #[.int .i64 r,.int .i64 t,.int .i64 k,.bool e,.slice A' n c'] 65 (0,0))∧∀q,q<j→∀(h:q<s.length) (h':q<s'.length),Drv.sameTr s[q] s'[q]=true)) (fun i _=>n-(intOf i).toNat)
       case atStart=>exact⟨0,Nat.zero_le _,rfl,hid ⟨HB2.out,HT1.out,HT2.out,fun q h=>absurd h (Nat.not_lt_zero _)⟩⟩
       case round=>
        clear a0 a1 a2 a3 a4 d0 d1 d2 d3 d4 HB2 HT1 HT2 w2
        obtain⟨j,hj,rfl,hJ⟩:=hrel
        obtain⟨hb,t1,t2,hq⟩:=hJ.out
        have a4:wr.cell? ⟨w.heap.size,4,none⟩=some (.slice A n c):=by rw[Lib.cell_of_heap t1];rfl
        have d4:wr.cell? ⟨w.heap.size+1,4,none⟩=some (.slice A' n c'):=by rw[Lib.cell_of_heap t2];rfl
        have hw1l:=heap_lt t1
        have hw2l:=heap_lt t2
        have HB:=hid hb
        have HT1:=hid t1
        have HT2:=hid t2
        have HQ:=hid hq
        clear hJ hb t1 t2 hq
        by_cases hlt:j<n
        ·have hjs:j<s.length:=by rw[HL.out];exact hlt
         have hjs':j<s'.length:=by rw[HL'.out];exact hlt
         have hltI:(j:Int)<(n:Int):=by omega
         obtain⟨b,off,r1,k1,q1,e1,As,c1,hA,hbl,f0,f1,f2,f3,m1,f4,hTV⟩:=TrsV.cells HR.out.1 HR.out.2 j hjs
         obtain⟨b',off',r2,k2,q2,e2,As2,c2,hA',hbl',f0',f1',f2',f3',m2,f4',hTV'⟩:=TrsV.cells HR'.out.1 HR'.out.2 j hjs'
         subst hA hA'
         have hwr:w.heap.size≤wr.heap.size:=HB.out.size
         have ca9:=fun(d:Nat) (o:Array Obj)=>Calls.regrown_of (IH.out s[j] s'[j] (grow (redrawn wr d) o) S S' _ _ (by have:=Drv.szTrs_at s j hjs;have:=HSZ.out;omega) (Drv.smTrs_at s HSM.out j hjs)
          (TrV.only (Only.of_below ((HB.out).trans ((below_regrown wr d o).mono hwr))) (fun _ _ e=>e) _ _ hTV) (TrV.only (Only.of_below ((HB.out).trans ((below_regrown wr d o).mono hwr))) (fun _ _ e=>e) _ _ hTV'))
         have x0:=fun d o=>cell_regrown ((HB.out.cell (p:=⟨b,off+j*5,none⟩) hbl).trans f0) d o
         have x1:=fun d o=>cell_regrown ((HB.out.cell (p:=⟨b,off+j*5+1,none⟩) hbl).trans f1) d o
         have x2:=fun d o=>cell_regrown ((HB.out.cell (p:=⟨b,off+j*5+2,none⟩) hbl).trans f2) d o
         have x3:=fun d o=>cell_regrown ((HB.out.cell (p:=⟨b,off+j*5+3,none⟩) hbl).trans f3) d o
         have x4:=fun d o=>cell_regrown ((HB.out.cell (p:=⟨b,off+j*5+4,none⟩) hbl).trans f4) d o
         have y0:=fun d o=>cell_regrown ((HB.out.cell (p:=⟨b',off'+j*5,none⟩) hbl').trans f0') d o
         have y1:=fun d o=>cell_regrown ((HB.out.cell (p:=⟨b',off'+j*5+1,none⟩) hbl').trans f1') d o
         have y2:=fun d o=>cell_regrown ((HB.out.cell (p:=⟨b',off'+j*5+2,none⟩) hbl').trans f2') d o
         have y3:=fun d o=>cell_regrown ((HB.out.cell (p:=⟨b',off'+j*5+3,none⟩) hbl').trans f3') d o
         have y4:=fun d o=>cell_regrown ((HB.out.cell (p:=⟨b',off'+j*5+4,none⟩) hbl').trans f4') d o
         have a4r:=fun d o=>cell_regrown a4 d o
         have d4r:=fun d o=>cell_regrown d4 d o
         generalize hsb:Drv.sameTr s[j] s'[j]=sb at ca9
         have HSB:=hid hsb
         clear hsb hTV hTV' f0 f1 f2 f3 f4 f0' f1' f2' f3' f4'
         have ca:∀(d:Nat) (o:Array Obj),Calls Try.prog 16 #[.agg #[.int .i64 r1,.int .i64 k1,.int .i64 q1,.bool e1,.slice As m1 c1],.agg #[.int .i64 r2,.int .i64 k2,.int .i64 q2,.bool e2,.slice As2 m2 c2]] (grow (redrawn wr d) o) fun e w''=>e= .returned (.bool sb)∧∃p:Regrown,w''=grow (redrawn wr p.d) p.os:=ca9
         clear ca9
         cases sb with
         | true=>
          go_wp2_with fail
          refine wp_region_quiet_below (by kernel_rfl) (by kernel_rfl) ?_
          repeat (quiet_step (exact ca _ _))
          refine wpQuiet_nil ?_
          rintro _ ⟨⟨dq,osq⟩,rfl⟩
          have hb6:=below_regrown wr dq osq
          generalize grow (redrawn wr dq) osq=w6 at hb6⊢
          have h1:=HB.out.trans (hb6.mono hwr)
          have h2:=(hb6.block _ hw1l).trans HT1.out
          have h3:=(hb6.block _ hw2l).trans HT2.out
          have h4:∀q,q<j+1→∀(h:q<s.length) (h':q<s'.length),Drv.sameTr s[q] s'[q]=true:=fun q hq h h'=>by
           rcases Nat.lt_succ_iff_lt_or_eq.1 hq with g | rfl
           ·exact HQ.out q g h h'
           ·exact HSB.out
          have HF:=hid (And.intro h1 (And.intro h2 (And.intro h3 h4)))
          clear h1 h2 h3 h4 hb6 x0 x1 x2 x3 x4 y0 y1 y2 y3 y4 a4r d4r ca a4 d4
          go_wp2_with fail
          go_roundw
          case rel=>exact⟨j+1,by omega,by go_num,HF⟩
          case measure=>simp[intOf];omega
         | false=>
          have HF:Hid (Drv.sameTr (.node r t k e s) (.node r t k e s')=false):=hid (by
           rw[hEQ.out]
           cases g:Drv.sameTrs s s' with
           | false=>rfl
           | true=>
            have h9:=(Drv.sameTrs_at s s').1 g j hjs hjs'
            rw[HSB.out]at h9
            cases h9)
          go_wp2_with fail
          refine wp_region_quiet_below (by kernel_rfl) (by kernel_rfl) ?_
          repeat (quiet_step (exact ca _ _))
          refine wpQuiet_nil ?_
          rintro _ ⟨⟨dq,osq⟩,rfl⟩
          have hb6:=below_regrown wr dq osq
          generalize grow (redrawn wr dq) osq=w6 at hb6⊢
          have HE:=hid (samt_ne HF.out (HB.out.trans (hb6.mono hwr)))
          clear hb6 x0 x1 x2 x3 x4 y0 y1 y2 y3 y4 a4r d4r ca a4 d4
          go_wp2_with fail
          go_ret
          exact HE.out
        ·have hjn:j=n:=by omega
         subst hjn
         have HE:Hid (SamtP (.node r t k e s) (.node r t k e s') w (.returned (.bool true)) wr):=hid ⟨(by
          rw[hEQ.out,(Drv.sameTrs_at s s').2 fun q h h'=>HQ.out q (by rw[←HL.out];exact h) h h']),HB.out⟩
         go_wp2_with fail
         go_ret
         exact HE.out
      ·have g1:((n:Int) !=(n':Int))=true:=by rw[bne_iff_ne];omega
       have HF:=hid (NE.out (by rw[show(n==n')=false by rw[beq_eq_false_iff_ne];exact hn1];simp))
       clear hn1
       go_wp2_with fail
       go_ret
       exact HF.out
     ·have g1:(e==e')=false:=by rw[beq_eq_false_iff_ne];exact he1
      have HF:=hid (NE.out (by rw[g1];simp))
      clear he1
      go_wp2_with fail
      go_ret
      exact HF.out
    ·have g1:(k !=k')=true:=by rw[bne_iff_ne];exact hk1
     have HF:=hid (NE.out (by rw[show(k==k')=false by rw[beq_eq_false_iff_ne];exact hk1];simp))
     clear hk1
     go_wp2_with fail
     go_ret
     exact HF.out
   ·have g1:(t !=t')=true:=by rw[bne_iff_ne];exact ht1
    have HF:=hid (NE.out (by rw[show(t==t')=false by rw[beq_eq_false_iff_ne];exact ht1];simp))
    clear ht1
    go_wp2_with fail
    go_ret
    exact HF.out
  ·have g1:(r !=r')=true:=by rw[bne_iff_ne];exact hr1
   have HF:=hid (NE.out (by rw[show(r==r')=false by rw[beq_eq_false_iff_ne];exact hr1];rfl))
   clear hr1
   go_wp2_with fail
   go_ret
   exact HF.out
end Go.Proofs.Ytgflanlniejflaa
namespace Go.Proofs.Ytgflanlniejflaa
namespace Drv
theorem smTrs_snoc:∀(l:List Tr) (t:Tr),smTrs l→smTr t→smTrs (l++ [t])
 | [],t,_,h=>by
  show smTrs [t]
  unfold smTrs
  exact⟨h,by unfold smTrs;trivial⟩
 | x ::l,t,hl,h=>by
  show smTrs (x ::(l++ [t]))
  unfold smTrs at hl⊢
  exact⟨hl.1,smTrs_snoc l t hl.2 h⟩
theorem smTrs_nil:smTrs []:=by unfold smTrs;trivial
theorem sm_leaf (pos kind:Int):smTr (leaf pos kind):=by
 unfold leaf smTr
 exact⟨Nat.zero_le _,smTrs_nil⟩
def RecSm (c:DC) (rec:Rec):Prop:=∀(st ov pos:Int) (real:Bool) (p:PS),InR c.states.length st→InR c.states.length ov→POk c p→0≤pos→pos≤c.w.length→smTrs (rec st ov pos real p).1
theorem edgeR_sm {c:DC}(hg:Rng c) (hf:c.fuel≤1000000000){rec:Rec}{look:Int→Int→Int→PS→Int×PS}(hr:RecOk c rec) (hs:RecSm c rec){e:Ed}(he:e.kind=2→InR c.starts.length e.what){pos:Int}(hp0:0≤pos) (hp1:pos≤c.w.length)
 {real:Bool}{out:List Tr}{p:PS}(h:POk c p) (ho:smTrs out):∀o,(edgeR c rec look e pos real out p).1=some o→smTrs o.1:=by
 intro o heq
 have sSome:∀{a:Option (List Tr×Int)}{x:List Tr×Int},a=some x→smTrs x.1→a=some o→smTrs o.1:=fun h1 h2 h3=>by
  rw[h1]at h3
  injection h3 with h3
  rw[←h3];exact h2
 unfold edgeR at heq
 split at heq
 ·split at heq
  ·cases heq
  ·refine sSome rfl ?_ heq
   show smTrs (if real=true then out++ [leaf pos e.what]else out)
   split
   ·exact smTrs_snoc _ _ ho (sm_leaf _ _)
   ·exact ho
 ·split at heq
  ·rename_i h2
   have hw:=he h2
   have hs2:=hg.starts _ hw
   cases real with
   | true=>
    simp only[if_true]at heq
    obtain⟨q1,q2,q3,q4,_⟩:=hr (at0 c.starts e.what) (at0 c.stops e.what) pos true p hs2.1 hs2.2 h hp0 hp1
    have q5:=hs (at0 c.starts e.what) (at0 c.stops e.what) pos true p hs2.1 hs2.2 h hp0 hp1
    generalize rec (at0 c.starts e.what) (at0 c.stops e.what) pos true p=q at q1 q2 q3 q4 q5 heq
    split at heq
    ·cases heq
    ·refine sSome rfl ?_ heq
     refine smTrs_snoc _ _ ho ?_
     unfold smTr
     refine⟨?_,q5⟩
     have:=q1.used1
     have:=h.used0
     omega
   | false=>
    simp only[Bool.false_eq_true,if_false]at heq
    split at heq
    ·split at heq
     ·cases heq
     ·exact sSome rfl ho heq
    ·split at heq
     ·cases heq
     ·split at heq
      ·cases heq
      ·exact sSome rfl ho heq
  ·split at heq
   ·split at heq
    ·split at heq
     ·cases heq
     ·exact sSome rfl ho heq
    ·simp only at heq
     split at heq
     ·cases heq
     ·split at heq
      ·cases heq
      ·exact sSome rfl ho heq
   ·exact sSome rfl ho heq
theorem wayL_sm {c:DC}(hg:Rng c) (hv:Val c) (hfu:c.fuel≤1000000000){rec:Rec}{look:Int→Int→Int→PS→Int×PS}(hr:RecOk c rec) (hsm:RecSm c rec) (hl:LookOk c look){over:Int}{real:Bool}:
 ∀(n:Nat) (state pos:Int) (out:List Tr) (p:PS),POk c p→0≤pos→pos≤c.w.length→smTrs out→smTrs (wayL c rec look n state over pos real out p).1
 | 0,_,_,out,p,h,_,_,_=>by
  unfold wayL
  exact smTrs_nil
 | n+1,state,pos,out,p,h,hp0,hp1,ho=>by
  unfold wayL
  split
  ·exact ho
  ·simp only
   have hi:POk c (if(c.st state).ends.length=0 then(0,p)else pickR c look state pos p).2∧Gro p (if(c.st state).ends.length=0 then(0,p)else pickR c look state pos p).2 0 0:=by
    split
    ·exact⟨h,Gro.refl p⟩
    ·rename_i he
     exact pickR_ok hg hv hl he hp0 hp1 h
   generalize (if(c.st state).ends.length=0 then((0:Int),p)else pickR c look state pos p)=i at hi
   obtain⟨i1,i2⟩:=hi
   split
   ·exact smTrs_nil
   ·rename_i hin
    split
    ·exact smTrs_nil
    ·rename_i hf
     have hmem:(c.st state).ed i.1∈(c.st state).edges:=ed_in ⟨by omega,by omega⟩
     have hed:=hg.edge state _ hmem
     have p1:=i1.pay (n:=1) (by omega) hf
     have he:=edgeR_ok hg hr hl (e:=(c.st state).ed i.1) ⟨hed.2.1,hed.2.2⟩ hp0 hp1 (real:=real) (out:=out) p1 (by have:=i1.few;show(i.2.known.length:Int)+1≤i.2.used+1;omega) (by have:=i1.spec1;show i.2.spec+1≤64*(i.2.used+1);omega)
     have hes:=edgeR_sm hg hfu (look:=look) hr hsm (e:=(c.st state).ed i.1) hed.2.1 hp0 hp1 (real:=real) (out:=out) p1 ho
     generalize edgeR c rec look ((c.st state).ed i.1) pos real out {i.2 with used:=i.2.used+1}=r at he hes
     obtain⟨k1,k2,k3⟩:=he
     split
     ·exact smTrs_nil
     ·rename_i o ho2
      obtain⟨o1,o2,_,_⟩:=k3 o ho2
      exact wayL_sm hg hv hfu hr hsm hl (over:=over) (real:=real) n ((c.st state).ed i.1).to o.2 o.1 r.2 k1 (by omega) o2 (hes o ho2)
theorem walkF_sm {c:DC}(hg:Rng c) (hv:Val c) (hfu:c.fuel≤1000000000) (N:Nat):∀d:Nat,d≤c.depth→RecSm c (walkF c N d)
 | 0,_=>fun st ov pos real p _ _ h hp0 hp1=>smTrs_nil
 | d+1,hd=>by
  have ih:=walkF_sm hg hv hfu N d (by omega)
  have ok:=walkF_ok hg hv N d (by omega)
  intro st ov pos real p _ _ h hp0 hp1
  rw[walkF_succ]
  have hdp:POk c {p with deep:=max p.deep (c.depth-d:Int)}:=⟨h.used0,h.used1,h.kn,h.few,h.spec0,h.spec1,by have:=h.deep0;show 0≤max p.deep _;omega,by have:=h.deep1;show max p.deep (c.depth-d:Int)≤_;omega⟩
  exact wayL_sm hg hv hfu ok ih (lookF_ok ok) (over:=ov) (real:=real) N st pos [] _ hdp hp0 hp1 smTrs_nil
theorem parseR_sm {c:DC}(hg:Rng c) (hv:Val c) (hf0:0≤c.fuel) (hfu:c.fuel≤1000000000) (h1:1≤c.starts.length) (N:Nat):smTr (parseR c N).tree:=by
 have hz:smTr .zero:=by
  unfold Tr.zero smTr
  exact⟨Nat.zero_le _,smTrs_nil⟩
 have hs:=hg.starts 0 ⟨Int.le_refl _,by omega⟩
 have p0:POk c ps0:=⟨Int.le_refl _,hf0,fun _ h=>(by cases h),Int.le_refl _,Int.le_refl _,Int.le_refl _,Int.le_refl _,by show(0:Int)≤(c.depth:Nat);omega⟩
 have a:=walkF_sm hg hv hfu N c.depth (Nat.le_refl _) (at0 c.starts 0) (at0 c.stops 0) 0 true ps0 hs.1 hs.2 p0 (Int.le_refl _) (by omega)
 obtain⟨b1,_,_,b4,_⟩:=walkF_ok hg hv N c.depth (Nat.le_refl _) (at0 c.starts 0) (at0 c.stops 0) 0 true ps0 hs.1 hs.2 p0 (Int.le_refl _) (by omega)
 unfold parseR
 simp only
 generalize walkF c N c.depth (at0 c.starts 0) (at0 c.stops 0) 0 true ps0=r at a b1 b4
 split
 ·exact hz
 ·split
  ·exact hz
  ·show smTr (.node 0 0 0 false r.1)
   unfold smTr
   refine⟨?_,a⟩
   have:=b1.used1
   have h9:(r.1.length:Int)≤r.2.2.used-0:=b4
   omega
end Drv
end Go.Proofs.Ytgflanlniejflaa
