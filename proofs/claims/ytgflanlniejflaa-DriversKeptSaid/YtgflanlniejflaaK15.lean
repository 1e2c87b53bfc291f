/-
  Drivers: a real walk that ended well: the walk.
-/
import Derived.Deep.CutRange
import Derived.Test.YtgflanlniejflaaK13
import Derived.Test.YtgflanlniejflaaK14
namespace Go.Proofs.Ytgflanlniejflaa
open Go.RowKit Go.Maps
open Go.Sort (grow)
set_option maxRecDepth 100000
set_option maxHeartbeats 1600000 in
theorem well_real (w:World) (f:Fx) (v:Vx) (k:Drv.Cf) (y:Drv.Wk) (rest:List Drv.Wk) (hl:Lim f) (h:PstAt w f v k) (hc:Drv.COk f.c k) (ho:k.opn=y ::rest) (hso:y.sort=0):
 Calls Try.prog 58 #[.pointer (some ⟨f.P,0,none⟩)] w (WellP f k w):=by
 have hW:=hc.wk y (by rw[ho];simp)
 have htop:=hc.top y (by rw[ho];simp)
 have hlow:=hc.low
 rw[ho]at hlow
 have hsz:=hc.size
 have hu1:=hc.used1
 have hlf:=hl.fuel
 have hld:=hl.depth
 have HW:=hid hW
 have H:=hid h
 have HL:=hid hl
 clear hW hc h hl
 go_enter Try.func58,Try.ntmps58
 go_wp2_with fail
 refine(popP_any w f v k y rest H.out ho (by omega)).mono ?_
 rintro e w1 ⟨v1,g,s,rfl,hb1,hP1,hW1,hg1,hs1,hgB⟩
 obtain⟨A,ca,xs,q1,q2,q3,q4⟩:=hW1
 obtain⟨SA,sc,rfl⟩:=row_form q3
 have hcap:y.subs.length≤sc:=by
  rcases q3.2 with⟨h2,_⟩ | ⟨_,_,_,hv,_,_,h3,_⟩
  ·injection h2 with _ _ h2;omega
  ·injection hv with _ _ hv;omega
 have hnone:SA=none→y.subs.length=0∧sc=0:=fun e=>by
  rcases q3.2 with⟨h2,h0⟩ | ⟨_,_,_,hv,_⟩
  ·injection h2 with _ _ h2;exact⟨h0,h2⟩
  ·injection hv with hv;rw[e]at hv;cases hv
 rw[hso]at q1
 obtain⟨k0,k1,_,_,_,k5,_⟩:=walk_cells q1
 have HP1:=hid hP1
 have HB1:=hid hb1
 have HQ1:=hid q1
 have e1:((0:Nat):Int)=0:=rfl
 rw[e1]at k0
 obtain⟨n,hn⟩:∃n,y.subs.length=n:=⟨_,rfl⟩
 rw[hn]at hcap hnone htop k5
 have HN:=hid hn
 have HQ3:=hid q3
 have HQ4:=hid q4
 clear hP1 hb1 q1 q2 q3 q4 e1 hn
 have hgl:=heap_lt HQ1.out
 go_upto_region 3 with fail
 have hS3:∀o:Obj,(w1.alloc o).drew.cell? ⟨g,1,none⟩=some (.int .i64 y.what)∧(w1.alloc o).drew.cell? ⟨g,5,none⟩=some (.slice SA n sc):=fun o=>by
  have hn:∀(b i:Nat),b<w1.heap.size→(w1.alloc o).drew.cell? ⟨b,i,none⟩=w1.cell? ⟨b,i,none⟩:=fun b i hb=>(below_new w1 o).drew.cell (p:=⟨b,i,none⟩) hb
  exact⟨(hn _ _ hgl).trans k1,(hn _ _ hgl).trans k5⟩
 go_cut[3]from 13 (fun v wx=>v= .pointer (some ⟨w1.heap.size,0,none⟩)∧wx=(w1.alloc (.cells #[.int .i64 y.what,.int .i64 0,.int .i64 0,.bool false,.slice SA n n] 65)).drew)
 case first=>
  go_region_held3 (fun w'=>w'.cell? ⟨g,1,none⟩=some (.int .i64 y.what)∧w'.cell? ⟨g,5,none⟩=some (.slice SA n sc)) (first | assumption | exact⟨k1,k5⟩ | exact hS3 _)
   (first | (go_simp;go_at_call 82;refine(clipT_any SA n sc _ hcap (by omega) hnone).mono ?_;rintro e w3 ⟨rfl,rfl⟩;dsimp only))
  all_goals
   go_wp2_with fail
   go_meet
   exact⟨rfl,rfl⟩
 case rest=>
  obtain⟨rfl,rfl⟩:=hcut
  have hb2:Below w1.heap.size w1 (w1.alloc (.cells #[.int .i64 y.what,.int .i64 0,.int .i64 0,.bool false,.slice SA n n] 65)).drew:=(below_new w1 _).drew
  have T2:(w1.alloc (.cells #[.int .i64 y.what,.int .i64 0,.int .i64 0,.bool false,.slice SA n n] 65)).drew.heap[w1.heap.size]? =some (.cells #[.int .i64 y.what,.int .i64 0,.int .i64 0,.bool false,.slice SA n n] 65 (0,0)):=heap_alloc_new w1 _
  generalize (w1.alloc (.cells #[.int .i64 y.what,.int .i64 0,.int .i64 0,.bool false,.slice SA n n] 65)).drew=w2 at hb2 T2⊢
  have ho2:Only (fun _=>False) w1 w2:=Only.of_below hb2
  have HP2:=hid (HP1.out.still ho2)
  have hPge:=HP1.out.geP
  have hPlt:=HP1.out.ltTS f.P (.inl rfl)
  have HB2:=hid (HB1.out.trans (ho2.below' (B:=f.B0) (fun _ e=>e.elim) (by omega)))
  have hTr:TrB w2 (TS f v1) f.B0 (.node y.what 0 0 false y.subs) [.int .i64 y.what,.int .i64 0,.int .i64 0,.bool false,.slice SA n n]:=by
   have h3:=HQ3.out
   have h4:=HQ4.out.1
   have h4':=TrsB.only (ho2.more (S':=TS f v1) fun _ _ e=>e.elim) (fun _ _ e=>e) _ _ h4
   unfold TrB
   have h3n:=h3
   rw[HN.out]at h3n
   refine⟨?_,(TopT.of_row (S:=TS f v1) h3n fun j e h=>hs1 j (by rw[HN.out];exact e) h).only ho2 (fun _ _ _ e=>e.elim) (fun _ _ _ e=>e) (Nat.le_refl _)⟩
   unfold TrV
   refine⟨SA,n,xs,by rw[HN.out],?_,h4'⟩
   exact(row_RO (S:=fun j=>TS f v1 j∨j<f.B0) h3 fun j e h=>h.elim (hs1 j e) fun h=>by have:=(World.ownsRow.lt h3 j e).1;omega).only (ho2.more fun _ _ e=>e.elim) (fun _ _ e=>e)
  have HTR:=hid hTr
  have hltT:=HP1.out.ltTS
  generalize htb:w1.heap.size=tb at*
  have ntb:¬TS f v1 tb:=fun e=>by have:=hltT tb e;omega
  clear hS3 HQ1 HQ3 HQ4 HP1 HB1 hb2 ho2 hltT hTr k0 k1 k5
  obtain⟨VA,Vc,hvo,_⟩:=HP2.out.row.form
  obtain⟨r,t,q,b,sv,hpar,_⟩:=HP2.out.par
  have c8:=(hpar.cell 8).1
  simp only[parCells,List.getElem?_toArray,List.getElem?_cons_succ,List.getElem?_cons_zero,hvo]at c8
  obtain⟨t0,t1,t2,t3,t4⟩:w2.cell? ⟨tb,0,none⟩=some (.int .i64 y.what)∧w2.cell? ⟨tb,1,none⟩=some (.int .i64 0)∧w2.cell? ⟨tb,2,none⟩=some (.int .i64 0)∧w2.cell? ⟨tb,3,none⟩=some (.bool false)∧w2.cell? ⟨tb,4,none⟩=some (.slice SA n n):=by
   refine⟨?_,?_,?_,?_,?_⟩ <;> (rw[Lib.cell_of_heap T2];rfl)
  cases rest with
  | nil=>
   have z:=fun j=>(hpar.cell j).2
   have z11:=z 11
   have z12:=z 12
   have z13:=z 13
   have z14:=z 14
   have z15:=z 15
   have c11:=(hpar.cell 11).1
   have c12:=(hpar.cell 12).1
   have c13:=(hpar.cell 13).1
   have c14:=(hpar.cell 14).1
   have c15:=(hpar.cell 15).1
   simp only[parCells,List.getElem?_toArray,List.getElem?_cons_succ,List.getElem?_cons_zero]at c11 c12 c13 c14 c15
   clear z
   have HPAR:=hid hpar
   clear hpar
   have p1:=HPAR.out.set (v':=⟨k.used,k.deep,k.spec,v1.vo,k.pos,(Drv.nonreal []:Nat),y.what,t,q,b,sv,k.e,k.ended⟩) 11 (.int .i64 y.what) rfl
   have p2:=p1.set (v':=⟨k.used,k.deep,k.spec,v1.vo,k.pos,(Drv.nonreal []:Nat),y.what,0,q,b,sv,k.e,k.ended⟩) 12 (.int .i64 0) rfl
   have p3:=p2.set (v':=⟨k.used,k.deep,k.spec,v1.vo,k.pos,(Drv.nonreal []:Nat),y.what,0,0,b,sv,k.e,k.ended⟩) 13 (.int .i64 0) rfl
   have p4:=p3.set (v':=⟨k.used,k.deep,k.spec,v1.vo,k.pos,(Drv.nonreal []:Nat),y.what,0,0,false,sv,k.e,k.ended⟩) 14 (.bool false) rfl
   have p5:=p4.set (v':=⟨k.used,k.deep,k.spec,v1.vo,k.pos,(Drv.nonreal []:Nat),y.what,0,0,false,.slice SA n n,k.e,k.ended⟩) 15 (.slice SA n n) rfl
   have o5:=((((Only.of_set w2 f.P 11 (.int .i64 y.what)).trans (Only.of_set _ f.P 12 (.int .i64 0)) fun _ _ e=>e).trans (Only.of_set _ f.P 13 (.int .i64 0)) fun _ _ e=>e).trans (Only.of_set _ f.P 14 (.bool false)) fun _ _ e=>e).trans (Only.of_set _ f.P 15 (.slice SA n n)) fun _ _ e=>e
   have P5:=hid p5
   have O5:=hid o5
   clear p1 p2 p3 p4 p5 o5
   go_upto_region 6 with fail
   clear t0 t1 t2 t3 t4 c8 z11 z12 z13 z14 z15 c11 c12 c13 c14 c15
   generalize ((((w2.setCell ⟨f.P,11,none⟩ (.int .i64 y.what)).setCell ⟨f.P,12,none⟩ (.int .i64 0)).setCell ⟨f.P,13,none⟩ (.int .i64 0)).setCell ⟨f.P,14,none⟩ (.bool false)).setCell ⟨f.P,15,none⟩ (.slice SA n n)=w5 at P5 O5⊢
   have HP5:=hid (HP2.out.treeSet O5.out P5.out HTR.out)
   have HB5:=hid (HB2.out.trans (O5.out.below' (B:=f.B0) (fun j e=>by rw[e];exact hPge) (by have:=HP2.out.ltTS f.P (.inl rfl);omega)))
   clear P5 O5 HPAR HP2 HB2 HTR T2
   go_wp2_with fail
   refine(endP_any w5 f v1 _ 0 HP5.out).mono ?_
   rintro e w6 ⟨rfl,hP6,hb6⟩
   have HP6:=hid hP6
   have HB6:=hid (HB5.out.trans hb6)
   clear hP6 hb6 HP5 HB5
   go_wp2
   go_end0
   refine⟨rfl,HB6.out,v1,?_⟩
   have hwell:Drv.wellM k= {k with opn:=[],tree:=.node y.what 0 0 false y.subs}.fin 0:=by
    unfold Drv.wellM
    rw[ho]
    simp only[hso]
   rw[hwell]
   exact HP6.out
  | cons up r=>
   obtain⟨vo,gu,gs,su,ss,rfl,hWu⟩:=HP2.out.split rfl
   have hne:decide ((((up ::r).length:Nat):Int)=0)=false:=decide_eq_false (by simp only[List.length_cons];omega)
   have hlen:k.opn.length=(up ::r).length+1:=by rw[ho];rfl
   have hlow1:=hlow up (by simp)
   clear hpar
   go_upto_region 7 with fail
   clear c8 hne
   go_wp2_with fail
   refine(topP_any w2 f vo su gu gs ss _ up r HP2.out rfl (by show(up ::r).length<1000000;omega)).mono ?_
   rintro e w3 ⟨rfl,ho3⟩
   have htbl:=heap_lt T2
   have t0:=(ho3.cell (o:=0) htbl (fun e=>e)).trans t0
   have t1:=(ho3.cell (o:=1) htbl (fun e=>e)).trans t1
   have t2:=(ho3.cell (o:=2) htbl (fun e=>e)).trans t2
   have t3:=(ho3.cell (o:=3) htbl (fun e=>e)).trans t3
   have t4:=(ho3.cell (o:=4) htbl (fun e=>e)).trans t4
   have T3:=(ho3.block _ htbl (fun e=>e)).trans T2
   have HP3:=hid (HP2.out.still ho3)
   have HB3:=hid (HB2.out.trans (ho3.below' (B:=f.B0) (fun _ e=>e.elim) (by have:=HP2.out.ltTS f.P (.inl rfl);omega)))
   have HTR3:=hid (TrB.only (ho3.more (S':=TS f ⟨vo,gu ::gs,su ::ss⟩) fun _ _ e=>e.elim) (fun _ _ e=>e) _ _ HTR.out)
   have hW3:=hWu.only ho3 (fun _ _ e=>e.elim) (fun _ _ e=>e) (fun e=>e) (fun _ _ e=>e)
   obtain⟨UA,uca,uxs,u1,u2,u3,u4⟩:=hW3
   obtain⟨XA,xc,rfl⟩:=row_form u3
   obtain⟨m,hm⟩:∃m,up.subs.length=m:=⟨_,rfl⟩
   rw[hm]at u1 u3 hlow1
   clear HP2 HB2 HTR hWu ho3 T2
   have hgul:=heap_lt u1
   have hgut:gu≠tb:=fun e=>ntb (by rw[←e];exact .inr (.inr (.inr (.inl (by simp)))))
   have s5:w3.cell? ⟨gu,5,none⟩=some (.slice XA m xc):=by rw[Lib.cell_of_heap u1];rfl
   have z5:=Lib.frozen_of_heap u1 5
   have U1:=hid u1
   have U2:=hid u2
   have U3:=hid u3
   have U4:=hid u4
   have HM:=hid hm
   clear u1 u2 u3 u4 hm
   obtain⟨i0,hi0,hz0,hsz0,hy0⟩:=info_parts infoTree
   go_upto_region 8 with fail
   refine wp_region_late (l:=7) (S:=(fun w'=>(w'.cell? ⟨tb,0,none⟩=some (.int .i64 y.what)∧w'.cell? ⟨tb,1,none⟩=some (.int .i64 0)∧w'.cell? ⟨tb,2,none⟩=some (.int .i64 0)∧w'.cell? ⟨tb,3,none⟩=some (.bool false)∧w'.cell? ⟨tb,4,none⟩=some (.slice SA n n))∧w'.cell? ⟨gu,5,none⟩=some (.slice XA m xc))) (by kernel_rfl) ⟨⟨t0,t1,t2,t3,t4⟩,s5⟩ (fun hHeld=>?_)
   refine wpAnyF_take (i:=0) (.pointer (some ⟨gu,0,none⟩)) rfl (by kernel_rfl) (by kernel_rfl) (by kernel_rfl) (by kernel_rfl) (fun _ _ _ h=>h) hHeld (by rfl) (fun w' hSw=>?_) ?_
   ·obtain⟨⟨s0,s1,s2,s3,s4⟩,s5⟩:=hSw;go_simp
   simp only[Act.put]
   refine wpAnyF_take (i:=1) (.pointer (some ⟨gu,0,none⟩)) rfl (by kernel_rfl) (by kernel_rfl) (by kernel_rfl) (by kernel_rfl) (fun _ _ _ h=>h) hHeld (by rfl) (fun w' hSw=>?_) ?_
   ·obtain⟨⟨s0,s1,s2,s3,s4⟩,s5⟩:=hSw;go_simp
   simp only[Act.put]
   refine wpAnyF_take (i:=2) (.pointer (some ⟨gu,5,none⟩)) rfl (by kernel_rfl) (by kernel_rfl) (by kernel_rfl) (by kernel_rfl) (fun _ _ _ h=>h) hHeld (by rfl) (fun w' hSw=>?_) ?_
   ·obtain⟨⟨s0,s1,s2,s3,s4⟩,s5⟩:=hSw;go_simp
   simp only[Act.put]
   refine wpAnyF_take (i:=3) (.slice XA m xc) rfl (by kernel_rfl) (by kernel_rfl) (by kernel_rfl) (by kernel_rfl) (fun _ _ _ h=>h) hHeld (by rfl) (fun w' hSw=>?_) ?_
   ·obtain⟨⟨s0,s1,s2,s3,s4⟩,s5⟩:=hSw;go_simp
   simp only[Act.put]
   refine wpAnyF_take (i:=4) (.agg #[.int .i64 y.what,.int .i64 0,.int .i64 0,.bool false,.slice SA n n]) rfl (by kernel_rfl) (by kernel_rfl) (by kernel_rfl) (by kernel_rfl) (fun _ _ _ h=>h) hHeld (by rfl) (fun w' hSw=>?_) ?_
   ·obtain⟨⟨s0,s1,s2,s3,s4⟩,s5⟩:=hSw;go_simp
   simp only[Act.put]
   refine wpAnyF_take (i:=5) (.int .i64 m) rfl (by kernel_rfl) (by kernel_rfl) (by kernel_rfl) (by kernel_rfl) (fun _ _ _ h=>h) hHeld (by rfl) (fun w' hSw=>?_) ?_
   ·obtain⟨⟨s0,s1,s2,s3,s4⟩,s5⟩:=hSw;go_simp
   simp only[Act.put]
   refine wpAnyF_step 6 (by kernel_rfl) rfl (fun K hK=>?_)
   go_simp
   have hcA:∀(b i:Nat),b<w3.heap.size→(w3.drew.alloc (.cells #[.int .i64 0,.int .i64 0,.int .i64 0,.bool false,.slice none 0 0] 65)).cell? ⟨b,i,none⟩=w3.cell? ⟨b,i,none⟩:=fun b i hb=>(below_new w3.drew _).cell (p:=⟨b,i,none⟩) hb
   have htb3:=heap_lt T3
   refine hK _ _ ⟨⟨(hcA tb 0 htb3).trans t0,(hcA tb 1 htb3).trans t1,(hcA tb 2 htb3).trans t2,(hcA tb 3 htb3).trans t3,(hcA tb 4 htb3).trans t4⟩,(hcA gu 5 hgul).trans s5⟩ (fun _=>?_)
   clear hK hcA hHeld
   clear K
   refine wpAnyF_turn 7 (by kernel_rfl) rfl (by decide) (by decide) (fun K hK=>?_)
   have hmx:m+1≤maxLen:=by simp only[maxLen];omega
   have hmy:(m+1)*56≤140737488355328:=by omega
   refine step_push4 w3.drew rfl _ _ 63 rfl f.B0 65 i0 _ 5 56 Try.underlying63 hi0 hz0 hsz0 hy0 rfl (by omega) (.slice XA m xc) m uxs rfl U3.out.drew [.int .i64 0,.int .i64 0,.int .i64 0,.bool false,.slice none 0 0] 1 _ rfl rfl rfl (by simp[Value.oneCell']) Nat.zero_lt_one hmx hmy ?_ ?_
   ·have:=HP3.out.ltTS f.P (.inl rfl)
    have h2:=HP3.out.geP
    show f.B0≤w3.heap.size
    omega
   intro gn cn wn hownN hgN hoN
   refine hK _ _ ?_
   clear hK
   clear K
   have hgun:¬gu=gn:=fun e=>row_not hownN ((hoN.block gu hgul (row_not U3.out U1.out (by decide))).trans U1.out) (by decide) (by rw[e];rfl)
   have gnot:=row_not U3.out U1.out (by decide)
   have N1:wn.heap[gu]? =_:=(hoN.block gu hgul gnot).trans U1.out
   have s5N:wn.cell? ⟨gu,5,none⟩=some (.slice XA m xc):=by rw[Lib.cell_of_heap N1];rfl
   have z5N:=Lib.frozen_of_heap N1 5
   have zgN:∀i,wn.frozen? ⟨gn,i,none⟩=false:=own_frozen hownN
   obtain⟨g0,g1,g2,g3,g4⟩:wn.cell? ⟨gn,m*5,none⟩=some (.int .i64 0)∧wn.cell? ⟨gn,m*5+1,none⟩=some (.int .i64 0)∧wn.cell? ⟨gn,m*5+2,none⟩=some (.int .i64 0)∧wn.cell? ⟨gn,m*5+3,none⟩=some (.bool false)∧wn.cell? ⟨gn,m*5+4,none⟩=some (.slice none 0 0):=by
    obtain⟨b,off,hb,_,hc⟩:=(Reads.of_own hownN).2 (by omega)
    injection hb with hb
    injection hb with hb ho _
    subst hb ho
    have hlx:uxs.length=m*5:=U3.out.1
    have hc':∀j u,(uxs++ [.int .i64 0,.int .i64 0,.int .i64 0,.bool false,.slice none 0 0])[j]? =some u→wn.cell? ⟨gn,j,none⟩=some u:=fun j u hu=>by
     have:=hc j u hu
     simpa using this
    refine⟨hc' _ _ ?_,hc' _ _ ?_,hc' _ _ ?_,hc' _ _ ?_,hc' _ _ ?_⟩ <;> (rw[List.getElem?_append_right (by omega),hlx];simp)
   have fin:∀wF:World,wF.ownsRow f.B0 65 5 (.slice (some ⟨gn,0,none⟩) (m+1) cn) (m+1) (uxs++ [.int .i64 y.what,.int .i64 0,.int .i64 0,.bool false,.slice SA n n])→Only (fun j=>j=gn∨j=gu) wn wF→
    wF.heap[gu]? =some (.cells (walkCells (up.sort:Nat) up.what up.start up.state up.over (.slice (some ⟨gn,0,none⟩) (m+1) cn) (.slice UA up.alts.length uca)) 116 (0,0))→WellP f k w (.returned (.tuple #[])) wF:=by
    intro wF hr ho1 hgw
    have hN3:Only (fun j=>j=gu∨(Value.slice XA m xc).ownBlock=some j) w3 wn:=Only.more ⟨hoN.os,hoN.tape,hoN.output,hoN.size,hoN.block⟩ fun _ _ e=>.inr e
    have hO:Only (fun j=>j=gu∨(Value.slice XA m xc).ownBlock=some j) w3 wF:=hN3.trans ho1 fun j hj e=>by
     rcases e with rfl | e
     ·rcases hgN with h' | h'
      ·exact .inr h'
      ·exact absurd h' (by show¬w3.heap.size<_;omega)
     ·exact .inl e
    have hgn':(Value.slice XA m xc).ownBlock=some gn∨w3.heap.size≤gn:=hgN.imp id fun h'=>Nat.le_of_lt h'
    have q1:=HP3.out
    have q2:=U2.out
    have q3:=U4.out.1
    have q4:=HTR3.out
    rw[HM.out]at q1 q2 q3 q4
    have hP:=q1.pushTree up.state rfl q2 q3 q4 HM.out U4.out.2 hgn' hO hgw hr
    refine⟨rfl,HB3.out.trans (hO.below' (fun j e=>q1.ge j ?_) ?_),⟨vo,gu ::gs,.slice (some ⟨gn,0,none⟩) (m+1) cn ::ss⟩,?_⟩
    ·rcases e with rfl | e
     ·exact .inr (.inr (.inr (.inl (by simp))))
     ·exact .inr (.inr (.inr (.inr ⟨_,by simp,e⟩)))
    ·have:=HP3.out.ltTS f.P (.inl rfl)
     have h2:=HP3.out.geP
     omega
    ·have hwell:Drv.wellM k= {k with opn:={up with subs:=up.subs++ [.node y.what 0 0 false y.subs],state:=up.state} ::r}:=by
      unfold Drv.wellM
      rw[ho]
      simp only[hso]
     rw[hwell]
     exact hP
   have FIN:=hid fin
   clear fin
   simp only[Act.put]
   refine wpAny_take (i:=8) (v:=.pointer (some ⟨gn,m*5,none⟩)) rfl (by kernel_rfl) (by kernel_rfl) (by kernel_rfl) (fun _ _ _ h=>h) (Or.inl ⟨by rfl,fun w=>(by go_simp;intro h';omega)⟩) ?_
   simp only[Act.put]
   refine wpAny_take (i:=10) (v:=.pointer (some ⟨gu,0,none⟩)) rfl (by kernel_rfl) (by kernel_rfl) (by kernel_rfl) (fun _ _ _ h=>h) (Or.inl ⟨by rfl,fun w=>(by go_simp)⟩) ?_
   simp only[Act.put]
   refine wpAny_take (i:=11) (v:=.pointer (some ⟨gu,5,none⟩)) rfl (by kernel_rfl) (by kernel_rfl) (by kernel_rfl) (fun _ _ _ h=>h) (Or.inl ⟨by rfl,fun w=>(by go_simp)⟩) ?_
   simp only[Act.put]
   refine wpAny_ready (rs:=[9,12]) (by kernel_rfl) (by simp) ?_
   refine AllReady.cons rfl (fun K hK=>?_) (AllReady.cons rfl (fun K hK=>?_) AllReady.nil)
   ·go_simp
    refine hK _ _ ?_
    clear hK
    clear K
    obtain⟨rA,oA⟩:=row_last5 hownN U3.out.1 (.int .i64 y.what) (.int .i64 0) (.int .i64 0) (.bool false) (.slice SA n n)
    generalize ((((wn.setCell ⟨gn,m*5,none⟩ (.int .i64 y.what)).setCell ⟨gn,m*5+1,none⟩ (.int .i64 0)).setCell ⟨gn,m*5+2,none⟩ (.int .i64 0)).setCell ⟨gn,m*5+3,none⟩ (.bool false)).setCell ⟨gn,m*5+4,none⟩ (.slice SA n n)=wA at rA oA⊢
    have N2:=(oA.block gu (heap_lt N1) hgun).trans N1
    have s5A:wA.cell? ⟨gu,5,none⟩=some (.slice XA m xc):=by rw[Lib.cell_of_heap N2];rfl
    have z5A:=Lib.frozen_of_heap N2 5
    refine wpAny_ready (rs:=[12]) (by kernel_rfl) (by simp) (AllReady.cons rfl (fun K hK=>?_) AllReady.nil)
    go_simp
    refine hK _ _ (wpAny_done (by kernel_rfl) ?_ _)
    go_end0
    refine FIN.out _ (own_setTb rA N2 (by decide)) ((oA.more fun _ _ e=>.inl e).trans ((Only.of_set wA gu 5 _).more fun _ _ e=>.inr e) fun _ _ e=>e) ?_
    exact heap_setCell_same wA gu 5 _ _ _ N2
   ·go_simp
    refine hK _ _ ?_
    clear hK
    clear K
    obtain⟨rA,oA⟩:=row_last5 (own_setTb (u:=.slice (some ⟨gn,0,none⟩) (m+1) cn) (o:=5) hownN N1 (by decide)) U3.out.1 (.int .i64 y.what) (.int .i64 0) (.int .i64 0) (.bool false) (.slice SA n n)
    have oB:=Only.of_set wn gu 5 (.slice (some ⟨gn,0,none⟩) (m+1) cn)
    have N2:=heap_setCell_same wn gu 5 _ _ (.slice (some ⟨gn,0,none⟩) (m+1) cn) N1
    have zB:∀i,(wn.setCell ⟨gu,5,none⟩ (.slice (some ⟨gn,0,none⟩) (m+1) cn)).frozen? ⟨gn,i,none⟩=false:=fun i=>own_frozen (own_setTb hownN N1 (by decide)) i
    have cB:∀i,(wn.setCell ⟨gu,5,none⟩ (.slice (some ⟨gn,0,none⟩) (m+1) cn)).cell? ⟨gn,i,none⟩=wn.cell? ⟨gn,i,none⟩:=fun i=>by simp only[World.cell?];rw[heap_setCell_other _ _ _ _ (fun e=>hgun e.symm)]
    have g0:=(cB _).trans g0
    have g1:=(cB _).trans g1
    have g2:=(cB _).trans g2
    have g3:=(cB _).trans g3
    have g4:=(cB _).trans g4
    clear cB zgN s5N z5N
    generalize wn.setCell ⟨gu,5,none⟩ (.slice (some ⟨gn,0,none⟩) (m+1) cn)=wB at rA oA oB N2 zB g0 g1 g2 g3 g4⊢
    refine wpAny_ready (rs:=[9]) (by kernel_rfl) (by simp) (AllReady.cons rfl (fun K hK=>?_) AllReady.nil)
    go_simp
    refine hK _ _ (wpAny_done (by kernel_rfl) ?_ _)
    go_end0
    refine FIN.out _ rA ((oB.more fun _ _ e=>.inr e).trans (oA.more fun _ _ e=>.inl e) fun _ _ e=>e) ?_
    exact(oA.block gu (heap_lt N2) hgun).trans N2
end Go.Proofs.Ytgflanlniejflaa
