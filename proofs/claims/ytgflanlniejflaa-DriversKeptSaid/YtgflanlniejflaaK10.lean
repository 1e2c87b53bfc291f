/-
  Drivers: Shk, IdxE (texts joined).
-/
import Derived.Test.YtgflanlniejflaaK01
import Derived.Test.YtgflanlniejflaaK09
namespace Go.Proofs.Ytgflanlniejflaa
open Go.RowKit
set_option maxRecDepth 100000
theorem infoZ:(Try.prog.info? 3).map (fun i=>(i.zero,i.size,i.bytes))=some (some (.int .i64 0),1,8):=by kernel_rfl
theorem infoAE:(Try.prog.info? 60).map (fun i=>(i.zero,i.size,i.bytes))=some (some (.agg #[.int .u8 0,.int .i64 0,.int .i64 0]),3,24):=by kernel_rfl
theorem infoLE:(Try.prog.info? 62).map (fun i=>(i.zero,i.size,i.bytes))=some (some (.agg #[.int .i64 0,.int .i64 0]),2,16):=by kernel_rfl
theorem info_of {P:Program}{T:TypeId}{z:Value}{s b:Nat}(h:(P.info? T).map (fun i=>(i.zero,i.size,i.bytes))=some (some z,s,b)):∃i,P.info? T=some i∧i.zero=some z∧i.size=s∧i.bytes=b:=by
 cases hi:P.info? T with
 | none=>rw[hi]at h;cases h
 | some i=>
  rw[hi]at h
  simp only[Option.map_some,Option.some.injEq,Prod.mk.injEq]at h
  exact⟨i,rfl,h.1,h.2.1,h.2.2⟩
def CloneP (T:TypeId) (size n:Nat) (xs:List Value) (w:World) (e:Ending) (w':World):Prop:=
 ∃A c,e= .returned (.slice A n c)∧w'.ownsRow w.heap.size T size (.slice A n c) n xs∧Below w.heap.size w w'
theorem addr_off (b off j:Nat):(⟨b,off,none⟩:Addr).add j=⟨b,off+j,none⟩:=by
 unfold Addr.add
 by_cases h:j=0 <;> simp[h]
theorem reads_some {w:World}{B size n:Nat}{a:Addr}{xs:List Value}(h:Reads w B size (some a) n xs) (_:0<size):∀j u,xs[j]? =some u→w.cell? (a.add j)=some u:=by
 intro j u hu
 have hj:j<xs.length:=(List.getElem?_eq_some_iff.1 hu).1
 have hn:0<n:=by
  rcases Nat.eq_zero_or_pos n with e | e
  ·rw[h.1,e]at hj;omega
  ·exact e
 obtain⟨b,off,e,_,hc⟩:=h.2 hn
 injection e with e
 rw[e,addr_off]
 exact hc j u hu
set_option maxHeartbeats 2000000 in
theorem cloneZ_any (A:Option Addr) (n c B:Nat) (xs:List Value) (w:World) (hn:n≤1000000000) (hr:Reads w B 1 A n xs) (h1:∀u∈xs,u.oneCell'=true):
 Calls Try.prog 47 #[.slice A n c] w (CloneP 3 1 n xs w):=by
 obtain⟨i0,hi,hz0,hz1,hz2⟩:=info_of infoZ
 have q22:∀(w:World) (a:Option Addr) (n c n' c':Nat),(binOp .eql 23 (.slice a n c) (.slice none n' c')).run Try.prog w= .ok (.bool a.isNone) w:=fun w a n c n' c'=>Lib.run_eql_slice_nil w _ _ a n c n' c' Try.underlying23
 cases A with
 | none=>
  have hn0:n=0:=by
   rcases Nat.eq_zero_or_pos n with e | e
   ·exact e
   ·obtain⟨b,off,e,_⟩:=hr.2 e;cases e
  subst hn0
  have hx:xs= []:=List.length_eq_zero_iff.1 (by rw[hr.1,Nat.zero_mul])
  subst hx
  clear hr h1
  go_enter Try.func47,Try.ntmps47
  go_wp2
  go_ret
  exact⟨none,0,rfl,World.ownsRow_nil _ _ _ _,Below.refl _ _⟩
 | some a=>
  have hcell:=reads_some hr (by decide)
  have HLn:=hid hr.1
  clear hr
  have HC:=hid hcell
  clear hcell
  go_enter Try.func47,Try.ntmps47
  go_wp2_with (at_builtin;refine wpList_append_own _ rfl _ _ 23 rfl w.heap.size 3 i0 _ 1 8 Try.underlying23 hi hz0 hz1 hz2 rfl (by decide) _ _ _ rfl (World.ownsRow_made w #[] 0 (Nat.le_refl _) (Nat.zero_le _) rfl) a n c xs rfl ?qc1 ?qc2 ?qc3 ?qc4 ?qc5 ?qc6 ?_)
  case qc1=>exact HLn.out
  case qc2=>
   intro j u hj
   exact Lib.cell?_alloc_some _ (HC.out j u hj)
  case qc3=>exact h1
  case qc4=>unfold maxLen;omega
  case qc5=>omega
  case qc6=>simp
  intro v' w1 hown hgrow hnil
  go_wp2
  go_ret
  have hown:w1.ownsRow w.heap.size 3 1 v' n xs:=by simpa using hown
  obtain⟨A',c',rfl⟩:=row_form hown
  exact⟨A',c',rfl,hown,((Below.refl _ w).alloc (Nat.le_refl _) _).grown hgrow (by simp) (by intro k hk;simp[Value.ownBlock]at hk;omega)⟩
set_option maxHeartbeats 2000000 in
theorem cloneE_any (A:Option Addr) (n c B:Nat) (xs:List Value) (w:World) (hn:n≤1000000000) (hr:Reads w B 3 A n xs) (h1:∀u∈xs,u.oneCell'=true):
 Calls Try.prog 48 #[.slice A n c] w (CloneP 60 3 n xs w):=by
 obtain⟨i0,hi,hz0,hz1,hz2⟩:=info_of infoAE
 have q22:∀(w:World) (a:Option Addr) (n c n' c':Nat),(binOp .eql 45 (.slice a n c) (.slice none n' c')).run Try.prog w= .ok (.bool a.isNone) w:=fun w a n c n' c'=>Lib.run_eql_slice_nil w _ _ a n c n' c' Try.underlying45
 cases A with
 | none=>
  have hn0:n=0:=by
   rcases Nat.eq_zero_or_pos n with e | e
   ·exact e
   ·obtain⟨b,off,e,_⟩:=hr.2 e;cases e
  subst hn0
  have hx:xs= []:=List.length_eq_zero_iff.1 (by rw[hr.1,Nat.zero_mul])
  subst hx
  clear hr h1
  go_enter Try.func48,Try.ntmps48
  go_wp2
  go_ret
  exact⟨none,0,rfl,World.ownsRow_nil _ _ _ _,Below.refl _ _⟩
 | some a=>
  have hcell:=reads_some hr (by decide)
  have HLn:=hid hr.1
  clear hr
  have HC:=hid hcell
  clear hcell
  go_enter Try.func48,Try.ntmps48
  go_wp2_with (at_builtin;refine wpList_append_own _ rfl _ _ 45 rfl w.heap.size 60 i0 _ 3 24 Try.underlying45 hi hz0 hz1 hz2 rfl (by decide) _ _ _ rfl (World.ownsRow_made w #[] 0 (Nat.le_refl _) (Nat.zero_le _) rfl) a n c xs rfl ?qc1 ?qc2 ?qc3 ?qc4 ?qc5 ?qc6 ?_)
  case qc1=>exact HLn.out
  case qc2=>
   intro j u hj
   exact Lib.cell?_alloc_some _ (HC.out j u hj)
  case qc3=>exact h1
  case qc4=>unfold maxLen;omega
  case qc5=>omega
  case qc6=>simp
  intro v' w1 hown hgrow hnil
  go_wp2
  go_ret
  have hown:w1.ownsRow w.heap.size 60 3 v' n xs:=by simpa using hown
  obtain⟨A',c',rfl⟩:=row_form hown
  exact⟨A',c',rfl,hown,((Below.refl _ w).alloc (Nat.le_refl _) _).grown hgrow (by simp) (by intro k hk;simp[Value.ownBlock]at hk;omega)⟩
set_option maxHeartbeats 2000000 in
theorem cloneL_any (A:Option Addr) (n c B:Nat) (xs:List Value) (w:World) (hn:n≤1000000000) (hr:Reads w B 2 A n xs) (h1:∀u∈xs,u.oneCell'=true):
 Calls Try.prog 52 #[.slice A n c] w (CloneP 62 2 n xs w):=by
 obtain⟨i0,hi,hz0,hz1,hz2⟩:=info_of infoLE
 have q22:∀(w:World) (a:Option Addr) (n c n' c':Nat),(binOp .eql 52 (.slice a n c) (.slice none n' c')).run Try.prog w= .ok (.bool a.isNone) w:=fun w a n c n' c'=>Lib.run_eql_slice_nil w _ _ a n c n' c' Try.underlying52
 cases A with
 | none=>
  have hn0:n=0:=by
   rcases Nat.eq_zero_or_pos n with e | e
   ·exact e
   ·obtain⟨b,off,e,_⟩:=hr.2 e;cases e
  subst hn0
  have hx:xs= []:=List.length_eq_zero_iff.1 (by rw[hr.1,Nat.zero_mul])
  subst hx
  clear hr h1
  go_enter Try.func52,Try.ntmps52
  go_wp2
  go_ret
  exact⟨none,0,rfl,World.ownsRow_nil _ _ _ _,Below.refl _ _⟩
 | some a=>
  have hcell:=reads_some hr (by decide)
  have HLn:=hid hr.1
  clear hr
  have HC:=hid hcell
  clear hcell
  go_enter Try.func52,Try.ntmps52
  go_wp2_with (at_builtin;refine wpList_append_own _ rfl _ _ 52 rfl w.heap.size 62 i0 _ 2 16 Try.underlying52 hi hz0 hz1 hz2 rfl (by decide) _ _ _ rfl (World.ownsRow_made w #[] 0 (Nat.le_refl _) (Nat.zero_le _) rfl) a n c xs rfl ?qc1 ?qc2 ?qc3 ?qc4 ?qc5 ?qc6 ?_)
  case qc1=>exact HLn.out
  case qc2=>
   intro j u hj
   exact Lib.cell?_alloc_some _ (HC.out j u hj)
  case qc3=>exact h1
  case qc4=>unfold maxLen;omega
  case qc5=>omega
  case qc6=>simp
  intro v' w1 hown hgrow hnil
  go_wp2
  go_ret
  have hown:w1.ownsRow w.heap.size 62 2 v' n xs:=by simpa using hown
  obtain⟨A',c',rfl⟩:=row_form hown
  exact⟨A',c',rfl,hown,((Below.refl _ w).alloc (Nat.le_refl _) _).grown hgrow (by simp) (by intro k hk;simp[Value.ownBlock]at hk;omega)⟩
theorem clipZ_any (A:Option Addr) (n c:Nat) (w:World) (hc:n≤c):Calls Try.prog 98 #[.slice A n c] w fun e w'=>e= .returned (.slice A n n)∧w'=w:=by
 go_enter Try.func98,Try.ntmps98
 go_wp2
 go_ret
 exact⟨rfl,rfl⟩
end Go.Proofs.Ytgflanlniejflaa
namespace Go.Proofs.Ytgflanlniejflaa
open Go.RowKit
set_option maxRecDepth 100000
theorem ret_int {k:IntKind}{i j:Int}(h:i=j):Ending.returned (.int k i)= .returned (.int k j):=by rw[h]
def idxI {α:Type}(p:α→Bool) (l:List α):Int:=match l.findIdx? p with | some i=>i | none=>-1
theorem idxI_hit {α:Type}(p:α→Bool) (l:List α) (k:Nat) (hk:k<l.length) (h:p l[k]=true) (hn:∀j (hj:j<k),p (l[j]'(by omega))=false):idxI p l=k:=by
 unfold idxI
 have:l.findIdx? p=some k:=by
  rw[List.findIdx?_eq_some_iff_getElem]
  exact⟨hk,h,fun j hj=>by simp[hn j hj]⟩
 rw[this]
theorem idxI_miss {α:Type}(p:α→Bool) (l:List α) (hn:∀j (hj:j<l.length),p l[j]=false):idxI p l= -1:=by
 unfold idxI
 have:l.findIdx? p=none:=by
  rw[List.findIdx?_eq_none_iff]
  intro x hx
  obtain⟨j,hj,rfl⟩:=List.getElem_of_mem hx
  exact hn j hj
 rw[this]
theorem idxI_any' {α:Type}(p:α→Bool) (l:List α):decide (0≤idxI p l)=l.any p:=by
 unfold idxI
 cases h:l.findIdx? p with
 | none=>
  have:=List.findIdx?_eq_none_iff.1 h
  have:l.any p=false:=by simpa using this
  rw[this];decide
 | some i=>
  obtain⟨h1,h2,_⟩:=List.findIdx?_eq_some_iff_getElem.1 h
  have:l.any p=true:=List.any_eq_true.2 ⟨_,List.getElem_mem h1,h2⟩
  rw[this];simp
def PredC1 {α:Type}(g:Nat) (cb:Array Value) (q:α→Bool) (l:List α) (vs:List Value) (w:World):Prop:=
 ∀(wr:World) (i:Nat) (x0:Value) (hi:i<l.length),vs[i]? =some x0→Below w.heap.size w wr→Calls Try.prog g (#[x0]++cb) wr fun e w'=>e= .returned (.bool (q l[i]))∧Below wr.heap.size wr w'
theorem readsC1 {w w':World}{B n:Nat}{A:Option Addr}{vs:List Value}(hr:Reads w B 1 A n vs) (hb:Below B w w') (i:Nat) (hi:i<n):
 ∃b off x0,A=some ⟨b,off,none⟩∧b<B∧w'.cell? ⟨b,off+i,none⟩=some x0∧vs[i]? =some x0:=by
 obtain⟨b,off,rfl,hbl,hcell⟩:=hr.2 (by omega)
 have hl:=hr.1
 have h0:=List.getElem?_eq_getElem (l:=vs) (i:=i) (by omega)
 refine⟨b,off,vs[i]'(by omega),rfl,hbl,(hb.cell (p:=⟨b,off+i,none⟩) hbl).trans (by have:=hcell (i) _ h0;simpa[Nat.add_assoc]using this),h0⟩
def PredC2 {α:Type}(g:Nat) (cb:Array Value) (q:α→Bool) (l:List α) (vs:List Value) (w:World):Prop:=
 ∀(wr:World) (i:Nat) (x0 x1:Value) (hi:i<l.length),vs[i*2]? =some x0→vs[i*2+1]? =some x1→Below w.heap.size w wr→Calls Try.prog g (#[.agg #[x0,x1]]++cb) wr fun e w'=>e= .returned (.bool (q l[i]))∧Below wr.heap.size wr w'
theorem readsC2 {w w':World}{B n:Nat}{A:Option Addr}{vs:List Value}(hr:Reads w B 2 A n vs) (hb:Below B w w') (i:Nat) (hi:i<n):
 ∃b off x0 x1,A=some ⟨b,off,none⟩∧b<B∧w'.cell? ⟨b,off+i*2,none⟩=some x0∧w'.cell? ⟨b,off+i*2+1,none⟩=some x1∧vs[i*2]? =some x0∧vs[i*2+1]? =some x1:=by
 obtain⟨b,off,rfl,hbl,hcell⟩:=hr.2 (by omega)
 have hl:=hr.1
 have h0:=List.getElem?_eq_getElem (l:=vs) (i:=i*2) (by omega)
 have h1:=List.getElem?_eq_getElem (l:=vs) (i:=i*2+1) (by omega)
 refine⟨b,off,vs[i*2]'(by omega),vs[i*2+1]'(by omega),rfl,hbl,(hb.cell (p:=⟨b,off+i*2,none⟩) hbl).trans (by have:=hcell (i*2) _ h0;simpa[Nat.add_assoc]using this),(hb.cell (p:=⟨b,off+i*2+1,none⟩) hbl).trans (by have:=hcell (i*2+1) _ h1;simpa[Nat.add_assoc]using this),h0,h1⟩
def PredC3 {α:Type}(g:Nat) (cb:Array Value) (q:α→Bool) (l:List α) (vs:List Value) (w:World):Prop:=
 ∀(wr:World) (i:Nat) (x0 x1 x2:Value) (hi:i<l.length),vs[i*3]? =some x0→vs[i*3+1]? =some x1→vs[i*3+2]? =some x2→Below w.heap.size w wr→Calls Try.prog g (#[.agg #[x0,x1,x2]]++cb) wr fun e w'=>e= .returned (.bool (q l[i]))∧Below wr.heap.size wr w'
theorem readsC3 {w w':World}{B n:Nat}{A:Option Addr}{vs:List Value}(hr:Reads w B 3 A n vs) (hb:Below B w w') (i:Nat) (hi:i<n):
 ∃b off x0 x1 x2,A=some ⟨b,off,none⟩∧b<B∧w'.cell? ⟨b,off+i*3,none⟩=some x0∧w'.cell? ⟨b,off+i*3+1,none⟩=some x1∧w'.cell? ⟨b,off+i*3+2,none⟩=some x2∧vs[i*3]? =some x0∧vs[i*3+1]? =some x1∧vs[i*3+2]? =some x2:=by
 obtain⟨b,off,rfl,hbl,hcell⟩:=hr.2 (by omega)
 have hl:=hr.1
 have h0:=List.getElem?_eq_getElem (l:=vs) (i:=i*3) (by omega)
 have h1:=List.getElem?_eq_getElem (l:=vs) (i:=i*3+1) (by omega)
 have h2:=List.getElem?_eq_getElem (l:=vs) (i:=i*3+2) (by omega)
 refine⟨b,off,vs[i*3]'(by omega),vs[i*3+1]'(by omega),vs[i*3+2]'(by omega),rfl,hbl,(hb.cell (p:=⟨b,off+i*3,none⟩) hbl).trans (by have:=hcell (i*3) _ h0;simpa[Nat.add_assoc]using this),(hb.cell (p:=⟨b,off+i*3+1,none⟩) hbl).trans (by have:=hcell (i*3+1) _ h1;simpa[Nat.add_assoc]using this),(hb.cell (p:=⟨b,off+i*3+2,none⟩) hbl).trans (by have:=hcell (i*3+2) _ h2;simpa[Nat.add_assoc]using this),h0,h1,h2⟩
set_option maxHeartbeats 1600000 in
theorem indexZ_any {α:Type}(g:Nat) (cb:Array Value) (q:α→Bool) (eg:∀args w,(callFunc g args).run Try.prog w= .ok (.enter g args) w)
 (A:Option Addr) (c B:Nat) (l:List α) (vs:List Value) (w:World) (hm:l.length≤1000000000) (hB:B≤w.heap.size) (hr:Reads w B 1 A l.length vs) (hp:PredC1 g cb q l vs w):
 Calls Try.prog 65 #[.slice A l.length c,.func (.func g) #[] cb] w fun e w'=>e= .returned (.int .i64 (idxI q l))∧Below w.heap.size w w':=by
 have hr:Reads w w.heap.size 1 A l.length vs:=hr.more hB
 have HP:=hid hp
 clear hp
 go_enter Try.func65,Try.ntmps65
 go_wp2
 go_loopw[5,8] (fun _ i wr=>∃k:Nat,k≤l.length∧i= .int .i64 k∧Hid (∀j (hj:j<l.length),j<k→q l[j]=false)∧Below w.heap.size w wr) (fun _ i _=>l.length-(intOf i).toNat)
 case atStart=>exact⟨0,Nat.zero_le _,rfl,fun j _ hj=>absurd hj (by omega),Below.refl _ _⟩
 case round=>
  obtain⟨k,hk,rfl,HN,hb⟩:=hrel
  by_cases hlt:k<l.length
  ·obtain⟨b,off,x0,rfl,hbl,c0,g0⟩:=readsC1 hr hb k hlt
   have HC:=hid (HP.out wr k x0 hlt g0 hb)
   clear g0
   obtain⟨qv,he⟩:∃qv,q (l[k]'hlt)=qv:=⟨_,rfl⟩
   rw[he]at HC
   have HE:=hid he
   clear he
   go_wp2_with fail
   refine HC.out.mono ?_
   rintro e w1 ⟨rfl,hb1⟩
   have hbw:Below w.heap.size w w1:=hb.trans (hb1.mono hb.size)
   cases qv with
   | false=>
    go_wp2
    go_roundw
    case rel=>
     refine⟨k+1,by omega,by go_num,?_,hbw⟩
     intro j hj hjk
     by_cases e:j=k
     ·subst e;exact HE.out
     ·exact HN.out j hj (by omega)
    case measure=>simp[intOf];omega
   | true=>
    have hfin:idxI q l=k:=idxI_hit q l k hlt HE.out (fun j hj=>HN.out j (by omega) hj)
    have HF:=hid hfin
    clear hfin
    go_wp2
    go_ret
    exact⟨ret_int HF.out.symm,hbw⟩
  ·go_wp2
   go_ret
   exact⟨ret_int (idxI_miss q l fun j hj=>HN.out j hj (by omega)).symm,hb⟩
theorem containsZ_any {α:Type}(g:Nat) (cb:Array Value) (q:α→Bool) (eg:∀args w,(callFunc g args).run Try.prog w= .ok (.enter g args) w)
 (A:Option Addr) (c B:Nat) (l:List α) (vs:List Value) (w:World) (hm:l.length≤1000000000) (hB:B≤w.heap.size) (hr:Reads w B 1 A l.length vs) (hp:PredC1 g cb q l vs w):
 Calls Try.prog 42 #[.slice A l.length c,.func (.func g) #[] cb] w fun e w'=>e= .returned (.bool (l.any q))∧Below w.heap.size w w':=by
 have HP:=hid hp
 clear hp
 rw[←idxI_any']
 go_enter Try.func42,Try.ntmps42
 go_wp2_with (go_at_call 65;refine(indexZ_any g cb q eg A c B l vs _ hm hB hr HP.out).mono ?_;rintro e w' ⟨rfl,hb1⟩)
 go_ret
 exact⟨rfl,hb1⟩
set_option maxHeartbeats 1600000 in
theorem indexAE_any {α:Type}(g:Nat) (cb:Array Value) (q:α→Bool) (eg:∀args w,(callFunc g args).run Try.prog w= .ok (.enter g args) w)
 (A:Option Addr) (c B:Nat) (l:List α) (vs:List Value) (w:World) (hm:l.length≤1000000000) (hB:B≤w.heap.size) (hr:Reads w B 3 A l.length vs) (hp:PredC3 g cb q l vs w):
 Calls Try.prog 92 #[.slice A l.length c,.func (.func g) #[] cb] w fun e w'=>e= .returned (.int .i64 (idxI q l))∧Below w.heap.size w w':=by
 have hr:Reads w w.heap.size 3 A l.length vs:=hr.more hB
 have HP:=hid hp
 clear hp
 go_enter Try.func92,Try.ntmps92
 go_wp2
 go_loopw[5,8] (fun _ i wr=>∃k:Nat,k≤l.length∧i= .int .i64 k∧Hid (∀j (hj:j<l.length),j<k→q l[j]=false)∧Below w.heap.size w wr) (fun _ i _=>l.length-(intOf i).toNat)
 case atStart=>exact⟨0,Nat.zero_le _,rfl,fun j _ hj=>absurd hj (by omega),Below.refl _ _⟩
 case round=>
  obtain⟨k,hk,rfl,HN,hb⟩:=hrel
  by_cases hlt:k<l.length
  ·obtain⟨b,off,x0,x1,x2,rfl,hbl,c0,c1,c2,g0,g1,g2⟩:=readsC3 hr hb k hlt
   have HC:=hid (HP.out wr k x0 x1 x2 hlt g0 g1 g2 hb)
   clear g0 g1 g2
   obtain⟨qv,he⟩:∃qv,q (l[k]'hlt)=qv:=⟨_,rfl⟩
   rw[he]at HC
   have HE:=hid he
   clear he
   go_wp2_with fail
   refine HC.out.mono ?_
   rintro e w1 ⟨rfl,hb1⟩
   have hbw:Below w.heap.size w w1:=hb.trans (hb1.mono hb.size)
   cases qv with
   | false=>
    go_wp2
    go_roundw
    case rel=>
     refine⟨k+1,by omega,by go_num,?_,hbw⟩
     intro j hj hjk
     by_cases e:j=k
     ·subst e;exact HE.out
     ·exact HN.out j hj (by omega)
    case measure=>simp[intOf];omega
   | true=>
    have hfin:idxI q l=k:=idxI_hit q l k hlt HE.out (fun j hj=>HN.out j (by omega) hj)
    have HF:=hid hfin
    clear hfin
    go_wp2
    go_ret
    exact⟨ret_int HF.out.symm,hbw⟩
  ·go_wp2
   go_ret
   exact⟨ret_int (idxI_miss q l fun j hj=>HN.out j hj (by omega)).symm,hb⟩
theorem containsAE_any {α:Type}(g:Nat) (cb:Array Value) (q:α→Bool) (eg:∀args w,(callFunc g args).run Try.prog w= .ok (.enter g args) w)
 (A:Option Addr) (c B:Nat) (l:List α) (vs:List Value) (w:World) (hm:l.length≤1000000000) (hB:B≤w.heap.size) (hr:Reads w B 3 A l.length vs) (hp:PredC3 g cb q l vs w):
 Calls Try.prog 69 #[.slice A l.length c,.func (.func g) #[] cb] w fun e w'=>e= .returned (.bool (l.any q))∧Below w.heap.size w w':=by
 have HP:=hid hp
 clear hp
 rw[←idxI_any']
 go_enter Try.func69,Try.ntmps69
 go_wp2_with (go_at_call 92;refine(indexAE_any g cb q eg A c B l vs _ hm hB hr HP.out).mono ?_;rintro e w' ⟨rfl,hb1⟩)
 go_ret
 exact⟨rfl,hb1⟩
set_option maxHeartbeats 1600000 in
theorem indexLE_any {α:Type}(g:Nat) (cb:Array Value) (q:α→Bool) (eg:∀args w,(callFunc g args).run Try.prog w= .ok (.enter g args) w)
 (A:Option Addr) (c B:Nat) (l:List α) (vs:List Value) (w:World) (hm:l.length≤1000000000) (hB:B≤w.heap.size) (hr:Reads w B 2 A l.length vs) (hp:PredC2 g cb q l vs w):
 Calls Try.prog 99 #[.slice A l.length c,.func (.func g) #[] cb] w fun e w'=>e= .returned (.int .i64 (idxI q l))∧Below w.heap.size w w':=by
 have hr:Reads w w.heap.size 2 A l.length vs:=hr.more hB
 have HP:=hid hp
 clear hp
 go_enter Try.func99,Try.ntmps99
 go_wp2
 go_loopw[5,8] (fun _ i wr=>∃k:Nat,k≤l.length∧i= .int .i64 k∧Hid (∀j (hj:j<l.length),j<k→q l[j]=false)∧Below w.heap.size w wr) (fun _ i _=>l.length-(intOf i).toNat)
 case atStart=>exact⟨0,Nat.zero_le _,rfl,fun j _ hj=>absurd hj (by omega),Below.refl _ _⟩
 case round=>
  obtain⟨k,hk,rfl,HN,hb⟩:=hrel
  by_cases hlt:k<l.length
  ·obtain⟨b,off,x0,x1,rfl,hbl,c0,c1,g0,g1⟩:=readsC2 hr hb k hlt
   have HC:=hid (HP.out wr k x0 x1 hlt g0 g1 hb)
   clear g0 g1
   obtain⟨qv,he⟩:∃qv,q (l[k]'hlt)=qv:=⟨_,rfl⟩
   rw[he]at HC
   have HE:=hid he
   clear he
   go_wp2_with fail
   refine HC.out.mono ?_
   rintro e w1 ⟨rfl,hb1⟩
   have hbw:Below w.heap.size w w1:=hb.trans (hb1.mono hb.size)
   cases qv with
   | false=>
    go_wp2
    go_roundw
    case rel=>
     refine⟨k+1,by omega,by go_num,?_,hbw⟩
     intro j hj hjk
     by_cases e:j=k
     ·subst e;exact HE.out
     ·exact HN.out j hj (by omega)
    case measure=>simp[intOf];omega
   | true=>
    have hfin:idxI q l=k:=idxI_hit q l k hlt HE.out (fun j hj=>HN.out j (by omega) hj)
    have HF:=hid hfin
    clear hfin
    go_wp2
    go_ret
    exact⟨ret_int HF.out.symm,hbw⟩
  ·go_wp2
   go_ret
   exact⟨ret_int (idxI_miss q l fun j hj=>HN.out j hj (by omega)).symm,hb⟩
set_option maxHeartbeats 1600000 in
theorem indexLS_any {α:Type}(g:Nat) (cb:Array Value) (q:α→Bool) (eg:∀args w,(callFunc g args).run Try.prog w= .ok (.enter g args) w)
 (A:Option Addr) (c B:Nat) (l:List α) (vs:List Value) (w:World) (hm:l.length≤1000000000) (hB:B≤w.heap.size) (hr:Reads w B 3 A l.length vs) (hp:PredC3 g cb q l vs w):
 Calls Try.prog 72 #[.slice A l.length c,.func (.func g) #[] cb] w fun e w'=>e= .returned (.int .i64 (idxI q l))∧Below w.heap.size w w':=by
 have hr:Reads w w.heap.size 3 A l.length vs:=hr.more hB
 have HP:=hid hp
 clear hp
 go_enter Try.func72,Try.ntmps72
 go_wp2
 go_loopw[5,8] (fun _ i wr=>∃k:Nat,k≤l.length∧i= .int .i64 k∧Hid (∀j (hj:j<l.length),j<k→q l[j]=false)∧Below w.heap.size w wr) (fun _ i _=>l.length-(intOf i).toNat)
 case atStart=>exact⟨0,Nat.zero_le _,rfl,fun j _ hj=>absurd hj (by omega),Below.refl _ _⟩
 case round=>
  obtain⟨k,hk,rfl,HN,hb⟩:=hrel
  by_cases hlt:k<l.length
  ·obtain⟨b,off,x0,x1,x2,rfl,hbl,c0,c1,c2,g0,g1,g2⟩:=readsC3 hr hb k hlt
   have HC:=hid (HP.out wr k x0 x1 x2 hlt g0 g1 g2 hb)
   clear g0 g1 g2
   obtain⟨qv,he⟩:∃qv,q (l[k]'hlt)=qv:=⟨_,rfl⟩
   rw[he]at HC
   have HE:=hid he
   clear he
   go_wp2_with fail
   refine HC.out.mono ?_
   rintro e w1 ⟨rfl,hb1⟩
   have hbw:Below w.heap.size w w1:=hb.trans (hb1.mono hb.size)
   cases qv with
   | false=>
    go_wp2
    go_roundw
    case rel=>
     refine⟨k+1,by omega,by go_num,?_,hbw⟩
     intro j hj hjk
     by_cases e:j=k
     ·subst e;exact HE.out
     ·exact HN.out j hj (by omega)
    case measure=>simp[intOf];omega
   | true=>
    have hfin:idxI q l=k:=idxI_hit q l k hlt HE.out (fun j hj=>HN.out j (by omega) hj)
    have HF:=hid hfin
    clear hfin
    go_wp2
    go_ret
    exact⟨ret_int HF.out.symm,hbw⟩
  ·go_wp2
   go_ret
   exact⟨ret_int (idxI_miss q l fun j hj=>HN.out j hj (by omega)).symm,hb⟩
theorem containsLS_any {α:Type}(g:Nat) (cb:Array Value) (q:α→Bool) (eg:∀args w,(callFunc g args).run Try.prog w= .ok (.enter g args) w)
 (A:Option Addr) (c B:Nat) (l:List α) (vs:List Value) (w:World) (hm:l.length≤1000000000) (hB:B≤w.heap.size) (hr:Reads w B 3 A l.length vs) (hp:PredC3 g cb q l vs w):
 Calls Try.prog 49 #[.slice A l.length c,.func (.func g) #[] cb] w fun e w'=>e= .returned (.bool (l.any q))∧Below w.heap.size w w':=by
 have HP:=hid hp
 clear hp
 rw[←idxI_any']
 go_enter Try.func49,Try.ntmps49
 go_wp2_with (go_at_call 72;refine(indexLS_any g cb q eg A c B l vs _ hm hB hr HP.out).mono ?_;rintro e w' ⟨rfl,hb1⟩)
 go_ret
 exact⟨rfl,hb1⟩
end Go.Proofs.Ytgflanlniejflaa
