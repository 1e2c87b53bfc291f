/-
  harbingerlaw21.DriversKept returns true for whatever net, automata and Ask, and leaves them as they were. No condition.
-/
import Derived.ProofKit
import Derived.Carry
import Derived.Lib.SmallJoins
import Derived.Test.YtgflanlniejflaaK51
import Derived.Test.YtgflanlniejflaaK52
namespace Go.Proofs.Ytgflanlniejflaa
open Go.ChangeShapes Go.WideShapes Go.ChangeAt Go.RowKit Go.Deep
set_option maxRecDepth 100000
theorem ownKpt:ownKnob Try.prog.godebug=none:=by kernel_rfl
theorem laidOutKpt:laidOutB Try.prog=true:=by kernel_rfl
theorem liftedKpt (os:Os) (started:os.Started) (H:Type) (enc:TypeId×Value→H):
 ReturnsInHanded {} Try.checked os 3 .any (Rows.driversKeptSpec.pre6 enc Try.prog Try.f3 Rows.driversKeptRow.domain false) (Rows.driversKeptSpec.post enc Try.prog Try.f3 false true false false):=by
 refine returnsInHanded_of_change_sized (C:=Try.checked) ownKpt started (by kernel_rfl) Try.func3
  (ChangeSpec.witness6 (enc:=enc) (C:=Try.checked) false ⟨#[],#[.agg #[.slice none 0 0,.slice none 0 0,.slice none 0 0,.slice none 0 0,.slice none 0 0],.slice none 0 0,.agg #[.slice none 0 0,.int .i64 0,.int .i64 0,.int .i64 0]],[]⟩ 8 (by kernel_rfl) (by kernel_rfl) (by kernel_rfl) (by kernel_rfl)) ?_
 intro W base args ds gs before hval0 hW hcnd hsz _
 have hval:∀(j:Nat) t v,Try.f3.params[j]? =some t→args[j]? =some v→Value.okWide Try.prog W .any base t v:=hval0
 have hsz0:(DataW.weightsEach Try.prog (Try.f3.params.toList++Rows.driversKeptSpec.plain.varTypes Try.prog) (ds++gs)).all (·≤reachBytes)=true:=hsz
 have hW':=hW
 obtain⟨p,q,hA0,hV,rfl,hfz,hnd⟩:=hW
 have hA:DataW.TrodAll enc Try.prog W 0 (fun _=>true) true Try.f3.params.toList args.toList ds p:=hA0
 rw[Try.params3]at hA hval hsz0
 obtain⟨v0,v1,v2,d0,d1,d2,p0,p1,p2,rfl,rfl,rfl,h0,h1,h2⟩:=trodAll_three hA
 obtain⟨rfl,rfl⟩:=trodVars_none hV
 have k0:=h0
 have k1:=h1
 have k2:=h2
 have lt0:∀x∈p0,x.block<W.heap.size:=by obtain⟨m,hm⟩:=k0;exact DataW.trod_lt m _ _ _ hm
 have lt1:∀x∈p1,x.block<W.heap.size:=by obtain⟨m,hm⟩:=k1;exact DataW.trod_lt m _ _ _ hm
 have lt2:∀x∈p2,x.block<W.heap.size:=by obtain⟨m,hm⟩:=k2;exact DataW.trod_lt m _ _ _ hm
 have fit0:Fits d0 25:=fits_of_each hsz0 (j:=0) rfl rfl
 have fit1:Fits d1 26:=fits_of_each hsz0 (j:=1) rfl rfl
 have fit2:Fits d2 28:=fits_of_each hsz0 (j:=2) rfl rfl
 obtain⟨c0,rfl,hc0⟩:=okWide_struct Try.underlying25 (hval 0 25 v0 rfl rfl)
 obtain⟨c2,rfl,hc2⟩:=okWide_struct Try.underlying28 (hval 2 28 v2 rfl rfl)
 obtain⟨n0,g0⟩:=h0
 obtain⟨n1,g1⟩:=h1
 obtain⟨n2,g2⟩:=h2
 obtain⟨_,u0,u1,u2,u3,u4,y0,y1,y2,y3,y4,e0,t0,t1,t2,t3,t4⟩:=sp_net (x:=(d0,p0)) (by rw[Array.length_toList];exact hc0.trans (by kernel_rfl)) g0 fit0
 obtain⟨_,x0,x1,x2,x3,z0,z1,z2,z3,e2,r0,r1,r2,r3⟩:=sp_ask (x:=(d2,p2)) (by rw[Array.length_toList];exact hc2.trans (by kernel_rfl)) g2 fit2
 obtain rfl:c0=#[u0,u1,u2,u3,u4]:=by cases c0;exact congrArg Array.mk e0
 obtain rfl:c2=#[x0,x1,x2,x3]:=by cases c2;exact congrArg Array.mk e2
 obtain⟨sts,SA,sc,E0,hSl,hS,hSs⟩:=open_Sts t0.1 t0.2
 obtain⟨starts,TA,tc,E1,_,hTl,hT,_⟩:=open_Z t1.1 t1.2
 obtain⟨stops,UA,uc,E2,_,hUl,hU,_⟩:=open_Z t2.1 t2.2
 obtain⟨preds,QA,qc,E3,_,hQl,hQ,_⟩:=open_Z t3.1 t3.2
 obtain⟨decs,DA,dc,E4,_,hDl,hD,_⟩:=open_Z t4.1 t4.2
 obtain⟨toks,WA,wc,E5,hwc,hWl,hWr,_⟩:=open_Z r0.1 r0.2
 obtain⟨fu,E6,_⟩:=open_i64 3 Try.underlying3 r1.1
 obtain⟨de,E7,_⟩:=open_i64 3 Try.underlying3 r2.1
 obtain⟨tk,E8,_⟩:=open_i64 3 Try.underlying3 r3.1
 obtain⟨au,AA,ac,E9,hAl,hAr,hAs⟩:=open_Aus g1 fit1
 injection E0 with E0 _
 injection E1 with E1 _
 injection E2 with E2 _
 injection E3 with E3 _
 injection E4 with E4 _
 injection E5 with E5 _
 injection E6 with E6 _
 injection E7 with E7 _
 injection E8 with E8 _
 subst E0 E1 E2 E3 E4 E5 E6 E7 E8
 have hv1:v1= .slice AA au.length ac:=by
  obtain⟨a,l,c,rfl⟩:=okWide_slice Try.underlying26 (hval 1 26 v1 rfl rfl)
  have:[Value.slice a l c]= [Value.slice AA au.length ac]:=E9
  injection this
 subst hv1
 clear hA0 hval0
 unfold reachBytes at hTl hUl hQl hDl hWl
 refine(kept_any W ⟨sts,starts,stops,preds,decs⟩ au toks SA TA UA QA DA AA WA sc tc uc qc dc ac wc fu de tk ⟨hS,hT,hU,hQ,hD⟩ hAr hWr hwc hSl (by show starts.length≤_;omega) (by show stops.length≤_;omega) (by show preds.length≤_;omega) (by show decs.length≤_;omega) hSs hAl hAs (by omega)).mono fun e W' ⟨he,bel⟩=>?_
 subst he
 exact⟨_,rfl,_,_,_,[],_,[],hW',trodAll_mk1 (shut_bool Try.underlying4 _),(trodAll_cons_mk (Below.trod laidOutKpt (by kernel_rfl) (of_decide_eq_true (by kernel_rfl)) k0 bel lt0) (trodAll_cons_mk (Below.trod laidOutKpt (by kernel_rfl) (of_decide_eq_true (by kernel_rfl)) k1 bel lt1) (trodAll_cons_mk (Below.trod laidOutKpt (by kernel_rfl) (of_decide_eq_true (by kernel_rfl)) k2 bel lt2) trodAll_mk0))),rfl,bel.frame _,fun h=>by cases h⟩
theorem kept_over:Rows.driversKeptRow.holds Try.pinned (OpenSpec.ofChange Rows.driversKeptSpec):=
 OpenClaim.holds_of_wide 3 Try.f3 rfl rfl rfl rfl rfl rfl rfl ⟨rfl,rfl,rfl,rfl,rfl⟩ rfl rfl rfl rfl rfl (by kernel_rfl) Try.func3 (by kernel_rfl)
  (of_decide_eq_true (by kernel_rfl)) (by unfold Func.isWrapper;first | (rw[if_pos (by decide +kernel)];kernel_rfl) | (rw[if_neg (by decide +kernel)];exact⟨rfl,rfl⟩))
  (fun os started H enc _=>liftedKpt os started H enc)
theorem kept_proved:Rows.DriversKeptSaid:=kept_over
end Go.Proofs.Ytgflanlniejflaa
