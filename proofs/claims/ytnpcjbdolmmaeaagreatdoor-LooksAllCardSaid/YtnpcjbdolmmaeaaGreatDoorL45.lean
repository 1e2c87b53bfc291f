/-
  harbingerlaw15.LooksAll returns true for whatever net and numbers, and leaves them as they were. No condition; the three tables of the library that its code may read are tied to the program's text (a tied card).
-/
import Derived.Lib.LaidU8
import Derived.Lib.LaidTab
import Derived.MakeChecks
import Derived.Test.YtnpcjbdolmmaeaaGreatDoorCards
import Derived.Test.YtnpcjbdolmmaeaaGreatDoorTie
import Derived.ProofKit
import Derived.Carry
import Derived.LaidMore
import Derived.Lib.SmallJoins
import Derived.Stop.Joined
import Derived.SevenTiedAt
import Derived.Test.YtnpcjbdolmmaeaaGreatDoorL40
import Derived.Test.YtnpcjbdolmmaeaaGreatDoorL44
namespace Go.Proofs.YtnpcjbdolmmaeaaGreatDoor
open Go.ChangeShapes Go.WideShapes Go.ChangeAt Go.RowKit
set_option maxRecDepth 100000
open Go.Lib (VarReads)
theorem tab_reads {w:World}{n:String}{k:IntKind}{zs:List Int}{g:Nat}{t e:TypeId}{m:Nat}(hg:Tryz.prog.globalNamed n=some g) (hty:(Tryz.prog.globals[g]?).map (·.type)=some t) (ht:Tryz.prog.underlying t=some (.array m e)) (he:Tryz.prog.underlying e=some (.int k)) (hce:Tryz.prog.cellsOf e=1) (hct:Tryz.prog.cellsOf t=m)
 (h:VarReads Tryz.prog w n (Lib.tabData k zs)):Lib.TabIs Tryz.prog w n k zs:=by
 obtain⟨g',t',cs,fuel,p,hg',ht',hvar,hd⟩:=h
 obtain rfl:=Option.some.inj (hg.symm.trans hg')
 obtain rfl:=Option.some.inj (hty.symm.trans ht')
 unfold Lib.TabIs
 rw[hvar,←Lib.cells_of_tab ht he hce hct hd]
theorem pt_of {W:World}(h:laidMetH Tryz.prog Rows.looksAllRow.laid W):PT W:=by
 rw[MakeChecks.laidMetH_plain _ _ _ (by kernel_rfl)]at h
 have r2 : VarReads Tryz.prog W "internal/strconv.uint64pow10" (Lib.tabData .u64 Lib.pow10Tab) := by
  have e:(Lib.tabData .u64 Lib.pow10Tab:DataW Unit)=Rows.laid_internal_strconv_uint64pow10:=by kernel_rfl
  rw[e];exact Lib.laidMet.reads h (.tail _ (.tail _ (.head _)))
 exact tab_reads (g:=0) (by kernel_rfl) (by kernel_rfl) (Tryz.underlying208) Tryz.underlying181 (by kernel_rfl) (by kernel_rfl) r2
theorem own:ownKnob Tryz.prog.godebug=none:=by kernel_rfl
theorem laidOut:laidOutB Tryz.prog=true:=by kernel_rfl
theorem door_met (os:Os) (args:Array Value):laidMetH Tryz.prog Rows.looksAllRow.laid ((World.doorLaid Tryz.prog 2000 os).forCall (fun _ _=>0) ⟨#[],args,[]⟩).memory:=
 laidMetH_of_parts3 (fuel:=8) (laidMet_of_run' 8 (by kernel_rfl) (by kernel_rfl)) (by kernel_rfl) (by kernel_rfl)
theorem lifted (os:Os) (started:os.Started) (H:Type) (enc:TypeId×Value→H):
 ReturnsInHanded {} Tryz.checked os 5 .any (fun w args=>(Rows.looksAllSpec.pre enc Tryz.prog Tryz.f5 [] false w args∧laidMetH Tryz.prog Rows.looksAllRow.laid w)∧sizedMet enc Tryz.prog Tryz.f5 (OpenSpec.ofChange Rows.looksAllSpec) false w args)
  (Rows.looksAllSpec.post enc Tryz.prog Tryz.f5 false true false false):=by
 refine returnsInHanded_of_change_and (C:=Tryz.checked) (X:=fun w _=>laidMetH Tryz.prog Rows.looksAllRow.laid w) (fun _ _ _ hh h=>h.of_heap hh) own started (by kernel_rfl) Tryz.func5
  (ChangeSpec.witness_shaped (enc:=enc) (C:=Tryz.checked) (os:=os) (X:=fun w _=>laidMetH Tryz.prog Rows.looksAllRow.laid w) false (World.doorLaid Tryz.prog 2000 os) #[.agg #[.slice none 0 0,.slice none 0 0,.slice none 0 0,.slice none 0 0,.slice none 0 0],.agg #[.int .i64 0,.int .i64 0,.int .i64 0]] 8 rfl (World.shaped_of_RefB (by kernel_rfl) (by kernel_rfl)) (by kernel_rfl) (by kernel_rfl) (by kernel_rfl) (door_met os _)) ?_
 intro W base args ds gs before hval0 hW hcnd hsz hL _
 have hval:∀(j:Nat) t v,Tryz.f5.params[j]? =some t→args[j]? =some v→Value.okWide Tryz.prog W .any base t v:=hval0
 have hsz0:(DataW.weightsEach Tryz.prog (Tryz.f5.params.toList++Rows.looksAllSpec.plain.varTypes Tryz.prog) (ds++gs)).all (·≤reachBytes)=true:=hsz
 have hW':=hW
 obtain⟨p,q,hA0,hV,rfl,hfz,hnd⟩:=hW
 have hA:DataW.TrodAll enc Tryz.prog W 0 (fun _=>true) true Tryz.f5.params.toList args.toList ds p:=hA0
 rw[Tryz.params5]at hA hval hsz0
 obtain⟨v0,v1,d0,d1,p0,p1,rfl,rfl,rfl,h0,h1⟩:=trodAll_two hA
 obtain⟨rfl,rfl⟩:=trodVars_none hV
 have k0:=h0
 have k1:=h1
 have lt0:∀x∈p0,x.block<W.heap.size:=by obtain⟨m,hm⟩:=k0;exact DataW.trod_lt m _ _ _ hm
 have lt1:∀x∈p1,x.block<W.heap.size:=by obtain⟨m,hm⟩:=k1;exact DataW.trod_lt m _ _ _ hm
 have fit0:Fits d0 25:=fits_of_each hsz0 (j:=0) rfl rfl
 obtain⟨c0,rfl,hc0⟩:=okWide_struct Tryz.underlying25 (hval 0 25 v0 rfl rfl)
 obtain⟨c1,rfl,hc1⟩:=okWide_arr Tryz.underlying73 (hval 1 73 v1 rfl rfl)
 obtain⟨n0,g0⟩:=h0
 obtain⟨n1,g1⟩:=h1
 obtain⟨_,u0,u1,u2,u3,u4,y0,y1,y2,y3,y4,e0,t0,t1,t2,t3,t4⟩:=sp_net (x:=(d0,p0)) (by rw[Array.length_toList];exact hc0.trans (by kernel_rfl)) g0 fit0
 obtain⟨zb,zu,zt,e1⟩:=open_z3 (x:=(d1,p1)) (by rw[Array.length_toList];exact hc1.trans (by kernel_rfl)) g1
 obtain rfl:c0=#[u0,u1,u2,u3,u4]:=by cases c0;exact congrArg Array.mk e0
 obtain rfl:c1=#[.int .i64 zb,.int .i64 zu,.int .i64 zt]:=by cases c1;exact congrArg Array.mk e1
 obtain⟨sts,SA,sc,E0,hSl,hS,hSs⟩:=open_Sts t0.1 t0.2
 obtain⟨starts,TA,tc,E1,_,hTl,hTr,_⟩:=open_Z t1.1 t1.2
 obtain⟨stops,UA,uc,E2,_,hUl,hU,_⟩:=open_Z t2.1 t2.2
 obtain⟨preds,QA,qc,E3,_,hQl,hQ,_⟩:=open_Z t3.1 t3.2
 obtain⟨decs,DA,dc,E4,_,hDl,hD,_⟩:=open_Z t4.1 t4.2
 injection E0 with E0 _
 injection E1 with E1 _
 injection E2 with E2 _
 injection E3 with E3 _
 injection E4 with E4 _
 subst E0 E1 E2 E3 E4
 clear hA0 hval0
 unfold reachBytes at hTl hUl hQl hDl
 refine(looksa_any W ⟨sts,starts,stops,preds,decs⟩ SA TA UA QA DA sc tc uc qc dc zb zu zt ⟨hS,hTr,hU,hQ,hD⟩ hSl (by show starts.length≤_;omega) (by show stops.length≤_;omega) (by show preds.length≤_;omega) (by show decs.length≤_;omega) (fun s hs=>⟨(hSs s hs).1,(hSs s hs).2.1⟩) (fun s hs e he=>(hSs s hs).2.2 e he) (pt_of hL)).mono fun e W' ⟨he,bel⟩=>?_
 subst he
 exact⟨_,rfl,_,_,_,[],_,[],hW',trodAll_mk1 (shut_bool Tryz.underlying4 _),(trodAll_cons_mk (Below.trod laidOut (by kernel_rfl) (of_decide_eq_true (by kernel_rfl)) k0 bel lt0) (trodAll_cons_mk (Below.trod laidOut (by kernel_rfl) (of_decide_eq_true (by kernel_rfl)) k1 bel lt1) trodAll_mk0)),rfl,bel.frame _,fun h=>by cases h⟩
theorem all_holds:Rows.LooksAllSaid:=
 OpenClaim.holds_of_wide 5 Tryz.f5 rfl rfl rfl rfl rfl rfl rfl ⟨rfl,rfl,rfl,rfl,rfl⟩ rfl rfl rfl rfl rfl (by kernel_rfl) Tryz.func5 (by kernel_rfl)
  (of_decide_eq_true (by kernel_rfl)) (by unfold Func.isWrapper;first | (rw[if_pos (by decide +kernel)];kernel_rfl) | (rw[if_neg (by decide +kernel)];exact⟨rfl,rfl⟩))
  (fun os started H enc _=>lifted os started H enc)
theorem all_proved:Rows.LooksAllCardSaid:=
 Claim7.holds_tied_plain_at .later [] [.data, .data, .data] true (true, "2670f583e912d58b60a07f9e7b1e9dbe3fc9164704eeae6a9ffca2cf0ddedec2") true
  all_holds (fun _ h=>by cases h) (by kernel_rfl) (fun _ h=>by cases h) looksAll_row_tie rfl ⟨rfl,rfl⟩ (by kernel_rfl) rfl
  (fun f fn hf hfn=>by
   obtain rfl : f = 5 := Option.some.inj ((show Tryz.prog.funcNamed "harbinger/harbingerlaw15.LooksAll" = some 5 by kernel_rfl).symm.trans hf) |>.symm
   obtain rfl:fn=Tryz.f5:=(Option.some.inj (Tryz.func5.symm.trans hfn)).symm
   exact⟨by kernel_rfl,fun j t ht=>by
    rw[Tryz.params5]at ht
    have hm:t∈[25,73]:=by simpa using Array.mem_of_getElem? ht
    have hall:([25,73].all fun u=>!Tryz.prog.wantsStandIn u)=true:=by kernel_rfl
    exact(show Tryz.prog.wantsStandIn t=false by simpa using List.all_eq_true.1 hall t hm)⟩)
  (by kernel_rfl)
end Go.Proofs.YtnpcjbdolmmaeaaGreatDoor
