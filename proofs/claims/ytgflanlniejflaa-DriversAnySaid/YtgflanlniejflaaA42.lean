/-
  Drivers: what the program's and the reference's drivers make, for whatever fuel, depth and number of tokens.
-/
import Derived.Test.YtgflanlniejflaaA27
import Derived.Test.YtgflanlniejflaaA28
import Derived.Test.YtgflanlniejflaaA40
import Derived.Test.YtgflanlniejflaaA41
namespace Go.Proofs.Ytgflanlniejflaa
open Go.RowKit
set_option maxRecDepth 100000
namespace Drv
def ansB (n:NNet) (au:List (List LSt)) (toks:List Int) (fuel depth:Int):Ans:=
 if fuel<0∨depth<0 then⟨.zero,0,0,0,1⟩else parseR (mkDC n au toks fuel depth.toNat) (fuel.toNat+1)
def enoB (n:NNet) (wd tk:Int):Int×Int:=if tk<0∨16384<tk then(0,0)else enoughP n wd tk
theorem ansB_sm {n:NNet}{au:List (List LSt)}(hok:OkNet n au) (toks:List Int) (fuel depth:Int) (hf:fuel≤100000):smTr (ansB n au toks fuel depth).tree:=by
 unfold ansB
 split
 ·unfold Tr.zero smTr
  exact⟨Nat.zero_le _,smTrs_nil⟩
 ·rename_i h
  exact parseR_sm (rng_mk hok.may hok.len hok.autos hok.alts toks fuel depth.toNat) (val_mk hok.may hok.len hok.autos toks fuel depth.toNat) (by show(0:Int)≤fuel;omega) (by show fuel≤(1000000000:Int);omega) hok.starts1 _
end Drv
theorem dparse_any (w:World) (D:Nat) (n:Drv.NNet) (au:List (List Drv.LSt)) (wd:Int) (toks:List Int) (WA:Option Addr) (wc:Nat) (fuel depth:Int) (hD:DrvAt w D w.heap.size n au wd) (hok:Drv.OkNet n au)
 (hW:Reads w w.heap.size 1 WA toks.length (toks.map (Value.int .i64))) (hwc:toks.length≤wc) (hwn:WA=none→wc=0) (hlen:toks.length≤16384) (hf1:fuel≤100000) (hd1:depth≤100000):
 Calls Try.prog 14 #[.pointer (some ⟨D,0,none⟩),.slice WA toks.length wc,.int .i64 fuel,.int .i64 depth] w (RParP (Drv.ansB n au toks fuel depth) w):=by
 unfold Drv.ansB
 split
 ·rename_i h
  obtain⟨pl,⟨PA,Pc,cs6,rp⟩,hpl,_⟩:=hD.place
  have hsl:0<pl.length:=by
   have h2:=((Drv.rng_mk hok.may hok.len hok.autos hok.alts [] 0 0).starts 0 ⟨Int.le_refl _,by show(0:Int)<(n.starts.length:Nat);have:=hok.starts1;omega⟩).1
   have h3:(0:Int)<((Drv.mkDC n au [] 0 0).states.length:Nat):=by have:=h2.1;have:=h2.2;omega
   have h4:(Drv.mkDC n au [] 0 0).states.length=n.states.length:=rfl
   omega
  obtain⟨b,o,e,_⟩:=rp.2 hsl
  refine(parseNone_any w (some ⟨D,0,none⟩) WA toks.length wc fuel depth 1 (.inr ⟨D,PA,pl.length,Pc,rfl,hD.dlt,cs6,.inr ⟨by rw[e];exact fun h=>(by cases h),rfl,.inr h⟩⟩)).mono ?_
  rintro e w' ⟨rfl,hb⟩
  exact⟨hb,0,0,0,false,.slice none 0 0,rfl,zero_tree _ _⟩
 ·rename_i h
  have hd:((depth.toNat:Nat):Int)=depth:=by omega
  have:=parseP_any w D n au wd toks WA wc fuel depth.toNat hD hok hW hwc hwn hlen (by omega) (by omega) (by omega)
  rw[hd]at this
  refine this.mono ?_
  rintro e w' ⟨a,ha,hb,r,t,q,b,s,rfl,ht⟩
  rw[ha (fuel.toNat+1) (by show fuel<_;omega)]
  exact⟨hb,r,t,q,b,s,rfl,ht⟩
theorem rdparse_any (w:World) (D:Nat) (n:Drv.NNet) (au:List (List Drv.LSt)) (toks:List Int) (WA:Option Addr) (wc:Nat) (fuel depth:Int) (hD:RDrv w D w.heap.size n au) (hok:Drv.OkNet n au)
 (hW:Reads w w.heap.size 1 WA toks.length (toks.map (Value.int .i64))) (hwc:toks.length≤wc) (hwn:WA=none→wc=0) (hlen:toks.length≤16384) (hf1:fuel≤100000) (hd1:depth≤100000):
 Calls Try.prog 13 #[.pointer (some ⟨D,0,none⟩),.slice WA toks.length wc,.int .i64 fuel,.int .i64 depth] w (RParP (Drv.ansB n au toks fuel depth) w):=by
 unfold Drv.ansB
 split
 ·rename_i h
  exact rparseNone_any w D WA toks.length wc fuel depth (.inr h)
 ·rename_i h
  have hd:((depth.toNat:Nat):Int)=depth:=by omega
  have:=rparse_any w D n au toks WA wc fuel depth.toNat (fuel.toNat+1) hD hok hW hwc hwn hlen (by omega) (by omega) (by omega) (by omega)
  rw[hd]at this
  exact this
theorem denough_any (w:World) (D:Nat) (n:Drv.NNet) (au:List (List Drv.LSt)) (k:Drv.Kn) (tk:Int) (hD:DrvAt w D w.heap.size n au (Drv.wideR n k.rul)) (hok:Drv.OkNet n au):
 Calls Try.prog 18 #[.pointer (some ⟨D,0,none⟩),.int .i64 tk] w (EnoP (Drv.enoB n (Drv.wideR n k.rul) tk).1 (Drv.enoB n (Drv.wideR n k.rul) tk).2 w):=by
 have hbd:=Drv.wideR_bd n k.rul
 unfold Drv.enoB
 split
 ·rename_i h
  obtain⟨pl,⟨PA,Pc,cs6,rp⟩,hpl,_⟩:=hD.place
  have hsl:0<pl.length:=by
   have h2:=((Drv.rng_mk hok.may hok.len hok.autos hok.alts [] 0 0).starts 0 ⟨Int.le_refl _,by show(0:Int)<(n.starts.length:Nat);have:=hok.starts1;omega⟩).1
   have h3:(0:Int)<((Drv.mkDC n au [] 0 0).states.length:Nat):=by have:=h2.1;have:=h2.2;omega
   have h4:(Drv.mkDC n au [] 0 0).states.length=n.states.length:=rfl
   omega
  obtain⟨b,o,e,_⟩:=rp.2 hsl
  exact enoughNone_any w (some ⟨D,0,none⟩) tk (.inr ⟨D,PA,pl.length,Pc,rfl,hD.dlt,cs6,.inr ⟨by rw[e];exact fun h=>(by cases h),h⟩⟩)
 ·rename_i h
  obtain⟨h0,h1⟩:=hbd
  have:=hok.states
  exact enough_any w D n au _ tk hD hok h0 (by omega) (by omega) (by omega)
theorem rdenough_any (w:World) (D:Nat) (n:Drv.NNet) (au:List (List Drv.LSt)) (k:Drv.Kn) (hk:Drv.Known n k) (tk:Int) (hD:RDrv w D w.heap.size n au) (hok:Drv.OkNet n au):
 Calls Try.prog 19 #[.pointer (some ⟨D,0,none⟩),.int .i64 tk] w (EnoP (Drv.enoB n (Drv.wideR n k.rul) tk).1 (Drv.enoB n (Drv.wideR n k.rul) tk).2 w):=by
 unfold Drv.enoB
 split
 ·rename_i h
  exact renoughNone_any w D tk h
 ·rename_i h
  exact renough_any w D n au tk hD hok k hk (by omega) (by omega)
end Go.Proofs.Ytgflanlniejflaa
