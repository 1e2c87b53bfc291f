/-
  Drivers: what is enough: the walk.
-/
import Derived.BigQuiet
import Derived.Deep.RegionHeld3
import Derived.Test.YtgflanlniejflaaK27
namespace Go.Proofs.Ytgflanlniejflaa
open Go.RowKit Go.Maps
set_option maxRecDepth 100000
namespace Drv
def mostP (n:Int):Int:=min n 1099511627776
def timesP (a b:Int):Int:=mostP (a*b)
def enoughP (n:NNet) (wd tokens:Int):Int×Int:=
 let t:=tokens+1
 let s:=(n.states.length:Int)
 let r:=(n.starts.length:Int)
 let p:=(n.preds.length:Int)
 let d:=(n.decs.length:Int)
 (mostP (mostP (timesP (timesP (r*t+1) (s*t)) (wd+1)+timesP ((r+p+32*d)*t) (s*(t+1)))+timesP (d*t) (t+2)),mostP ((r+p+d)*t+1))
end Drv
theorem most_any (w:World) (n:Int):Calls Try.prog 37 #[.int .i64 n] w fun e w'=>e= .returned (.int .i64 (Drv.mostP n))∧w'=w:=by
 go_enter Try.func37,Try.ntmps37
 go_wp2
 go_ret
 exact⟨rfl,rfl⟩
def EnoP (f dp:Int) (w:World) (e:Ending) (w':World):Prop:=e= .returned (.tuple #[.int .i64 f,.int .i64 dp])∧Below w.heap.size w w'
def NoWayE (w:World) (d:Option Addr) (tk:Int):Prop:=
 d=none∨(∃D PA pn pc,d=some ⟨D,0,none⟩∧D<w.heap.size∧w.cell? ⟨D,6,none⟩=some (.slice PA pn pc)∧(PA=none∨(PA≠none∧(tk<0∨16384<tk))))
end Go.Proofs.Ytgflanlniejflaa
