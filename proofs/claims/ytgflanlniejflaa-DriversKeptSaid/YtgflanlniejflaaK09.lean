/-
  DERIVED: THE SHELF's CONTRACTS AT THIS DUMP, IN PLAIN WORDS (tools/lay-plain.mjs out of 'YtgflanlniejflaaShelf0.lean', which tools/lay-shelf.mjs wrote): THE SAME DECLARATIONS UNDER THE SAME NAMES: 'import', 'namespace', 'open', 'def', 'theorem' AND NOTHING ELSE: no command of the shelf's: FOR A HAND-IN. Each laying: the table of numbers ('.._ren') and one theorem, a field a fact of the dump's own or the kernel's comparison; each contract: ONE APPLICATION.
-/
import Derived.Shelf.Slices.Equal
import Derived.Ground.Names2Prog
import Derived.Shelf.Slices.Clone
import Derived.Ground.SlgnProg
import Derived.Shelf.SlicesE.Equal
import Derived.Shelf.SlicesE.Clone
import Derived.Ground.SlgfProg
import Derived.Shelf.SlicesE.IndexFunc
import Derived.Shelf.SlicesQ.IndexFunc
import Derived.Test.YtgflanlniejflaaProg
namespace Go.Proofs
open Go.Shelf
def Try.lays111_ren:Go.Shelf.Ren:=⟨fun | 111=>46 | n=>n,fun | 28=>23 | 3=>3 | 4=>4 | 0=>0 | n=>n,fun | n=>n⟩
theorem Try.lays111:Go.Proofs.Lays.n111 Try.prog Try.lays111_ren:={
 mixed:=by kernel_rfl
 f111:=Try.func46.trans (congrArg some (by kernel_rfl))
 t0:=Try.underlying0
 a0:=Try.isAgg0
 z0:=Try.sizeOf0
 v0:=Try.zeroValue0
 t3:=Try.underlying3
 a3:=Try.isAgg3
 z3:=Try.sizeOf3
 v3:=Try.zeroValue3
 t4:=Try.underlying4
 a4:=Try.isAgg4
 z4:=Try.sizeOf4
 v4:=Try.zeroValue4
 t28:=Try.underlying23
 a28:=Try.isAgg23
 z28:=Try.sizeOf23
 v28:=Try.zeroValue23}
open Go.RowKit Go.Lib in
theorem Try.slices_Equal_int (b1 o1 n c b2 o2 m d:Nat) (xs ys:List Int) (w:World) (hx:n≤xs.length) (hy:m≤ys.length) (hbig:n≤9223372036854775807) (hbig2:m≤9223372036854775807) (hc1:∀j,j<xs.length→w.cell? ⟨b1,o1+j,none⟩=some (.int .i64 (xs.getD j 0))) (hc2:∀j,j<ys.length→w.cell? ⟨b2,o2+j,none⟩=some (.int .i64 (ys.getD j 0))):
 Calls Try.prog 46 #[.slice (some ⟨b1,o1,none⟩) n c,.slice (some ⟨b2,o2,none⟩) m d] w fun e w'=>e= .returned (.bool (xs.take n==ys.take m))∧∃q,w'=w.drewN q:=Any.slices_Equal_int Try.lays111 b1 o1 n c b2 o2 m d xs ys w hx hy hbig hbig2 hc1 hc2
open Go.RowKit Go.Lib in
theorem Try.slices_Equal_int_empty (a1 a2:Option Addr) (c m d:Nat) (w:World) (hbig2:m≤9223372036854775807):
 Calls Try.prog 46 #[.slice a1 0 c,.slice a2 m d] w fun e w'=>e= .returned (.bool (decide (m=0)))∧w'=w:=Any.slices_Equal_int_empty Try.lays111 a1 a2 c m d w hbig2
def Try.laysNm215_ren:Go.Shelf.Ren:=⟨fun | 15=>47 | n=>n,fun | 22=>23 | 3=>3 | 4=>4 | n=>n,fun | n=>n⟩
theorem Try.laysNm215:Go.Proofs.Lays2.n15 Try.prog Try.laysNm215_ren:={
 mixed:=by kernel_rfl
 f15:=Try.func47.trans (congrArg some (by kernel_rfl))
 t3:=Try.underlying3
 a3:=Try.isAgg3
 z3:=Try.sizeOf3
 v3:=Try.zeroValue3
 t4:=Try.underlying4
 a4:=Try.isAgg4
 z4:=Try.sizeOf4
 v4:=Try.zeroValue4
 t22:=Try.underlying23
 a22:=Try.isAgg23
 z22:=Try.sizeOf23
 v22:=Try.zeroValue23
 i3:=by kernel_rfl}
open Go.RowKit Go.Lib in
theorem Try.slices_Clone_int (b off n c:Nat) (zs:List Int) (w:World) (hz:n≤zs.length) (hbig:n*8≤140737488355328) (hc:∀j,j<zs.length→w.cell? ⟨b,off+j,none⟩=some (.int .i64 (zs.getD j 0))):
 Calls Try.prog 47 #[.slice (some ⟨b,off,none⟩) n c] w fun e w'=>∃v',e= .returned v'∧w'.ownsRow w.heap.size 3 1 v' n ((zs.take n).map (Value.int .i64))∧v'≠.slice none 0 0∧Below w.heap.size w w':=Any.slices_Clone_int Try.laysNm215 b off n c zs w hz hbig hc
open Go.RowKit Go.Lib in
theorem Try.slices_Clone_int_nil (n c:Nat) (w:World):
 Calls Try.prog 47 #[.slice none n c] w fun e w'=>e= .returned (.slice none 0 0)∧w'=w:=Any.slices_Clone_int_nil Try.laysNm215 n c w
open Go.RowKit Go.Lib in
theorem Try.slices_Clone_int_zero (a:Addr) (c:Nat) (w:World):
 Calls Try.prog 47 #[.slice (some a) 0 c] w fun e w'=>∃v',e= .returned v'∧w'.ownsRow w.heap.size 3 1 v' 0 []∧v'≠.slice none 0 0∧Below w.heap.size w w':=Any.slices_Clone_int_zero Try.laysNm215 a c w
def Try.laysSlE33_f46_ren:Go.Shelf.Ren:=⟨fun | 33=>46 | n=>n,fun | 22=>23 | 23=>3 | 4=>4 | 3=>3 | 0=>0 | n=>n,fun | n=>n⟩
theorem Try.laysSlE33_f46:Go.Proofs.SlLaysE.n33 Try.prog Try.laysSlE33_f46_ren:={
 mixed:=by kernel_rfl
 f33:=⟨Try.f46.name,by decide,Try.func46.trans (congrArg some (by kernel_rfl))⟩
 t0:=Try.underlying0
 a0:=Try.isAgg0
 z0:=Try.sizeOf0
 v0:=Try.zeroValue0
 t3:=Try.underlying3
 a3:=Try.isAgg3
 z3:=Try.sizeOf3
 v3:=Try.zeroValue3
 t4:=Try.underlying4
 a4:=Try.isAgg4
 z4:=Try.sizeOf4
 v4:=Try.zeroValue4
 t22:=Try.underlying23
 a22:=Try.isAgg23
 z22:=Try.sizeOf23
 v22:=Try.zeroValue23
 a23:=Try.isAgg3
 z23:=Try.sizeOf3}
open Go.RowKit Go.Lib in
theorem Try.slices_Equal_f46 {α:Type} [Inhabited α] (enc:α→Value) (eq:α→α→Bool) (hne:NeqAt Try.prog 3 enc eq) (b1 o1 n c b2 o2 m d:Nat) (xs ys:List α) (w:World) (hx:n≤xs.length) (hy:m≤ys.length) (hbig:n≤9223372036854775807) (hbig2:m≤9223372036854775807) (hc1:∀j,j<xs.length→w.cell? ⟨b1,o1+j,none⟩=some (enc xs[j]!)) (hc2:∀j,j<ys.length→w.cell? ⟨b2,o2+j,none⟩=some (enc ys[j]!)):
 Calls Try.prog 46 #[.slice (some ⟨b1,o1,none⟩) n c,.slice (some ⟨b2,o2,none⟩) m d] w fun e w'=>e= .returned (.bool (Lib.allEq eq (xs.take n) (ys.take m)))∧∃q,w'=w.drewN q:=AnyE.slices_Equal Try.laysSlE33_f46 enc eq hne b1 o1 n c b2 o2 m d xs ys w hx hy hbig hbig2 hc1 hc2
def Try.laysSlE33_f75_ren:Go.Shelf.Ren:=⟨fun | 33=>75 | n=>n,fun | 22=>136 | 23=>4 | 4=>4 | 3=>3 | 0=>0 | n=>n,fun | n=>n⟩
theorem Try.laysSlE33_f75:Go.Proofs.SlLaysE.n33 Try.prog Try.laysSlE33_f75_ren:={
 mixed:=by kernel_rfl
 f33:=⟨Try.f75.name,by decide,Try.func75.trans (congrArg some (by kernel_rfl))⟩
 t0:=Try.underlying0
 a0:=Try.isAgg0
 z0:=Try.sizeOf0
 v0:=Try.zeroValue0
 t3:=Try.underlying3
 a3:=Try.isAgg3
 z3:=Try.sizeOf3
 v3:=Try.zeroValue3
 t4:=Try.underlying4
 a4:=Try.isAgg4
 z4:=Try.sizeOf4
 v4:=Try.zeroValue4
 t22:=Try.underlying136
 a22:=Try.isAgg136
 z22:=Try.sizeOf136
 v22:=Try.zeroValue136
 a23:=Try.isAgg4
 z23:=Try.sizeOf4}
open Go.RowKit Go.Lib in
theorem Try.slices_Equal_f75 {α:Type} [Inhabited α] (enc:α→Value) (eq:α→α→Bool) (hne:NeqAt Try.prog 4 enc eq) (b1 o1 n c b2 o2 m d:Nat) (xs ys:List α) (w:World) (hx:n≤xs.length) (hy:m≤ys.length) (hbig:n≤9223372036854775807) (hbig2:m≤9223372036854775807) (hc1:∀j,j<xs.length→w.cell? ⟨b1,o1+j,none⟩=some (enc xs[j]!)) (hc2:∀j,j<ys.length→w.cell? ⟨b2,o2+j,none⟩=some (enc ys[j]!)):
 Calls Try.prog 75 #[.slice (some ⟨b1,o1,none⟩) n c,.slice (some ⟨b2,o2,none⟩) m d] w fun e w'=>e= .returned (.bool (Lib.allEq eq (xs.take n) (ys.take m)))∧∃q,w'=w.drewN q:=AnyE.slices_Equal Try.laysSlE33_f75 enc eq hne b1 o1 n c b2 o2 m d xs ys w hx hy hbig hbig2 hc1 hc2
def Try.laysSlE041_f47_ren:Go.Shelf.Ren:=⟨fun | 41=>47 | n=>n,fun | 22=>23 | 23=>3 | 4=>4 | n=>n,fun | n=>n⟩
theorem Try.laysSlE041_f47:Go.Proofs.SlLaysE0.n41 Try.prog Try.laysSlE041_f47_ren:={
 mixed:=by kernel_rfl
 f41:=⟨Try.f47.name,by decide,Try.func47.trans (congrArg some (by kernel_rfl))⟩
 t4:=Try.underlying4
 a4:=Try.isAgg4
 z4:=Try.sizeOf4
 v4:=Try.zeroValue4
 t22:=Try.underlying23
 a22:=Try.isAgg23
 z22:=Try.sizeOf23
 v22:=Try.zeroValue23}
open Go.RowKit Go.Lib in
theorem Try.slices_Clone_f47 (i0:TypeInfo) (z:Value) (size bytes:Nat) (hi:Try.prog.info? 3=some i0) (hz0:i0.zero=some z) (hz1:i0.size=size) (hz2:i0.bytes=bytes) (hzs:z.cells.size=size) (hsz:0<size) (z23:∀w,(Go.sizeOf 3).run Try.prog w= .ok size w) (b off n c:Nat) (news:List Value) (w:World) (hl:news.length=n*size) (hn:n≤maxLen) (hbig:n*bytes≤140737488355328) (hc:∀j u,news[j]? =some u→w.cell? ⟨b,off+j,none⟩=some u) (h1:∀u∈news,u.oneCell'=true):
 Calls Try.prog 47 #[.slice (some ⟨b,off,none⟩) n c] w fun e w'=>∃v',e= .returned v'∧w'.ownsRow w.heap.size 3 size v' n news∧v'≠.slice none 0 0∧Below w.heap.size w w':=AnyE.slices_Clone Try.laysSlE041_f47 i0 z size bytes hi hz0 hz1 hz2 hzs hsz z23 b off n c news w hl hn hbig hc h1
def Try.laysSlE041_f48_ren:Go.Shelf.Ren:=⟨fun | 41=>48 | n=>n,fun | 22=>45 | 23=>60 | 4=>4 | n=>n,fun | n=>n⟩
theorem Try.laysSlE041_f48:Go.Proofs.SlLaysE0.n41 Try.prog Try.laysSlE041_f48_ren:={
 mixed:=by kernel_rfl
 f41:=⟨Try.f48.name,by decide,Try.func48.trans (congrArg some (by kernel_rfl))⟩
 t4:=Try.underlying4
 a4:=Try.isAgg4
 z4:=Try.sizeOf4
 v4:=Try.zeroValue4
 t22:=Try.underlying45
 a22:=Try.isAgg45
 z22:=Try.sizeOf45
 v22:=Try.zeroValue45}
open Go.RowKit Go.Lib in
theorem Try.slices_Clone_f48 (i0:TypeInfo) (z:Value) (size bytes:Nat) (hi:Try.prog.info? 60=some i0) (hz0:i0.zero=some z) (hz1:i0.size=size) (hz2:i0.bytes=bytes) (hzs:z.cells.size=size) (hsz:0<size) (z23:∀w,(Go.sizeOf 60).run Try.prog w= .ok size w) (b off n c:Nat) (news:List Value) (w:World) (hl:news.length=n*size) (hn:n≤maxLen) (hbig:n*bytes≤140737488355328) (hc:∀j u,news[j]? =some u→w.cell? ⟨b,off+j,none⟩=some u) (h1:∀u∈news,u.oneCell'=true):
 Calls Try.prog 48 #[.slice (some ⟨b,off,none⟩) n c] w fun e w'=>∃v',e= .returned v'∧w'.ownsRow w.heap.size 60 size v' n news∧v'≠.slice none 0 0∧Below w.heap.size w w':=AnyE.slices_Clone Try.laysSlE041_f48 i0 z size bytes hi hz0 hz1 hz2 hzs hsz z23 b off n c news w hl hn hbig hc h1
def Try.laysSlE041_f52_ren:Go.Shelf.Ren:=⟨fun | 41=>52 | n=>n,fun | 22=>52 | 23=>62 | 4=>4 | n=>n,fun | n=>n⟩
theorem Try.laysSlE041_f52:Go.Proofs.SlLaysE0.n41 Try.prog Try.laysSlE041_f52_ren:={
 mixed:=by kernel_rfl
 f41:=⟨Try.f52.name,by decide,Try.func52.trans (congrArg some (by kernel_rfl))⟩
 t4:=Try.underlying4
 a4:=Try.isAgg4
 z4:=Try.sizeOf4
 v4:=Try.zeroValue4
 t22:=Try.underlying52
 a22:=Try.isAgg52
 z22:=Try.sizeOf52
 v22:=Try.zeroValue52}
open Go.RowKit Go.Lib in
theorem Try.slices_Clone_f52 (i0:TypeInfo) (z:Value) (size bytes:Nat) (hi:Try.prog.info? 62=some i0) (hz0:i0.zero=some z) (hz1:i0.size=size) (hz2:i0.bytes=bytes) (hzs:z.cells.size=size) (hsz:0<size) (z23:∀w,(Go.sizeOf 62).run Try.prog w= .ok size w) (b off n c:Nat) (news:List Value) (w:World) (hl:news.length=n*size) (hn:n≤maxLen) (hbig:n*bytes≤140737488355328) (hc:∀j u,news[j]? =some u→w.cell? ⟨b,off+j,none⟩=some u) (h1:∀u∈news,u.oneCell'=true):
 Calls Try.prog 52 #[.slice (some ⟨b,off,none⟩) n c] w fun e w'=>∃v',e= .returned v'∧w'.ownsRow w.heap.size 62 size v' n news∧v'≠.slice none 0 0∧Below w.heap.size w w':=AnyE.slices_Clone Try.laysSlE041_f52 i0 z size bytes hi hz0 hz1 hz2 hzs hsz z23 b off n c news w hl hn hbig hc h1
open Go.RowKit Go.Lib in
theorem Try.slices_Clone_nil_f47 (n c:Nat) (w:World):
 Calls Try.prog 47 #[.slice none n c] w fun e w'=>e= .returned (.slice none 0 0)∧w'=w:=AnyE.slices_Clone_nil Try.laysSlE041_f47 n c w
open Go.RowKit Go.Lib in
theorem Try.slices_Clone_nil_f48 (n c:Nat) (w:World):
 Calls Try.prog 48 #[.slice none n c] w fun e w'=>e= .returned (.slice none 0 0)∧w'=w:=AnyE.slices_Clone_nil Try.laysSlE041_f48 n c w
open Go.RowKit Go.Lib in
theorem Try.slices_Clone_nil_f52 (n c:Nat) (w:World):
 Calls Try.prog 52 #[.slice none n c] w fun e w'=>e= .returned (.slice none 0 0)∧w'=w:=AnyE.slices_Clone_nil Try.laysSlE041_f52 n c w
def Try.laysSlH6_f65_ren:Go.Shelf.Ren:=⟨fun | 6=>65 | n=>n,fun | 22=>23 | 23=>3 | 25=>126 | 3=>3 | 0=>0 | 4=>4 | n=>n,fun | n=>n⟩
theorem Try.laysSlH6_f65:Go.Proofs.SlLaysH.n6 Try.prog Try.laysSlH6_f65_ren:={
 mixed:=by kernel_rfl
 f6:=⟨Try.f65.name,by decide,Try.func65.trans (congrArg some (by kernel_rfl))⟩
 t0:=Try.underlying0
 a0:=Try.isAgg0
 z0:=Try.sizeOf0
 v0:=Try.zeroValue0
 t3:=Try.underlying3
 a3:=Try.isAgg3
 z3:=Try.sizeOf3
 v3:=Try.zeroValue3
 t4:=Try.underlying4
 a4:=Try.isAgg4
 z4:=Try.sizeOf4
 v4:=Try.zeroValue4
 t22:=Try.underlying23
 a22:=Try.isAgg23
 z22:=Try.sizeOf23
 v22:=Try.zeroValue23
 a23:=Try.isAgg3
 z23:=Try.sizeOf3
 t25:=Try.underlying126
 a25:=Try.isAgg126
 z25:=Try.sizeOf126
 v25:=Try.zeroValue126}
open Go.RowKit Go.Lib in
theorem Try.slices_IndexFunc {α:Type} [Inhabited α] (enc:α→Value) (p:α→Bool) (g:Nat) (lb:Array Value) (eg:∀args w,(callFunc g args).run Try.prog w= .ok (.enter g args) w) (b off n c:Nat) (zs:List α) (w:World) (hp:PredAt Try.prog g lb enc p w) (hz:n≤zs.length) (hbig:n≤9223372036854775807) (hc:∀j,j<zs.length→w.cell? ⟨b,off+j,none⟩=some (enc zs[j]!)):
 Calls Try.prog 65 #[.slice (some ⟨b,off,none⟩) n c,.func (.func g) #[] lb] w fun e w'=>e= .returned (.int .i64 (Lib.idxBy (fun _ y=>p y) (zs.take n) default))∧∃q,w'=w.drewN q:=AnyE.slices_IndexFunc Try.laysSlH6_f65 enc p g lb eg b off n c zs w hp hz hbig hc
open Go.RowKit Go.Lib in
theorem Try.slices_IndexFunc_empty {α:Type} [Inhabited α] (a:Option Addr) (c:Nat) (fv:Value) (w:World):
 Calls Try.prog 65 #[.slice a 0 c,fv] w fun e w'=>e= .returned (.int .i64 (-1))∧w'=w:=AnyE.slices_IndexFunc_empty Try.laysSlH6_f65 a c fv w
def Try.laysSlH8_f42_ren:Go.Shelf.Ren:=⟨fun | 8=>42 | 6=>65 | n=>n,fun | 22=>23 | 23=>3 | 25=>126 | 4=>4 | 3=>3 | 0=>0 | n=>n,fun | n=>n⟩
theorem Try.laysSlH8_f42:Go.Proofs.SlLaysH.n8 Try.prog Try.laysSlH8_f42_ren:={
 mixed:=by kernel_rfl
 f6:=⟨Try.f65.name,by decide,Try.func65.trans (congrArg some (by kernel_rfl))⟩
 f8:=⟨Try.f42.name,by decide,Try.func42.trans (congrArg some (by kernel_rfl))⟩
 t0:=Try.underlying0
 a0:=Try.isAgg0
 z0:=Try.sizeOf0
 v0:=Try.zeroValue0
 t3:=Try.underlying3
 a3:=Try.isAgg3
 z3:=Try.sizeOf3
 v3:=Try.zeroValue3
 t4:=Try.underlying4
 a4:=Try.isAgg4
 z4:=Try.sizeOf4
 v4:=Try.zeroValue4
 t22:=Try.underlying23
 a22:=Try.isAgg23
 z22:=Try.sizeOf23
 v22:=Try.zeroValue23
 a23:=Try.isAgg3
 z23:=Try.sizeOf3
 t25:=Try.underlying126
 a25:=Try.isAgg126
 z25:=Try.sizeOf126
 v25:=Try.zeroValue126}
open Go.RowKit Go.Lib in
theorem Try.slices_ContainsFunc {α:Type} [Inhabited α] (enc:α→Value) (p:α→Bool) (g:Nat) (lb:Array Value) (eg:∀args w,(callFunc g args).run Try.prog w= .ok (.enter g args) w) (b off n c:Nat) (zs:List α) (w:World) (hp:PredAt Try.prog g lb enc p w) (hz:n≤zs.length) (hbig:n≤9223372036854775807) (hc:∀j,j<zs.length→w.cell? ⟨b,off+j,none⟩=some (enc zs[j]!)):
 Calls Try.prog 42 #[.slice (some ⟨b,off,none⟩) n c,.func (.func g) #[] lb] w fun e w'=>e= .returned (.bool ((zs.take n).any p))∧∃q,w'=w.drewN q:=AnyE.slices_ContainsFunc Try.laysSlH8_f42 enc p g lb eg b off n c zs w hp hz hbig hc
open Go.RowKit Go.Lib in
theorem Try.slices_ContainsFunc_empty {α:Type} [Inhabited α] (a:Option Addr) (c:Nat) (fv:Value) (w:World):
 Calls Try.prog 42 #[.slice a 0 c,fv] w fun e w'=>e= .returned (.bool false)∧w'=w:=AnyE.slices_ContainsFunc_empty Try.laysSlH8_f42 a c fv w
def Try.laysSlH06_f72_ren:Go.Shelf.Ren:=⟨fun | 6=>72 | n=>n,fun | 22=>48 | 23=>54 | 25=>132 | 3=>3 | 0=>0 | 4=>4 | n=>n,fun | n=>n⟩
theorem Try.laysSlH06_f72:Go.Proofs.SlLaysH0.n6 Try.prog Try.laysSlH06_f72_ren:={
 mixed:=by kernel_rfl
 f6:=⟨Try.f72.name,by decide,Try.func72.trans (congrArg some (by kernel_rfl))⟩
 t0:=Try.underlying0
 a0:=Try.isAgg0
 z0:=Try.sizeOf0
 v0:=Try.zeroValue0
 t3:=Try.underlying3
 a3:=Try.isAgg3
 z3:=Try.sizeOf3
 v3:=Try.zeroValue3
 t4:=Try.underlying4
 a4:=Try.isAgg4
 z4:=Try.sizeOf4
 v4:=Try.zeroValue4
 t22:=Try.underlying48
 a22:=Try.isAgg48
 z22:=Try.sizeOf48
 v22:=Try.zeroValue48
 t25:=Try.underlying132
 a25:=Try.isAgg132
 z25:=Try.sizeOf132
 v25:=Try.zeroValue132}
open Go.RowKit Go.Lib in
theorem Try.slices_IndexFunc_f72 {α:Type} [Inhabited α] (k:Nat) (aE:∀w,(isAgg 54).run Try.prog w= .ok true w) (zE:∀w,(Go.sizeOf 54).run Try.prog w= .ok k w) (enc:α→List Value) (hk:∀x,(enc x).length=k) (p:α→Bool) (g:Nat) (lb:Array Value) (eg:∀args w,(callFunc g args).run Try.prog w= .ok (.enter g args) w) (b off n c:Nat) (zs:List α) (w:World) (hp:PredBelow Try.prog g lb (fun x=>.agg (enc x).toArray) p w) (hz:n≤zs.length) (hbig:n≤9223372036854775807) (hb:b<w.heap.size) (hc:∀j,j<zs.length→∀i v,(enc zs[j]!)[i]? =some v→w.cell? ⟨b,off+j*k+i,none⟩=some v):
 Calls Try.prog 72 #[.slice (some ⟨b,off,none⟩) n c,.func (.func g) #[] lb] w fun e w'=>e= .returned (.int .i64 (Lib.idxBy (fun _ y=>p y) (zs.take n) default))∧Below w.heap.size w w':=AnyQ.slices_IndexFunc Try.laysSlH06_f72 k aE zE enc hk p g lb eg b off n c zs w hp hz hbig hb hc
def Try.laysSlH06_f92_ren:Go.Shelf.Ren:=⟨fun | 6=>92 | n=>n,fun | 22=>45 | 23=>60 | 25=>163 | 3=>3 | 0=>0 | 4=>4 | n=>n,fun | n=>n⟩
theorem Try.laysSlH06_f92:Go.Proofs.SlLaysH0.n6 Try.prog Try.laysSlH06_f92_ren:={
 mixed:=by kernel_rfl
 f6:=⟨Try.f92.name,by decide,Try.func92.trans (congrArg some (by kernel_rfl))⟩
 t0:=Try.underlying0
 a0:=Try.isAgg0
 z0:=Try.sizeOf0
 v0:=Try.zeroValue0
 t3:=Try.underlying3
 a3:=Try.isAgg3
 z3:=Try.sizeOf3
 v3:=Try.zeroValue3
 t4:=Try.underlying4
 a4:=Try.isAgg4
 z4:=Try.sizeOf4
 v4:=Try.zeroValue4
 t22:=Try.underlying45
 a22:=Try.isAgg45
 z22:=Try.sizeOf45
 v22:=Try.zeroValue45
 t25:=Try.underlying163
 a25:=Try.isAgg163
 z25:=Try.sizeOf163
 v25:=Try.zeroValue163}
open Go.RowKit Go.Lib in
theorem Try.slices_IndexFunc_f92 {α:Type} [Inhabited α] (k:Nat) (aE:∀w,(isAgg 60).run Try.prog w= .ok true w) (zE:∀w,(Go.sizeOf 60).run Try.prog w= .ok k w) (enc:α→List Value) (hk:∀x,(enc x).length=k) (p:α→Bool) (g:Nat) (lb:Array Value) (eg:∀args w,(callFunc g args).run Try.prog w= .ok (.enter g args) w) (b off n c:Nat) (zs:List α) (w:World) (hp:PredBelow Try.prog g lb (fun x=>.agg (enc x).toArray) p w) (hz:n≤zs.length) (hbig:n≤9223372036854775807) (hb:b<w.heap.size) (hc:∀j,j<zs.length→∀i v,(enc zs[j]!)[i]? =some v→w.cell? ⟨b,off+j*k+i,none⟩=some v):
 Calls Try.prog 92 #[.slice (some ⟨b,off,none⟩) n c,.func (.func g) #[] lb] w fun e w'=>e= .returned (.int .i64 (Lib.idxBy (fun _ y=>p y) (zs.take n) default))∧Below w.heap.size w w':=AnyQ.slices_IndexFunc Try.laysSlH06_f92 k aE zE enc hk p g lb eg b off n c zs w hp hz hbig hb hc
def Try.laysSlH06_f99_ren:Go.Shelf.Ren:=⟨fun | 6=>99 | n=>n,fun | 22=>52 | 23=>62 | 25=>191 | 3=>3 | 0=>0 | 4=>4 | n=>n,fun | n=>n⟩
theorem Try.laysSlH06_f99:Go.Proofs.SlLaysH0.n6 Try.prog Try.laysSlH06_f99_ren:={
 mixed:=by kernel_rfl
 f6:=⟨Try.f99.name,by decide,Try.func99.trans (congrArg some (by kernel_rfl))⟩
 t0:=Try.underlying0
 a0:=Try.isAgg0
 z0:=Try.sizeOf0
 v0:=Try.zeroValue0
 t3:=Try.underlying3
 a3:=Try.isAgg3
 z3:=Try.sizeOf3
 v3:=Try.zeroValue3
 t4:=Try.underlying4
 a4:=Try.isAgg4
 z4:=Try.sizeOf4
 v4:=Try.zeroValue4
 t22:=Try.underlying52
 a22:=Try.isAgg52
 z22:=Try.sizeOf52
 v22:=Try.zeroValue52
 t25:=Try.underlying191
 a25:=Try.isAgg191
 z25:=Try.sizeOf191
 v25:=Try.zeroValue191}
open Go.RowKit Go.Lib in
theorem Try.slices_IndexFunc_f99 {α:Type} [Inhabited α] (k:Nat) (aE:∀w,(isAgg 62).run Try.prog w= .ok true w) (zE:∀w,(Go.sizeOf 62).run Try.prog w= .ok k w) (enc:α→List Value) (hk:∀x,(enc x).length=k) (p:α→Bool) (g:Nat) (lb:Array Value) (eg:∀args w,(callFunc g args).run Try.prog w= .ok (.enter g args) w) (b off n c:Nat) (zs:List α) (w:World) (hp:PredBelow Try.prog g lb (fun x=>.agg (enc x).toArray) p w) (hz:n≤zs.length) (hbig:n≤9223372036854775807) (hb:b<w.heap.size) (hc:∀j,j<zs.length→∀i v,(enc zs[j]!)[i]? =some v→w.cell? ⟨b,off+j*k+i,none⟩=some v):
 Calls Try.prog 99 #[.slice (some ⟨b,off,none⟩) n c,.func (.func g) #[] lb] w fun e w'=>e= .returned (.int .i64 (Lib.idxBy (fun _ y=>p y) (zs.take n) default))∧Below w.heap.size w w':=AnyQ.slices_IndexFunc Try.laysSlH06_f99 k aE zE enc hk p g lb eg b off n c zs w hp hz hbig hb hc
def Try.laysSlH08_f49_ren:Go.Shelf.Ren:=⟨fun | 8=>49 | 6=>72 | n=>n,fun | 22=>48 | 23=>54 | 25=>132 | 4=>4 | 3=>3 | 0=>0 | n=>n,fun | n=>n⟩
theorem Try.laysSlH08_f49:Go.Proofs.SlLaysH0.n8 Try.prog Try.laysSlH08_f49_ren:={
 mixed:=by kernel_rfl
 f6:=⟨Try.f72.name,by decide,Try.func72.trans (congrArg some (by kernel_rfl))⟩
 f8:=⟨Try.f49.name,by decide,Try.func49.trans (congrArg some (by kernel_rfl))⟩
 t0:=Try.underlying0
 a0:=Try.isAgg0
 z0:=Try.sizeOf0
 v0:=Try.zeroValue0
 t3:=Try.underlying3
 a3:=Try.isAgg3
 z3:=Try.sizeOf3
 v3:=Try.zeroValue3
 t4:=Try.underlying4
 a4:=Try.isAgg4
 z4:=Try.sizeOf4
 v4:=Try.zeroValue4
 t22:=Try.underlying48
 a22:=Try.isAgg48
 z22:=Try.sizeOf48
 v22:=Try.zeroValue48
 t25:=Try.underlying132
 a25:=Try.isAgg132
 z25:=Try.sizeOf132
 v25:=Try.zeroValue132}
open Go.RowKit Go.Lib in
theorem Try.slices_ContainsFunc_f49 {α:Type} [Inhabited α] (k:Nat) (aE:∀w,(isAgg 54).run Try.prog w= .ok true w) (zE:∀w,(Go.sizeOf 54).run Try.prog w= .ok k w) (enc:α→List Value) (hk:∀x,(enc x).length=k) (p:α→Bool) (g:Nat) (lb:Array Value) (eg:∀args w,(callFunc g args).run Try.prog w= .ok (.enter g args) w) (b off n c:Nat) (zs:List α) (w:World) (hp:PredBelow Try.prog g lb (fun x=>.agg (enc x).toArray) p w) (hz:n≤zs.length) (hbig:n≤9223372036854775807) (hb:b<w.heap.size) (hc:∀j,j<zs.length→∀i v,(enc zs[j]!)[i]? =some v→w.cell? ⟨b,off+j*k+i,none⟩=some v):
 Calls Try.prog 49 #[.slice (some ⟨b,off,none⟩) n c,.func (.func g) #[] lb] w fun e w'=>e= .returned (.bool ((zs.take n).any p))∧Below w.heap.size w w':=AnyQ.slices_ContainsFunc Try.laysSlH08_f49 k aE zE enc hk p g lb eg b off n c zs w hp hz hbig hb hc
def Try.laysSlH08_f69_ren:Go.Shelf.Ren:=⟨fun | 8=>69 | 6=>92 | n=>n,fun | 22=>45 | 23=>60 | 25=>163 | 4=>4 | 3=>3 | 0=>0 | n=>n,fun | n=>n⟩
theorem Try.laysSlH08_f69:Go.Proofs.SlLaysH0.n8 Try.prog Try.laysSlH08_f69_ren:={
 mixed:=by kernel_rfl
 f6:=⟨Try.f92.name,by decide,Try.func92.trans (congrArg some (by kernel_rfl))⟩
 f8:=⟨Try.f69.name,by decide,Try.func69.trans (congrArg some (by kernel_rfl))⟩
 t0:=Try.underlying0
 a0:=Try.isAgg0
 z0:=Try.sizeOf0
 v0:=Try.zeroValue0
 t3:=Try.underlying3
 a3:=Try.isAgg3
 z3:=Try.sizeOf3
 v3:=Try.zeroValue3
 t4:=Try.underlying4
 a4:=Try.isAgg4
 z4:=Try.sizeOf4
 v4:=Try.zeroValue4
 t22:=Try.underlying45
 a22:=Try.isAgg45
 z22:=Try.sizeOf45
 v22:=Try.zeroValue45
 t25:=Try.underlying163
 a25:=Try.isAgg163
 z25:=Try.sizeOf163
 v25:=Try.zeroValue163}
open Go.RowKit Go.Lib in
theorem Try.slices_ContainsFunc_f69 {α:Type} [Inhabited α] (k:Nat) (aE:∀w,(isAgg 60).run Try.prog w= .ok true w) (zE:∀w,(Go.sizeOf 60).run Try.prog w= .ok k w) (enc:α→List Value) (hk:∀x,(enc x).length=k) (p:α→Bool) (g:Nat) (lb:Array Value) (eg:∀args w,(callFunc g args).run Try.prog w= .ok (.enter g args) w) (b off n c:Nat) (zs:List α) (w:World) (hp:PredBelow Try.prog g lb (fun x=>.agg (enc x).toArray) p w) (hz:n≤zs.length) (hbig:n≤9223372036854775807) (hb:b<w.heap.size) (hc:∀j,j<zs.length→∀i v,(enc zs[j]!)[i]? =some v→w.cell? ⟨b,off+j*k+i,none⟩=some v):
 Calls Try.prog 69 #[.slice (some ⟨b,off,none⟩) n c,.func (.func g) #[] lb] w fun e w'=>e= .returned (.bool ((zs.take n).any p))∧Below w.heap.size w w':=AnyQ.slices_ContainsFunc Try.laysSlH08_f69 k aE zE enc hk p g lb eg b off n c zs w hp hz hbig hb hc
end Go.Proofs
