/-
  ConfigsPlay: the two sets as they lie in memory, amid the playing; how many alternatives a set has.
-/
import Derived.Test.YtnpcjbdolmmaeaaGreatDoorCfRv
import Derived.Test.YtnpcjbdolmmaeaaGreatDoorCfRw
import Derived.Test.YtnpcjbdolmmaeaaGreatDoorCfSm
import Derived.Test.YtnpcjbdolmmaeaaGreatDoorCfGr
namespace Go.Proofs.YtnpcjbdolmmaeaaGreatDoor
namespace Cf
open Drv
theorem rise_len (N : Nat) (A : List Int) (h : A.Pairwise (· < ·)) (k : ∀ a ∈ A, 0 ≤ a ∧ a < (N : Int)) : A.length ≤ N := by
  have h1 := pigeon (fun a : Int => a) A ((List.range N).map fun i : Nat => (i : Int)) (h.imp fun {a b} hab e => by omega) (fun a ha => by
    have := k a ha
    exact List.mem_map.2 ⟨a.toNat, List.mem_range.2 (by omega), by omega⟩)
  simpa using h1
theorem alts_few {v : Vw} {l : List Cfg} {s : St} (h : IsSet v l s) (k : SetB v s) : s.alts.length ≤ v.d.ends.length := by
  unfold IsSet at h
  split at h
  · refine rise_len _ _ h.2.2.rise fun a ha => ?_
    obtain ⟨x, hx, rfl⟩ := (h.2.2.mem a).1 ha
    have := has_state (List.mem_filter.1 hx).2
    exact ⟨this.1, this.2.1⟩
  · refine rise_len _ _ h.2.2.rise fun a ha => ?_
    obtain ⟨x, hx, rfl⟩ := (h.2.2.mem a).1 ha
    have := has_state (k.ok x hx).2
    exact ⟨this.1, this.2.1⟩
theorem move_few {v : Vw} {s t : St} {tok : Int} (h : if s.over = true then t = ⟨[], [], false⟩ else IsSet v (moveL v s tok) t) (k : SetB v t) : t.alts.length ≤ v.d.ends.length := by
  split at h
  · rw [h]; exact Nat.zero_le _
  · exact alts_few h k
theorem SetB.stk {v : Vw} {s : St} (W : OkW v) (h : SetB v s) : ∀ x ∈ s.configs, x.stack.length ≤ 1000000 := fun x hx => by
  have := (h.ok x hx).1.len W
  omega
end Cf
open Go.RowKit
set_option maxRecDepth 100000
def cellsP (CA AA : Option Addr) (s : Cf.St) : Array Value := #[.slice CA s.configs.length s.configs.length, .slice AA s.alts.length s.alts.length, .bool s.over]
def cellsR (CB AB : Option Addr) (cb ab : Nat) (s : Cf.St) : Array Value := #[.slice CB s.configs.length cb, .slice AB s.alts.length ab, .bool s.over]
/-- the program's set in its box, the document's in its own -/
structure Pl (v : Cf.Vw) (w0 : World) (b2 : Nat) (s r : Cf.St) (CA AA CB AB : Option Addr) (cb ab : Nat) (wr : World) : Prop where
  below : Below w0.heap.size w0 wr
  lt : w0.heap.size < b2
  sb : Cf.SetB v s
  rsb : Cf.SetB v r
  p : SetIn wr 0 CA AA s
  pb : wr.heap[w0.heap.size]? = some (.cells (cellsP CA AA s) 43 (0, 0))
  rc : CfR wr (fun _ => False) CB r.configs
  ra : RO wr (fun _ => False) 1 AB r.alts.length (r.alts.map (Value.int .i64))
  rb : wr.heap[b2]? = some (.cells (cellsR CB AB cb ab r) 47 (0, 0))
theorem Pl.next {v : Cf.Vw} {w0 wr w' : World} {b2 : Nat} {s r : Cf.St} {CA AA CB AB : Option Addr} {cb ab : Nat} (h : Pl v w0 b2 s r CA AA CB AB cb ab wr) (hb : Below wr.heap.size wr w') : Pl v w0 b2 s r CA AA CB AB cb ab w' :=
  ⟨h.below.trans (hb.mono h.below.size), h.lt, h.sb, h.rsb, h.p.below hb, (hb.block _ (heap_lt h.pb)).trans h.pb, h.rc.below hb, h.ra.only (Only.of_below hb) (fun _ _ e => e), (hb.block _ (heap_lt h.rb)).trans h.rb⟩
theorem notP {w : World} {k : Nat} {cs : Array Value} (h : w.heap[k]? = some (.cells cs 43 (0, 0))) : ∀ c, w.heap[k]? ≠ some (.cells c 3 (0, 0)) ∧ w.heap[k]? ≠ some (.cells c 89 (0, 0)) := fun c => by
  rw [h]
  constructor
  · intro e; injection e with e; injection e with _ e; exact absurd e (by decide)
  · intro e; injection e with e; injection e with _ e; exact absurd e (by decide)
theorem notR {w : World} {k : Nat} {cs : Array Value} (h : w.heap[k]? = some (.cells cs 47 (0, 0))) : ∀ c, w.heap[k]? ≠ some (.cells c 3 (0, 0)) ∧ w.heap[k]? ≠ some (.cells c 89 (0, 0)) := fun c => by
  rw [h]
  constructor
  · intro e; injection e with e; injection e with _ e; exact absurd e (by decide)
  · intro e; injection e with e; injection e with _ e; exact absurd e (by decide)
/-- the program's box is written -/
theorem Pl.putP {v : Cf.Vw} {w0 wr w' : World} {b2 : Nat} {s r t : Cf.St} {CA AA CB AB CA2 AA2 : Option Addr} {cb ab : Nat} (h : Pl v w0 b2 s r CA AA CB AB cb ab wr) (ht : SetIn wr 0 CA2 AA2 t) (hs : Cf.SetB v t) (ho : Only (fun k => k = w0.heap.size) wr w')
    (hq : w'.heap[w0.heap.size]? = some (.cells (cellsP CA2 AA2 t) 43 (0, 0))) : Pl v w0 b2 t r CA2 AA2 CB AB cb ab w' := by
  have hl := h.lt
  have hn : NoInt wr w0.heap.size := NoInt.of h.pb
  exact ⟨h.below.trans (ho.below' (fun k e => by omega) h.below.size), hl, hs, h.rsb, ht.still ho (fun k hk cs => by rw [hk]; exact notP h.pb cs), hq, (h.rc.not_at hn).only ho (fun _ _ e => e.elim), (h.ra.not_at hn).only ho (fun _ _ e => e.elim), (ho.block b2 (heap_lt h.rb) (by omega)).trans h.rb⟩
/-- the document's box is written -/
theorem Pl.putR {v : Cf.Vw} {w0 wr w' : World} {b2 : Nat} {s r t : Cf.St} {CA AA CB AB CB2 AB2 : Option Addr} {cb ab cb2 ab2 : Nat} (h : Pl v w0 b2 s r CA AA CB AB cb ab wr) (hc : CfR wr (fun _ => False) CB2 t.configs) (ha : RO wr (fun _ => False) 1 AB2 t.alts.length (t.alts.map (Value.int .i64))) (hs : Cf.SetB v t) (ho : Only (fun k => k = b2) wr w')
    (hq : w'.heap[b2]? = some (.cells (cellsR CB2 AB2 cb2 ab2 t) 47 (0, 0))) : Pl v w0 b2 s t CA AA CB2 AB2 cb2 ab2 w' := by
  have hl := h.lt
  have hn : NoInt wr b2 := NoInt.of h.rb
  have hz := h.below.size
  exact ⟨h.below.trans (ho.below' (fun k e => by omega) hz), hl, h.sb, hs, h.p.still ho (fun k hk cs => by rw [hk]; exact notR h.rb cs), (ho.block w0.heap.size (heap_lt h.pb) (by omega)).trans h.pb, (hc.not_at hn).only ho (fun _ _ e => e.elim), (ha.not_at hn).only ho (fun _ _ e => e.elim), hq⟩
theorem Pl.pcells {v : Cf.Vw} {w0 wr : World} {b2 : Nat} {s r : Cf.St} {CA AA CB AB : Option Addr} {cb ab : Nat} (h : Pl v w0 b2 s r CA AA CB AB cb ab wr) : wr.cell? ⟨w0.heap.size, 0, none⟩ = some (.slice CA s.configs.length s.configs.length) ∧ wr.cell? ⟨w0.heap.size, 1, none⟩ = some (.slice AA s.alts.length s.alts.length) ∧ wr.cell? ⟨w0.heap.size, 2, none⟩ = some (.bool s.over) := cells3 h.pb
theorem Pl.rcells {v : Cf.Vw} {w0 wr : World} {b2 : Nat} {s r : Cf.St} {CA AA CB AB : Option Addr} {cb ab : Nat} (h : Pl v w0 b2 s r CA AA CB AB cb ab wr) : wr.cell? ⟨b2, 0, none⟩ = some (.slice CB r.configs.length cb) ∧ wr.cell? ⟨b2, 1, none⟩ = some (.slice AB r.alts.length ab) ∧ wr.cell? ⟨b2, 2, none⟩ = some (.bool r.over) := cells3 h.rb
/-- a net that is gone through, and that may be, gives a view of the document's too -/
theorem rvok_of {n : Drv.NNet} {d b : Int} {v : Cf.Vw} (h : Cf.newV n d b = some v) (hf : Cf.fewN n) : RvOk v := by
  obtain ⟨W, hd, hn, _⟩ := Cf.newV_ok h hf
  have hm : Drv.mayNet n = true := by
    unfold Cf.newV at h
    split at h
    · next hc => exact hc.1
    · cases h
  have hM := Cf.mayF hm
  refine ⟨W, fun s hs e he => ?_, ?_, ?_, hd⟩
  · rw [hn] at hs
    have := Cf.edge_of (hM.st s hs) he
    unfold Drv.edgeB at this
    simp only [Bool.and_eq_true, decide_eq_true_eq] at this
    exact ⟨this.1.1.1.1, this.1.1.1.2⟩
  · rw [hn]; have := hf.2.2.1; omega
  · rw [hn] at hd
    have := (hf.2.2.2.2.2 _ hd).2
    omega
theorem nets_of {n : Drv.NNet} (hf : Cf.fewN n) (hk : ∀ s ∈ n.states, ∀ e ∈ s.edges, 0 ≤ e.kind) : NetS n :=
  ⟨by have := hf.1; omega, by have := hf.2.1; omega, by have := hf.2.2.1; omega, by have := hf.2.2.2.1; omega, by have := hf.2.2.2.2.1; omega, fun s hs => ⟨by have := (hf.2.2.2.2.2 s hs).1; omega, by have := (hf.2.2.2.2.2 s hs).2; omega, hk s hs⟩⟩
end Go.Proofs.YtnpcjbdolmmaeaaGreatDoor
