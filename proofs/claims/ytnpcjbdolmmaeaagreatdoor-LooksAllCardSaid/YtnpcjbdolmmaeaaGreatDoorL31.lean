/-
  ConfigsPlay: the two sets as they lie in memory, amid the playing; how many alternatives a set has.
-/
import Derived.Test.YtnpcjbdolmmaeaaGreatDoorL25
import Derived.Test.YtnpcjbdolmmaeaaGreatDoorL28
import Derived.Test.YtnpcjbdolmmaeaaGreatDoorL29
import Derived.Test.YtnpcjbdolmmaeaaGreatDoorL30
namespace Go.Proofs.YtnpcjbdolmmaeaaGreatDoor
namespace Cf
open Drv
theorem rise_len (N : Nat) (A : List Int) (h : A.Pairwise (· < ·)) (k : ∀ a ∈ A, 0 ≤ a ∧ a < (N : Int)) : A.length ≤ N := by
  have h1 := pigeon (fun a : Int => a) A ((List.range N).map fun i : Nat => (i : Int)) (h.imp fun {a b} hab e => by omega) (fun a ha => by
    have := k a ha
    exact List.mem_map.2 ⟨a.toNat, List.mem_range.2 (by omega), by omega⟩)
  simpa using h1
theorem alts_few {v : Vw} {l : List Cfg} {s : St} (h : IsSet v l s) (k : SetB v s) : s.alts.length ≤ v.d.ends.length := by
  unfold IsSet at h
  split at h
  · refine rise_len _ _ h.2.2.rise fun a ha => ?_
    obtain ⟨x, hx, rfl⟩ := (h.2.2.mem a).1 ha
    have := has_state (List.mem_filter.1 hx).2
    exact ⟨this.1, this.2.1⟩
  · refine rise_len _ _ h.2.2.rise fun a ha => ?_
    obtain ⟨x, hx, rfl⟩ := (h.2.2.mem a).1 ha
    have := has_state (k.ok x hx).2
    exact ⟨this.1, this.2.1⟩
theorem SetB.stk {v : Vw} {s : St} (W : OkW v) (h : SetB v s) : ∀ x ∈ s.configs, x.stack.length ≤ 1000000 := fun x hx => by
  have := (h.ok x hx).1.len W
  omega
end Cf
open Go.RowKit
set_option maxRecDepth 100000
def cellsP (CA AA : Option Addr) (s : Cf.St) : Array Value := #[.slice CA s.configs.length s.configs.length, .slice AA s.alts.length s.alts.length, .bool s.over]
def cellsR (CB AB : Option Addr) (cb ab : Nat) (s : Cf.St) : Array Value := #[.slice CB s.configs.length cb, .slice AB s.alts.length ab, .bool s.over]
structure Pl (v : Cf.Vw) (w0 : World) (b2 : Nat) (s r : Cf.St) (CA AA CB AB : Option Addr) (cb ab : Nat) (wr : World) : Prop where
  below : Below w0.heap.size w0 wr
  lt : w0.heap.size < b2
  sb : Cf.SetB v s
  rsb : Cf.SetB v r
  p : SetIn wr 0 CA AA s
  pb : wr.heap[w0.heap.size]? = some (.cells (cellsP CA AA s) 43 (0, 0))
  rc : CfR wr (fun _ => False) CB r.configs
  ra : RO wr (fun _ => False) 1 AB r.alts.length (r.alts.map (Value.int .i64))
  rb : wr.heap[b2]? = some (.cells (cellsR CB AB cb ab r) 47 (0, 0))
theorem notP {w : World} {k : Nat} {cs : Array Value} (h : w.heap[k]? = some (.cells cs 43 (0, 0))) : ∀ c, w.heap[k]? ≠ some (.cells c 3 (0, 0)) ∧ w.heap[k]? ≠ some (.cells c 89 (0, 0)) := fun c => by
  rw [h]
  constructor
  · intro e; injection e with e; injection e with _ e; exact absurd e (by decide)
  · intro e; injection e with e; injection e with _ e; exact absurd e (by decide)
theorem rvok_of {n : Drv.NNet} {d b : Int} {v : Cf.Vw} (h : Cf.newV n d b = some v) (hf : Cf.fewN n) : RvOk v := by
  obtain ⟨W, hd, hn, _⟩ := Cf.newV_ok h hf
  have hm : Drv.mayNet n = true := by
    unfold Cf.newV at h
    split at h
    · next hc => exact hc.1
    · cases h
  have hM := Cf.mayF hm
  refine ⟨W, fun s hs e he => ?_, ?_, ?_, hd⟩
  · rw [hn] at hs
    have := Cf.edge_of (hM.st s hs) he
    unfold Drv.edgeB at this
    simp only [Bool.and_eq_true, decide_eq_true_eq] at this
    exact ⟨this.1.1.1.1, this.1.1.1.2⟩
  · rw [hn]; have := hf.2.2.1; omega
  · rw [hn] at hd
    have := (hf.2.2.2.2.2 _ hd).2
    omega
theorem nets_of {n : Drv.NNet} (hf : Cf.fewN n) (hk : ∀ s ∈ n.states, ∀ e ∈ s.edges, 0 ≤ e.kind) : NetS n :=
  ⟨by have := hf.1; omega, by have := hf.2.1; omega, by have := hf.2.2.1; omega, by have := hf.2.2.2.1; omega, by have := hf.2.2.2.2.1; omega, fun s hs => ⟨by have := (hf.2.2.2.2.2 s hs).1; omega, by have := (hf.2.2.2.2.2 s hs).2; omega, hk s hs⟩⟩
end Go.Proofs.YtnpcjbdolmmaeaaGreatDoor
