/-
  Is a set the document's (harbingerlaw14.Same)? Where both lie in memory as the same set: yes: the walk.
-/
import Derived.Test.YtnpcjbdolmmaeaaGreatDoorL19
import Derived.Test.YtnpcjbdolmmaeaaGreatDoorL25
namespace Go.Proofs.YtnpcjbdolmmaeaaGreatDoor
open Go.RowKit
set_option maxRecDepth 100000
def SameP (w : World) (e : Ending) (w' : World) : Prop := e = .returned (.bool true) ∧ Below w.heap.size w w'
end Go.Proofs.YtnpcjbdolmmaeaaGreatDoor
namespace Go.Proofs.YtnpcjbdolmmaeaaGreatDoor
open Go.RowKit
set_option maxRecDepth 100000
def WrZ (w : World) (B : Nat) (A : Option Addr) (n : Nat) : Prop := n = 0 ∨ ∃ g cs, A = some ⟨g, 0, none⟩ ∧ B ≤ g ∧ w.heap[g]? = some (.cells cs 3 (0, 0)) ∧ n ≤ cs.size
def WrC (w : World) (B : Nat) (CA : Option Addr) (ns : List Nat) : Prop := ns = [] ∨ ∃ g cs, CA = some ⟨g, 0, none⟩ ∧ B ≤ g ∧ w.heap[g]? = some (.cells cs 89 (0, 0)) ∧ ns.length * 5 ≤ cs.size ∧ ∀ i (h : i < ns.length), ∃ A c, cs[i*5+2]? = some (.slice A ns[i] c) ∧ ns[i] ≤ c ∧ WrZ w B A ns[i]
def lensOf (s : Cf.St) : List Nat := s.configs.map fun x => x.stack.length
structure Spl (w0 : World) (B box : Nat) (CA AA : Option Addr) (ns : List Nat) (nA : Nat) (o : Bool) (wr : World) : Prop where
  c : WrC wr B CA ns
  z : WrZ wr B AA nA
  below : Below B w0 wr
  blk : wr.heap[box]? = some (.cells #[.slice CA ns.length ns.length, .slice AA nA nA, .bool o] 43 (0, 0))
end Go.Proofs.YtnpcjbdolmmaeaaGreatDoor
