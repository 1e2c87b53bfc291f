/-
  lives of the statements of subsets: its places and its table; what a table in memory is good for.
-/
import Derived.Test.YtoclbcfgfaialaaGreatDoorSubMath
import Derived.Test.YtoclbcfgfaialaaGreatDoorMath
import Derived.KernelRfl
namespace Go.Proofs.YtoclbcfgfaialaaGreatDoor
set_option maxRecDepth 100000
def setL (x : Int) : List Rg := [(x, x)]
def auL : Au := ⟨[⟨setL 97, 0, false, [1]⟩, ⟨setL 98, 0, false, [0, 2]⟩, ⟨setL 120, 0, true, []⟩], [0, 2], 1⟩
def rsL : List Rg := [(97, 97), (98, 98), (120, 120)]
theorem mayL : mayB auL = true := by decide +kernel
theorem rise_unique : ∀ (l m : List Int), l.Pairwise (· < ·) → m.Pairwise (· < ·) → (∀ x, x ∈ l ↔ x ∈ m) → l = m
  | [], [], _, _, _ => rfl
  | [], y :: m, _, _, h => by have := (h y).2 (by simp); cases this
  | x :: l, [], _, _, h => by have := (h x).1 (by simp); cases this
  | x :: l, y :: m, hl, hm, h => by
    rw [List.pairwise_cons] at hl hm
    have e : x = y := by
      have h1 : x = y ∨ x ∈ m := by simpa using (h x).1 (by simp)
      have h2 : y = x ∨ y ∈ l := by simpa using (h y).2 (by simp)
      rcases h1 with h1 | h1
      · exact h1
      · rcases h2 with h2 | h2
        · exact h2.symm
        · have := hm.1 _ h1; have := hl.1 _ h2; omega
    subst e
    rw [rise_unique l m hl.2 hm.2 fun z => ?_]
    have hz := h z
    simp only [List.mem_cons] at hz
    constructor
    · intro hz1
      have := hl.1 z hz1
      rcases hz.1 (.inr hz1) with e | e
      · omega
      · exact e
    · intro hz1
      have := hm.1 z hz1
      rcases hz.2 (.inr hz1) with e | e
      · omega
      · exact e
theorem placesOf_self {l : List Int} (h : l.Pairwise (· < ·)) : placesOf l = l := rise_unique _ _ (placesOf_law l).1 h (placesOf_law l).2
theorem loopM_more (a : Au) (rs : List Rg) (f s : Nat) (m : Mk) (rows : List (List Int)) (nx : List Int) (y : Mk × List Int) (h1 : s < m.opens.length) (h2 : tooMany m.opens.length rs.length = false) (h3 : nextM a m.opens s = nx) (h4 : rowM a nx rs m = y) :
    loopM a rs (f + 1) s m rows = loopM a rs f (s + 1) y.1 (rows ++ [y.2]) := by
  rw [loopM, if_pos h1, if_neg (by rw [h2]; simp), h3, h4]
theorem liveT : tableM auL rsL = some (⟨[[], [0], [2], [1]], [-1, -1, 0, -1]⟩, [[1, -1, 2], [-1, 3, -1], [-1, -1, -1], [1, -1, 2]]) := by
  unfold tableM
  rw [loopM_more auL rsL 4097 0 start0 [] [0, 2] (⟨[[], [0], [2]], [-1, -1, 0]⟩, [1, -1, 2]) (by decide) (by decide) (by kernel_rfl) (by kernel_rfl)]
  rw [loopM_more auL rsL 4096 1 ⟨[[], [0], [2]], [-1, -1, 0]⟩ _ [1] (⟨[[], [0], [2], [1]], [-1, -1, 0, -1]⟩, [-1, 3, -1]) (by decide) (by decide) (placesOf_self (l := [1]) (by decide)) (by kernel_rfl)]
  rw [loopM_more auL rsL 4095 2 ⟨[[], [0], [2], [1]], [-1, -1, 0, -1]⟩ _ [] (⟨[[], [0], [2], [1]], [-1, -1, 0, -1]⟩, [-1, -1, -1]) (by decide) (by decide) (placesOf_self (l := []) (by decide)) (by kernel_rfl)]
  rw [loopM_more auL rsL 4094 3 ⟨[[], [0], [2], [1]], [-1, -1, 0, -1]⟩ _ [0, 2] (⟨[[], [0], [2], [1]], [-1, -1, 0, -1]⟩, [1, -1, 2]) (by decide) (by decide) (placesOf_self (l := [0, 2]) (by decide)) (by kernel_rfl)]
  rw [loopM, if_neg (by decide)]
  rfl
theorem holds_consL (r : Rg) (l : List Rg) (x : Int) : Holds1 (r :: l) x ↔ (r.1 ≤ x ∧ x ≤ r.2) ∨ Holds1 l x := by simp [Holds1]
theorem holds_nilL (x : Int) : ¬ Holds1 [] x := by simp [Holds1]
theorem liveS : splitOf ((auL.places.map (·.set)).map neatOf) = rsL := by
  have e : auL.places.map (·.set) = [setL 97, setL 98, setL 120] := rfl
  rw [e]
  exact split_unique [setL 97, setL 98, setL 120] _ _ 0 (splitOf_law _ 0 (by simp [setL, holds_consL, holds_nilL]; (repeat' constructor) <;> (intros; omega)))
    ⟨by simp [rsL], by simp [rsL], by
      simp only [rsL, setL, List.forall_mem_cons, Alike, holds_consL, holds_nilL, or_false]
      refine ⟨fun x h1 h2 => ⟨?_, ?_, ?_, by simp⟩, fun x h1 h2 => ⟨?_, ?_, ?_, by simp⟩, fun x h1 h2 => ⟨?_, ?_, ?_, by simp⟩, by simp⟩ <;> omega, fun x => by simp [rsL, setL, holds_consL, holds_nilL]; omega, by
      simp only [rsL, setL, List.forall_mem_cons, Alike, holds_consL, holds_nilL, or_false]
      simp⟩
end Go.Proofs.YtoclbcfgfaialaaGreatDoor
