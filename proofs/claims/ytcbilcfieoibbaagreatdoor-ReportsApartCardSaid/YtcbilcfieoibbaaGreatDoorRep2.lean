/-
  strings.NewReplacer: the walk.
-/
import Derived.Test.YtcbilcfieoibbaaGreatDoorRep1
namespace Go.Proofs.YtcbilcfieoibbaaGreatDoor
open Go.RowKit
set_option maxRecDepth 100000
theorem infoStr : (Tryz.prog.info? 9).map (fun i => (i.zero, i.size, i.bytes)) = some (some (.string ⟨#[]⟩), 1, 16) := by kernel_rfl
/-- a replacer's cells -/
def rplCells (d s : Int) (i v : Value) : Array Value := #[.int .u32 d, .int .i32 s, .int .u32 0, i, v]
theorem own_form {w : World} {B s n : Nat} {e : TypeId} {u : Value} {xs : List Value} (h : w.ownsRow B e s u n xs) : ∃ A c, u = .slice A n c := by
  rcases h.2 with ⟨rfl, rfl⟩ | ⟨g, cap, cur, rfl, _⟩
  · exact ⟨_, _, rfl⟩
  · exact ⟨_, _, rfl⟩
set_option maxHeartbeats 1000000 in
theorem newRep_any (A : Option Addr) (c B : Nat) (s0 s1 s2 s3 : ByteArray) (w : World) (hr : Reads w B 1 A 4 [.string s0, .string s1, .string s2, .string s3]) :
    Calls Tryz.prog 24 #[.slice A 4 c] w fun e w' => ∃ (pb : Nat) (v : Value), e = .returned (.pointer (some ⟨pb, 0, none⟩)) ∧ w.heap.size ≤ pb ∧ w'.heap[pb]? = some (.cells (rplCells 0 0 .nilIface v) 142 (0, 0)) ∧
      w'.ownsRow w.heap.size 9 1 v 4 [.string s0, .string s1, .string s2, .string s3] ∧ Below w.heap.size w w' := by
  obtain ⟨i0, hi, hz0, hz1, hz2⟩ := info_parts infoStr
  go_enter Tryz.func24, Tryz.ntmps24
  go_wp2_with (at_builtin; go_must (refine wpList_append_reads _ rfl _ _ 41 rfl w.heap.size 9 i0 _ 1 16 Tryz.underlying41 hi hz0 hz1 hz2 rfl (by omega) _ _ _ rfl (World.ownsRow_nil _ _ _ _) _ A 4 c _ rfl hr (by simp [Value.oneCell']) (by simp only [maxLen]; omega) (by omega) (Nat.le_refl _) ?_); intro v' w' hown' hsz' hB'; obtain ⟨ao, cap, rfl⟩ := own_form hown')
  have hb := hB' w (Below.refl _ _)
  go_ret
  exact ⟨w'.heap.size, _, rfl, hsz', heap_alloc_new w' _, hown'.alloc _, hb.alloc hsz' _⟩
end Go.Proofs.YtcbilcfieoibbaaGreatDoor
