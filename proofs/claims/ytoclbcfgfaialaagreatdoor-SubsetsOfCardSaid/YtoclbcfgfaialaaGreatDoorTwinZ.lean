/-
  A list of numbers' twin in other memory, with two places of room behind; that it was left so: the walks of twin, left at int.
-/
import Derived.Test.YtoclbcfgfaialaaGreatDoorTwin
import Derived.Test.YtoclbcfgfaialaaGreatDoorSubTail
namespace Go.Proofs.YtoclbcfgfaialaaGreatDoor
open Go.RowKit
open Go.Sort (grow)
set_option maxRecDepth 100000
theorem infoZ : (Tryz.prog.info? 3).map (fun i => (i.zero, i.size, i.bytes)) = some (some (.int .i64 0), 1, 8) := by kernel_rfl
/-- what twin answers, at int -/
def TwinPostZ (l : List Int) (m : Int) (w : World) (e : Ending) (w' : World) : Prop :=
  ∃ g, e = .returned (.slice (some ⟨g, 0, none⟩) l.length (l.length + 2)) ∧ w'.ownsRow w.heap.size 3 1 (.slice (some ⟨g, 0, none⟩) (l.length + 2) (l.length + 2)) (l.length + 2) ((l ++ [m, m]).map (Value.int .i64)) ∧ Below w.heap.size w w'
set_option maxHeartbeats 1600000 in
theorem twinZ_any (l : List Int) (m : Int) (A : Option Addr) (c : Nat) (w : World) (hm : l.length ≤ 1000000) (hr : Reads w w.heap.size 1 A l.length (l.map (Value.int .i64))) :
    Calls Tryz.prog 27 #[.slice A l.length c, .int .i64 m] w (TwinPostZ l m w) := by
  obtain ⟨i0, hi, hz0, hz1, hz2⟩ := info_parts infoZ
  have hl2 : ((l.length : Int) + 2) = ((l.length + 2 : Nat) : Int) := by omega
  have HL2 := hid hl2
  clear hl2
  go_enter Tryz.func27, Tryz.ntmps27
  go_wp2_with (first
    | (at_make; go_must (refine wpList_make_own (P := Tryz.prog) _ rfl _ _ 23 rfl w.heap.size 3 i0 _ 1 Tryz.underlying23 hi hz0 hz1 .i64 .i64 _ (l.length + 2) rfl rfl HL2.out (by rw [hz2]; omega) (by simp only [maxLen]; omega) (by simp) ?_); intro w2 hown2 hg2; have hb2 := (Below.refl w.heap.size w).grown hg2 (Nat.le_refl _) (fun k hk => by cases hk); have hr2 := hr.next hb2)
    | (at_builtin; (refine wpList_append_spare_reads (P := Tryz.prog) _ rfl (.tmp 10) (.tmp 11) 23 rfl w.heap.size 3 i0 1 Tryz.underlying23 hi hz1 w.heap.size 0 (l.length + 2) [] rfl hown2 _ A l.length c (l.map (Value.int .i64)) rfl hr2 (cell64 l) (by omega) ?_); intro w3 hown3 hg3; have hb3 := grown_below hg3 hb2 hb2.size (Nat.le_refl _); simp only [Nat.zero_add, List.nil_append] at hown3 ⊢)
    | (at_builtin; go_must (refine wpList_append_own_spare (P := Tryz.prog) _ rfl (.tmp 13) (.tmp 16) 23 rfl w.heap.size 3 i0 1 Tryz.underlying23 hi hz1 w.heap.size l.length (l.length + 2) (l.map (Value.int .i64)) rfl (hown3.alloc _) ⟨w3.heap.size, 0, none⟩ 2 2 [.int .i64 m, .int .i64 m] rfl rfl (fun j u hu => by rw [addr0', cell_new]; simpa using hu) (by simp [Value.oneCell']) (by omega) ?_); intro w4 hown4 hg4))
  go_ret
  refine ⟨w.heap.size, rfl, ?_, grown_below hg4 (hb3.alloc hb3.size _) (by have := hb3.size; simp; omega) (Nat.le_refl _)⟩
  rw [List.map_append]
  exact hown4
set_option maxHeartbeats 400000 in
theorem twinN_any (l : List Int) (A : Option Addr) (c : Nat) (w : World) (hm : l.length ≤ 1000000) (hr : Reads w w.heap.size 1 A l.length (l.map (Value.int .i64))) :
    Calls Tryz.prog 9 #[.slice A l.length c] w (TwinPostZ l (-77) w) := by
  go_enter Tryz.func9, Tryz.ntmps9
  go_wp2_with fail
  refine (twinZ_any l (-77) A c w hm hr).mono ?_
  rintro e w1 ⟨g, rfl, h1, h2⟩
  go_wp2_with fail
  go_ret
  exact ⟨g, rfl, h1, h2⟩
theorem reads_prefixZ {w : World} {B : Nat} {A : Option Addr} {l m : List Int} (h : Reads w B 1 A (l ++ m).length ((l ++ m).map (Value.int .i64))) : Reads w B 1 A l.length (l.map (Value.int .i64)) := by
  refine ⟨by simp, fun hn => ?_⟩
  obtain ⟨b, o, h1, h2, h3⟩ := h.2 (by simp; omega)
  refine ⟨b, o, h1, h2, fun j u hu => h3 j u ?_⟩
  have hj : j < (l.map (Value.int .i64)).length := by
    rcases Nat.lt_or_ge j (l.map (Value.int .i64)).length with h4 | h4
    · exact h4
    · rw [List.getElem?_eq_none h4] at hu; cases hu
  rw [List.map_append, List.getElem?_append_left hj]
  exact hu
set_option maxHeartbeats 1600000 in
theorem leftZ_any (l : List Int) (m : Int) (g : Nat) (B : Option Addr) (d : Nat) (w : World) (hm : l.length ≤ 1000000) (ht : Reads w w.heap.size 1 (some ⟨g, 0, none⟩) (l.length + 2) ((l ++ [m, m]).map (Value.int .i64))) (hr : Reads w w.heap.size 1 B l.length (l.map (Value.int .i64))) :
    Calls Tryz.prog 37 #[.slice (some ⟨g, 0, none⟩) l.length (l.length + 2), .slice B l.length d, .int .i64 m] w fun e w' => e = .returned (.bool true) ∧ Below w.heap.size w w' := by
  have hlen2 : (l ++ [m, m]).length = l.length + 2 := by simp
  rw [← hlen2] at ht
  obtain ⟨b9, o9, h9, hb9, k0⟩ := readsZ ht (Below.refl _ _) l.length (by omega)
  injection h9 with h9
  injection h9 with h91 h92 _
  subst h91 h92
  obtain ⟨b9, o9, h9, _, k2⟩ := readsZ ht (Below.refl _ _) (l.length + 1) (by omega)
  injection h9 with h9
  injection h9 with h91 h92 _
  subst h91 h92
  rw [show (l ++ [m, m])[l.length]'(by omega) = m by simp] at k0
  rw [show (l ++ [m, m])[l.length + 1]'(by omega) = m by rw [List.getElem_append_right (by omega)]; simp] at k2
  rw [Nat.zero_add] at k0 k2
  have htl : Reads w w.heap.size 1 (some ⟨g, 0, none⟩) l.length (l.map (Value.int .i64)) := reads_prefixZ ht
  clear ht hlen2 hb9
  go_enter Tryz.func37, Tryz.ntmps37
  go_wp2_with fail
  try simp only [Nat.add_sub_cancel_left]
  refine (sameZ1_any (some ⟨g, 0, none⟩) B (l.length + 2) d l w (by omega) htl hr).mono ?_
  rintro e w1 ⟨rfl, hb1⟩
  have k0 := (hb1.cell (p := ⟨g, l.length, none⟩) (by assumption)).trans k0
  have k2 := (hb1.cell (p := ⟨g, l.length + 1, none⟩) (by assumption)).trans k2
  go_wp2
  go_ret
  exact ⟨rfl, hb1⟩
set_option maxHeartbeats 400000 in
theorem leftN_any (l : List Int) (g : Nat) (B : Option Addr) (d : Nat) (w : World) (hm : l.length ≤ 1000000) (ht : Reads w w.heap.size 1 (some ⟨g, 0, none⟩) (l.length + 2) ((l ++ [-77, -77]).map (Value.int .i64))) (hr : Reads w w.heap.size 1 B l.length (l.map (Value.int .i64))) :
    Calls Tryz.prog 13 #[.slice (some ⟨g, 0, none⟩) l.length (l.length + 2), .slice B l.length d] w fun e w' => e = .returned (.bool true) ∧ Below w.heap.size w w' := by
  go_enter Tryz.func13, Tryz.ntmps13
  go_wp2_with fail
  refine (leftZ_any l (-77) g B d w hm ht hr).mono ?_
  rintro e w1 ⟨rfl, h1⟩
  go_wp2_with fail
  go_ret
  exact ⟨rfl, h1⟩
end Go.Proofs.YtoclbcfgfaialaaGreatDoor
