/-
  slices.Clone and Clip at configurations; slices.DeleteFunc where nothing is deleted: the walks.
-/
import Derived.Test.YtnpcjbdolmmaeaaGreatDoorCfIx
namespace Go.Proofs.YtnpcjbdolmmaeaaGreatDoor
open Go.RowKit
set_option maxRecDepth 100000
set_option maxHeartbeats 2000000 in
theorem cloneC_any (A : Option Addr) (n c B : Nat) (xs : List Value) (w : World) (hn : n ≤ 1000000000) (hr : Reads w B 5 A n xs) (h1 : ∀ u ∈ xs, u.oneCell' = true) :
    Calls Tryz.prog 55 #[.slice A n c] w (CloneP 89 5 n xs w) := by
  obtain ⟨i0, hi, hz0, hz1, hz2⟩ := info_of infoCfg
  have q22 : ∀ (w : World) (a : Option Addr) (n c n' c' : Nat), (binOp .eql 41 (.slice a n c) (.slice none n' c')).run Tryz.prog w = .ok (.bool a.isNone) w := fun w a n c n' c' => Lib.run_eql_slice_nil w _ _ a n c n' c' Tryz.underlying41
  cases A with
  | none =>
    have hn0 : n = 0 := by
      rcases Nat.eq_zero_or_pos n with e | e
      · exact e
      · obtain ⟨b, off, e, _⟩ := hr.2 e; cases e
    subst hn0
    have hx : xs = [] := List.length_eq_zero_iff.1 (by rw [hr.1, Nat.zero_mul])
    subst hx
    clear hr h1
    go_enter Tryz.func55, Tryz.ntmps55
    go_wp2
    go_ret
    exact ⟨none, 0, rfl, World.ownsRow_nil _ _ _ _, Below.refl _ _⟩
  | some a =>
    have hcell := reads_some hr (by decide)
    have HLn := hid hr.1
    clear hr
    have HC := hid hcell
    clear hcell
    go_enter Tryz.func55, Tryz.ntmps55
    go_wp2_with (at_builtin; refine wpList_append_own _ rfl _ _ 41 rfl w.heap.size 89 i0 _ 5 48 Tryz.underlying41 hi hz0 hz1 hz2 rfl (by decide) _ _ _ rfl (World.ownsRow_made w #[] 0 (Nat.le_refl _) (Nat.zero_le _) rfl) a n c xs rfl ?qc1 ?qc2 ?qc3 ?qc4 ?qc5 ?qc6 ?_)
    case qc1 => exact HLn.out
    case qc2 =>
      intro j u hj
      exact Lib.cell?_alloc_some _ (HC.out j u hj)
    case qc3 => exact h1
    case qc4 => unfold maxLen; omega
    case qc5 => omega
    case qc6 => simp
    intro v' w1 hown hgrow hnil
    go_wp2
    go_ret
    have hown : w1.ownsRow w.heap.size 89 5 v' n xs := by simpa using hown
    obtain ⟨A', c', rfl⟩ := row_form hown
    exact ⟨A', c', rfl, hown, ((Below.refl _ w).alloc (Nat.le_refl _) _).grown hgrow (by simp) (by intro k hk; simp [Value.ownBlock] at hk; omega)⟩
theorem clipC_any (A : Option Addr) (n c : Nat) (w : World) (hc : n ≤ c) : Calls Tryz.prog 61 #[.slice A n c] w fun e w' => e = .returned (.slice A n n) ∧ w' = w := by
  go_enter Tryz.func61, Tryz.ntmps61
  go_wp2
  go_ret
  exact ⟨rfl, rfl⟩
set_option maxHeartbeats 1600000 in
theorem deleteNone_any {α : Type} (g : Nat) (cb : Array Value) (q : α → Bool) (eg : ∀ args w, (callFunc g args).run Tryz.prog w = .ok (.enter g args) w)
   (A : Option Addr) (c B : Nat) (l : List α) (vs : List Value) (w : World) (hm : l.length ≤ 1000000000) (hB : B ≤ w.heap.size) (hr : Reads w B 5 A l.length vs) (hp : PredC5 g cb q l vs w) (hn : ∀ x ∈ l, q x = false) :
   Calls Tryz.prog 54 #[.slice A l.length c, .func (.func g) #[] cb] w fun e w' => e = .returned (.slice A l.length c) ∧ Below w.heap.size w w' := by
  have HP := hid hp
  have HI := hid (idxI_miss q l fun j hj => hn _ (List.getElem_mem hj))
  clear hp
  go_enter Tryz.func54, Tryz.ntmps54
  go_wp2_with fail
  go_at_call 66
  refine (indexCf_any g cb q eg A c B l vs w hm hB hr HP.out).mono ?_
  rintro _ w2 ⟨rfl, hb⟩
  rw [HI.out]
  go_wp2
  go_ret
  exact ⟨rfl, hb⟩
end Go.Proofs.YtnpcjbdolmmaeaaGreatDoor
