/-
  The alternatives of a list of configurations (configs.alts): the walk.
-/
import Derived.Test.YtnpcjbdolmmaeaaGreatDoorCfMt
import Derived.Test.YtnpcjbdolmmaeaaGreatDoorCfNx
import Derived.Test.YtnpcjbdolmmaeaaGreatDoorCfSk
namespace Go.Proofs.YtnpcjbdolmmaeaaGreatDoor
open Go.RowKit Go.Maps
set_option maxRecDepth 100000
theorem clipZ_any (A : Option Addr) (n c : Nat) (w : World) (hc : n ≤ c) : Calls Tryz.prog 57 #[.slice A n c] w fun e w' => e = .returned (.slice A n n) ∧ w' = w := by
  go_enter Tryz.func57, Tryz.ntmps57
  go_wp2
  go_ret
  exact ⟨rfl, rfl⟩
/-- a list of configurations that can be read -/
def CfR (w : World) (S : Nat → Prop) (A : Option Addr) (l : List Cf.Cfg) : Prop := ∃ vs, RO w S 5 A l.length vs ∧ CfsV w S l vs
theorem CfR.only {w w' : World} {S S' : Nat → Prop} {A : Option Addr} {l : List Cf.Cfg} (h : CfR w S A l) (ho : Only S w w') (hS : ∀ b, b < w.heap.size → S' b → S b) : CfR w' S' A l := by
  obtain ⟨vs, h1, h2⟩ := h
  exact ⟨vs, h1.only ho hS, h2.only ho hS⟩
theorem CfR.below {w w' : World} {A : Option Addr} {l : List Cf.Cfg} (h : CfR w (fun _ => False) A l) (hb : Below w.heap.size w w') : CfR w' (fun _ => False) A l := h.only (Only.of_below hb) (fun _ _ e => e)
theorem CfR.at {w : World} {S : Nat → Prop} {A : Option Addr} {l : List Cf.Cfg} (h : CfR w S A l) (i : Nat) (hi : i < l.length) : ∃ b off B c, A = some ⟨b, off, none⟩ ∧ b < w.heap.size ∧ ¬ S b ∧ l[i].stack.length ≤ c ∧ RO w S 1 B l[i].stack.length (l[i].stack.map (Value.int .i64)) ∧
    w.cell? ⟨b, off + i * 5, none⟩ = some (.int .i64 l[i].alt) ∧ w.cell? ⟨b, off + i * 5 + 1, none⟩ = some (.int .i64 l[i].state) ∧ w.cell? ⟨b, off + i * 5 + 2, none⟩ = some (.slice B l[i].stack.length c) ∧ w.cell? ⟨b, off + i * 5 + 3, none⟩ = some (.bool l[i].exact) ∧ w.cell? ⟨b, off + i * 5 + 4, none⟩ = some (.bool l[i].ended) := by
  obtain ⟨vs, h1, h2⟩ := h
  obtain ⟨b, off, hA, hb, hn, hc⟩ := h1.2 (by omega)
  obtain ⟨B, c, hcc, r, hk⟩ := h2.at i hi
  refine ⟨b, off, B, c, hA, hb, hn, hcc, r, hc _ _ (by rw [show i * 5 = i * 5 + 0 from rfl, hk 0 (by omega)]; rfl), ?_, ?_, ?_, ?_⟩
  · have := hc _ _ (hk 1 (by omega)); rwa [← Nat.add_assoc] at this
  · have := hc _ _ (hk 2 (by omega)); rwa [← Nat.add_assoc] at this
  · have := hc _ _ (hk 3 (by omega)); rwa [← Nat.add_assoc] at this
  · have := hc _ _ (hk 4 (by omega)); rwa [← Nat.add_assoc] at this
def altsOf (l : List Cf.Cfg) : List Int := placesOf (l.map fun x => x.alt)
theorem altsOf_alts (l : List Cf.Cfg) : Cf.Alts l (altsOf l) := by
  obtain ⟨h1, h2⟩ := placesOf_law (l.map fun x => x.alt)
  exact ⟨h1, fun a => by unfold altsOf; rw [h2]; simp⟩
def AlP (l : List Cf.Cfg) (w : World) (e : Ending) (w' : World) : Prop := ∃ A, e = .returned (.slice A (altsOf l).length (altsOf l).length) ∧ OwnC w' w.heap.size 3 1 (.slice A (altsOf l).length (altsOf l).length) (altsOf l).length ((altsOf l).map (Value.int .i64)) ∧ Below w.heap.size w w'
set_option maxHeartbeats 4000000 in
theorem alts_any (l : List Cf.Cfg) (S : Nat → Prop) (A : Option Addr) (c : Nat) (w : World) (hr : CfR w S A l) (hl : l.length ≤ 100000000) :
    Calls Tryz.prog 53 #[.slice A l.length c] w (AlP l w) := by
  obtain ⟨i0, hi, hz0, hz1, hz2⟩ := info_of infoZ
  have HR := hid hr
  clear hr
  go_enter Tryz.func53, Tryz.ntmps53
  go_wp2
  go_loopw [3, 5, 8] (fun v _ i wr => ∃ j : Nat, j ≤ l.length ∧ i = .int .i64 (j : Int) ∧ wr.ownsRow w.heap.size 3 1 v j (((l.take j).map fun x => x.alt).map (Value.int .i64)) ∧ Below w.heap.size w wr) (fun _ _ i _ => l.length - (intOf i).toNat)
  case atStart => exact ⟨0, Nat.zero_le _, rfl, World.ownsRow_nil w _ 3 1, Below.refl _ _⟩
  case round =>
    obtain ⟨j, hj, rfl, hown, hb⟩ := hrel
    by_cases hlt : j < l.length
    · obtain ⟨b, off, B, cb, hA, hbl, _, _, _, r0, r1, r2, r3, r4⟩ := HR.out.at j hlt
      have hsn : (((l.take (j + 1)).map fun x => x.alt).map (Value.int .i64)) = (((l.take j).map fun x => x.alt).map (Value.int .i64)) ++ [.int .i64 l[j].alt] := by
        rw [List.take_succ_eq_append_getElem hlt, List.map_append, List.map_append]; rfl
      have HSN := hid hsn
      clear hsn
      generalize l[j].alt = x0 at r0 HSN
      generalize l[j].state = x1 at r1
      generalize l[j].stack.length = x2 at r2
      generalize l[j].exact = x3 at r3
      generalize l[j].ended = x4 at r4
      have r0 := (hb.cell (p := ⟨b, off + j * 5, none⟩) hbl).trans r0
      have r1 := (hb.cell (p := ⟨b, off + j * 5 + 1, none⟩) hbl).trans r1
      have r2 := (hb.cell (p := ⟨b, off + j * 5 + 2, none⟩) hbl).trans r2
      have r3 := (hb.cell (p := ⟨b, off + j * 5 + 3, none⟩) hbl).trans r3
      have r4 := (hb.cell (p := ⟨b, off + j * 5 + 4, none⟩) hbl).trans r4
      rw [hA]
      have HA := hid hA
      clear hA
      go_wp2_with (at_builtin; refine wpList_push _ rfl _ _ 23 rfl w.heap.size 3 i0 _ 1 8 Tryz.underlying23 hi hz0 hz1 hz2 rfl (by omega) _ _ _ rfl (hown.alloc _) [.int .i64 x0] 1 _ rfl (by simp) rfl (by simp [Value.oneCell']) (by simp only [maxLen]; omega) (by omega) (hb.alloc hb.size _).size ?_; intro v' w' hown' hsz' hB')
      go_roundw
      case rel => exact ⟨j + 1, hlt, by go_num, by rw [HSN.out]; exact hown', hB' _ (hb.alloc hb.size _)⟩
      case measure => simp [intOf]; omega
    · have hje : j = l.length := by omega
      subst hje
      rw [List.take_length] at hown
      have hlm : (l.map fun x => x.alt).length = l.length := List.length_map _
      generalize hzs : (l.map fun x => x.alt) = zs at hown hlm
      rw [← hlm] at hown
      have HZS := hid hzs
      have HLM := hid hlm
      have hmm : zs.length ≤ 100000000 := by omega
      clear hzs hlm
      go_wp2_with fail
      go_at_call 81
      refine (sortN_any w.heap.size _ zs wr hmm hown).mono ?_
      rintro _ w2 ⟨rfl, hown2, hb2⟩
      have hb2 := hb2 w hb.size hb
      have hml : (zs.mergeSort fun x y => decide (x ≤ y)).length = zs.length := List.length_mergeSort _
      have HP := hid (show placesOf zs = Lib.compact (zs.mergeSort fun x y => decide (x ≤ y)) from rfl)
      generalize (zs.mergeSort fun x y => decide (x ≤ y)) = ss at hown2 hml HP
      rw [← hml] at hown2
      have HML := hid hml
      have hms : ss.length ≤ 100000000 := by omega
      clear hml
      go_wp2_with fail
      go_at_call 82
      refine (compactN_any w.heap.size _ ss w2 hms hown2).mono ?_
      rintro _ w3 ⟨v', rfl, hown3, hb3⟩
      have hb3 := hb3 w hb2.size hb2
      obtain ⟨A3, c3, rfl, _, hc3⟩ := Reads.own hown3
      go_wp2_with fail
      go_at_call 57
      refine (clipZ_any A3 _ c3 w3 hc3).mono ?_
      rintro _ w4 ⟨rfl, rfl⟩
      go_wp2
      go_ret
      have hal : altsOf l = Lib.compact ss := by unfold altsOf; rw [HZS.out]; exact HP.out
      unfold AlP
      rw [hal]
      exact ⟨A3, rfl, (OwnC.of hown3).clip, hb3⟩
end Go.Proofs.YtnpcjbdolmmaeaaGreatDoor
