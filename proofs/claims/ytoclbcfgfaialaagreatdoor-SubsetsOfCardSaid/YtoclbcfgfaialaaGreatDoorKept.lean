/-
  ranges.kept at api.Range, for whatever predicate: the walk.
-/
import Derived.Test.YtoclbcfgfaialaaGreatDoorRows
import Derived.Test.YtoclbcfgfaialaaGreatDoorLib
import Derived.Test.YtoclbcfgfaialaaGreatDoorMath
namespace Go.Proofs.YtoclbcfgfaialaaGreatDoor
open Go.RowKit
/-- a range's cells -/
def encR (r : Rg) : List Value := [.int .i32 r.1, .int .i32 r.2]
theorem encR_len (r : Rg) : (encR r).length = 2 := rfl
theorem infoR : (Tryz.prog.info? 66).map (fun i => (i.zero, i.size, i.bytes)) = some (some (.agg #[.int .i32 0, .int .i32 0]), 2, 8) := by kernel_rfl
theorem flatR_get (l : List Rg) (k : Nat) (h : k < l.length) : (flat encR l)[k*2]? = some (.int .i32 l[k].1) ∧ (flat encR l)[k*2+1]? = some (.int .i32 l[k].2) :=
  ⟨by simpa [encR] using flat_get encR 2 encR_len l k h 0 (by omega), by simpa [encR] using flat_get encR 2 encR_len l k h 1 (by omega)⟩
/-- the cells of range k of a readable list -/
theorem readsR {w w' : World} {B : Nat} {A : Option Addr} {l : List Rg} (hr : Reads w B 2 A l.length (flat encR l)) (hb : Below B w w') (k : Nat) (hk : k < l.length) :
    ∃ b off, A = some ⟨b, off, none⟩ ∧ b < B ∧ w'.cell? ⟨b, off + k*2, none⟩ = some (.int .i32 l[k].1) ∧ w'.cell? ⟨b, off + k*2 + 1, none⟩ = some (.int .i32 l[k].2) := by
  obtain ⟨b, off, rfl, hbl, hcell⟩ := hr.2 (by omega)
  have hg := flatR_get l k hk
  refine ⟨b, off, rfl, hbl, ?_, ?_⟩
  · exact (hb.cell (p := ⟨b, off + k*2, none⟩) hbl).trans (hcell _ _ hg.1)
  · have c1 := (hb.cell (p := ⟨b, off + (k*2+1), none⟩) hbl).trans (hcell _ _ hg.2)
    rw [← Nat.add_assoc] at c1
    exact c1
theorem filter_snoc {α : Type} (p : α → Bool) (l : List α) (k : Nat) (h : k < l.length) : (l.take (k+1)).filter p = (l.take k).filter p ++ (if p l[k] then [l[k]] else []) := by
  rw [List.take_succ_eq_append_getElem h, List.filter_append]
  by_cases hp : p l[k] <;> simp [hp]
/-- what is asked of the predicate: at whatever range, in each world in which what lay in w lies unturned, it tells p and turns nothing of it -/
def PredW (g : Nat) (cb : Array Value) (p : Rg → Bool) (w : World) : Prop :=
  ∀ (wr : World) (r : Rg), Below w.heap.size w wr → Calls Tryz.prog g (#[.agg #[.int .i32 r.1, .int .i32 r.2]] ++ cb) wr fun e w' => e = .returned (.bool (p r)) ∧ Below wr.heap.size wr w'
set_option maxRecDepth 100000 in
set_option maxHeartbeats 800000 in
theorem kept_any (g : Nat) (cb : Array Value) (p : Rg → Bool) (eg : ∀ args w, (callFunc g args).run Tryz.prog w = .ok (.enter g args) w)
   (A : Option Addr) (c : Nat) (l : List Rg) (w : World) (hm : l.length ≤ 10000000) (hr : Reads w w.heap.size 2 A l.length (flat encR l)) (hp : PredW g cb p w) :
   Calls Tryz.prog 62 #[.slice A l.length c, .func (.func g) #[] cb] w fun e w' => ∃ v, e = .returned v ∧ w'.ownsRow w.heap.size 66 2 v (l.filter p).length (flat encR (l.filter p)) ∧ Below w.heap.size w w' := by
  obtain ⟨i0, hi, hz0, hz1, hz2⟩ := info_parts infoR
  go_enter Tryz.func62, Tryz.ntmps62
  go_wp2
  go_loopw [5, 10] (fun v i wr => ∃ k : Nat, k ≤ l.length ∧ i = .int .i64 k ∧ wr.ownsRow w.heap.size 66 2 v ((l.take k).filter p).length (flat encR ((l.take k).filter p)) ∧ Below w.heap.size w wr) (fun _ i _ => l.length - (intOf i).toNat)
  case atStart => exact ⟨0, Nat.zero_le _, rfl, by simpa [flat] using World.ownsRow_nil w _ 66 2, Below.refl _ _⟩
  case round =>
    obtain ⟨k, hk, rfl, hown, hb⟩ := hrel
    by_cases hlt : k < l.length
    · obtain ⟨b, off, rfl, hbl, c0, c1⟩ := readsR hr hb k hlt
      have hfs := filter_snoc p l k hlt
      have hfl : ((l.take k).filter p).length ≤ k := Nat.le_trans (List.length_filter_le _ _) (by simp; omega)
      generalize hq : l[k] = q at c0 c1 hfs
      clear hq
      go_wp2_with fail
      refine (hp _ q (hb.alloc hb.size _)).mono ?_
      rintro e w1 ⟨rfl, hb1⟩
      have hbw : Below w.heap.size w w1 := (hb.alloc hb.size _).trans (hb1.mono (by simp; have := hb.size; omega))
      cases hpq : p q with
      | false =>
        have HF := hid hfs
        clear hfs
        go_wp2
        go_roundw
        case rel => exact ⟨k + 1, by omega, by go_num, by rw [HF.out, hpq]; simpa using ownsRow_below (hown.alloc _) hb1 (Nat.le_refl _), hbw⟩
        case measure => simp [intOf]; omega
      | true =>
        have HF := hid hfs
        clear hfs
        obtain ⟨cc, cf⟩ := bcell hb1
        have d0 : w1.cell? ⟨wr.heap.size, 0, none⟩ = some (.int .i32 q.1) := by rw [cc _ _ (by simp)]; simp
        have d1 : w1.cell? ⟨wr.heap.size, 1, none⟩ = some (.int .i32 q.2) := by rw [cc _ _ (by simp)]; simp
        have hown1 := ownsRow_below (hown.alloc (.cells #[.int .i32 q.1, .int .i32 q.2] 66)) hb1 (Nat.le_refl _)
        clear cc cf
        go_wp2_with (at_builtin; refine wpList_push _ rfl _ _ 28 rfl w.heap.size 66 i0 _ 2 8 Tryz.underlying28 hi hz0 hz1 hz2 rfl (by omega) _ _ _ rfl hown1 [.int .i32 q.1, .int .i32 q.2] 1 _ rfl (by simp) rfl (by simp [Value.oneCell']) (by simp only [maxLen]; omega) (by omega) hbw.size ?_; intro v' w' hown' hsz' hB')
        go_roundw
        case rel => exact ⟨k + 1, by omega, by go_num, by rw [HF.out, hpq]; simpa [flat_snoc, encR] using hown', hB' _ hbw⟩
        case measure => simp [intOf]; omega
    · go_wp2
      go_ret
      have : k = l.length := by omega
      subst this
      simp only [List.take_length] at hown
      exact ⟨_, rfl, hown, hb⟩
end Go.Proofs.YtoclbcfgfaialaaGreatDoor
