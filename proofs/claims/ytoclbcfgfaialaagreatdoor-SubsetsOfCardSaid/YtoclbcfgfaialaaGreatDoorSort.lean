/-
  slices.SortFunc by Low, at a list of ranges that the call owns: by the shelf's contract.
-/
import Derived.Test.YtoclbcfgfaialaaGreatDoorClass
import Derived.Test.YtoclbcfgfaialaaGreatDoorShelf
namespace Go.Proofs.YtoclbcfgfaialaaGreatDoor
open Go.RowKit Go.Sort
set_option maxRecDepth 100000
def cmpI (a b : Int) : Int := if a < b then -1 else if b < a then 1 else 0
set_option maxHeartbeats 400000 in
theorem isnan_any (a : Int) (w : World) : Calls Tryz.prog 87 #[.int .i32 a] w fun e w' => e = .returned (.bool false) ∧ w' = w := by
  go_enter Tryz.func87, Tryz.ntmps87
  go_wp2
  go_ret
  exact ⟨ret_bool (by simp), rfl⟩
set_option maxHeartbeats 400000 in
theorem compare_any (a b : Int) (w : World) : Calls Tryz.prog 77 #[.int .i32 a, .int .i32 b] w fun e w' => e = .returned (.int .i64 (cmpI a b)) ∧ w' = w := by
  by_cases h1 : a < b
  · have hf : cmpI a b = -1 := by simp [cmpI, h1]
    rw [hf]
    clear hf
    go_enter Tryz.func77, Tryz.ntmps77
    go_wp2_with (go_at_call 87; refine (isnan_any _ _).mono ?_; rintro e w' ⟨rfl, rfl⟩)
    go_ret
    exact ⟨rfl, rfl⟩
  · by_cases h2 : b < a
    · have hf : cmpI a b = 1 := by simp [cmpI, h1, h2]
      rw [hf]
      clear hf
      go_enter Tryz.func77, Tryz.ntmps77
      go_wp2_with (go_at_call 87; refine (isnan_any _ _).mono ?_; rintro e w' ⟨rfl, rfl⟩)
      go_ret
      exact ⟨rfl, rfl⟩
    · have hf : cmpI a b = 0 := by simp [cmpI, h1, h2]
      rw [hf]
      clear hf
      go_enter Tryz.func77, Tryz.ntmps77
      go_wp2_with (go_at_call 87; refine (isnan_any _ _).mono ?_; rintro e w' ⟨rfl, rfl⟩)
      go_ret
      exact ⟨rfl, rfl⟩
set_option maxHeartbeats 400000 in
theorem neat1_any (x y : Rg) (w : World) : Calls Tryz.prog 76 #[.agg #[.int .i32 x.1, .int .i32 x.2], .agg #[.int .i32 y.1, .int .i32 y.2]] w fun e w' => e = .returned (.int .i64 (cmpI x.1 y.1)) ∧ ∃ q os', w' = grow (w.drewN q) os' := by
  go_enter Tryz.func76, Tryz.ntmps76
  go_wp2_with (go_at_call 77; refine (compare_any _ _ _).mono ?_; rintro e w' ⟨rfl, rfl⟩)
  go_ret
  exact ⟨rfl, 0, #[.cells #[.int .i32 x.1, .int .i32 x.2] 66, .cells #[.int .i32 y.1, .int .i32 y.2] 66], by rw [alloc_eq_grow, alloc_eq_grow, grow_grow]; rfl⟩
theorem neat1_enters : ∀ args w, (callFunc 76 args).run Tryz.prog w = .ok (.enter 76 args) w := fun _ _ => by kernel_rfl
theorem aER : ∀ w, (isAgg 66).run Tryz.prog w = .ok true w := fun _ => by kernel_rfl
theorem zER : ∀ w, (Go.sizeOf 66).run Tryz.prog w = .ok 2 w := fun _ => by kernel_rfl
theorem flatK_flat (l : List Rg) : (flatK encR 2 l.toArray).toList = flat encR l := by
  apply List.ext_getElem?
  intro t
  by_cases h : t < l.length * 2
  · have h1 := flat_get encR 2 encR_len l (t / 2) (by omega) (t % 2) (by omega)
    rw [show t / 2 * 2 + t % 2 = t by omega] at h1
    rw [h1]
    have h2 := get_flatK encR 2 l.toArray t (by simpa using h)
    have h3 : (flatK encR 2 l.toArray).toList[t]? = some ((flatK encR 2 l.toArray)[t]!) := by
      rw [Array.getElem?_toList, getElem!_pos _ t (by simpa using h)]
      simp [h]
    rw [h3, h2]
    have h4 : l.toArray[t / 2]! = l[t / 2]'(by omega) := by rw [getElem!_pos _ _ (by simp; omega)]; simp
    rw [h4]
    have : t % 2 = 0 ∨ t % 2 = 1 := by omega
    rcases this with e | e <;> rw [e] <;> rfl
  · rw [List.getElem?_eq_none (by simp; omega), List.getElem?_eq_none (by rw [flat_length encR 2 encR_len]; omega)]
theorem swoLo : SWO (ltOf fun x y : Rg => cmpI x.1 y.1) where
  irrefl x := by simp [ltOf, cmpI]
  trans x y z := by unfold ltOf cmpI; intro h1 h2; simp at h1 h2 ⊢; split at h1 <;> split at h2 <;> (try split at h1) <;> (try split at h2) <;> simp at h1 h2; all_goals (split <;> omega)
  ntrans x y z := by unfold ltOf cmpI; intro h1 h2; simp at h1 h2 ⊢; split at h1 <;> split at h2 <;> (try split at h1) <;> (try split at h2) <;> simp at h1 h2; all_goals (split <;> (try split) <;> omega)
theorem sortR_any (base : Nat) (v : Value) (l : List Rg) (w : World) (hm : l.length ≤ 10000000) (hown : w.ownsRow base 66 2 v l.length (flat encR l)) :
    Calls Tryz.prog 75 #[v, .func (.func 76) #[] #[]] w fun e w' => e = .returned (.tuple #[]) ∧
      ∃ l' : List Rg, l'.Perm l ∧ Rising l' ∧ w'.ownsRow base 66 2 v l'.length (flat encR l') ∧ w.heap.size ≤ w'.heap.size ∧ (∀ W, base ≤ w.heap.size → Below base W w → Below base W w') := by
  by_cases h0 : l.length = 0
  · have hl : l = [] := List.eq_nil_of_length_eq_zero h0
    subst hl
    obtain ⟨A, c, rfl, _, _⟩ := Reads.own hown
    exact (Tryz.slices_SortFunc_none (α := Rg) A c _ w).mono fun e w' ⟨he, hw⟩ => ⟨he, [], List.Perm.refl _, List.Pairwise.nil, by rw [hw]; exact hown, by rw [hw]; exact Nat.le_refl _, fun W _ hW => by rw [hw]; exact hW⟩
  · obtain ⟨hlen, h2⟩ := hown
    rcases h2 with ⟨_, h⟩ | ⟨g, cap, cur, rfl, hg, hh, hnc, hcm, hcs, htk⟩
    · exact absurd h h0
    · have hlt : g < w.heap.size := by
        rcases Nat.lt_or_ge g w.heap.size with h | h
        · exact h
        · rw [Array.getElem?_eq_none h] at hh; cases hh
      have hH : HoldsK encR 2 w g 0 l.toArray := by
        intro j hj
        rw [size_flatK] at hj
        have hj' : j < l.length * 2 := by simpa using hj
        refine ⟨?_, by simp [World.frozen?, hh]⟩
        have e1 : (flatK encR 2 l.toArray)[j]! = (flatK encR 2 l.toArray)[j]'(by simpa using hj') := getElem!_pos _ j _
        have e2 : (flat encR l)[j]? = some ((flatK encR 2 l.toArray)[j]'(by simpa using hj')) := by
          rw [← flatK_flat, Array.getElem?_toList]; simp [hj']
        rw [← htk, List.getElem?_take, if_pos hj'] at e2
        simp only [World.cell?, hh]
        simpa [e1] using e2
      have hcmp : CmpLays Tryz.prog 76 #[] encR 2 (fun x y : Rg => cmpI x.1 y.1) g 0 l.toArray.size w := fun m os dk _ x y => neat1_any x y _
      refine (Tryz.slices_SortFunc 2 aER zER encR encR_len (fun x v hv => by simp [encR] at hv; rcases hv with rfl | rfl <;> rfl) (fun x y : Rg => cmpI x.1 y.1) swoLo 76 #[] g 0 cap l.toArray w neat1_enters hcmp hH hlt (by simp; omega)).mono ?_
      rintro e w' ⟨he, d', n, os, ⟨hp1, _, hp3⟩, hs, hw⟩
      have hd : d'.size = l.length := by simpa using hp1
      have hperm : d'.toList.Perm l := by
        have := hp3
        rw [show l.toArray.size = d'.size by simpa using hp1.symm, Array.extract_size] at this
        rw [show d'.size = l.toArray.size by simpa using hp1, Array.extract_size] at this
        simpa using this
      have hb : ∀ k, k ≠ g → k < w.heap.size → w'.heap[k]? = w.heap[k]? := by
        intro k hk hks
        rw [hw]
        unfold sortWorldK
        rw [heap_grow_old _ _ (by simpa [putRowK] using hks)]
        simp only [putRowK, putRow, mapBlock, Array.getElem?_modify]
        rw [if_neg (by omega)]
        rfl
      refine ⟨he, d'.toList, hperm, ?_, ?_, by rw [hw]; simp [sortWorldK, putRowK], ?_⟩
      · rw [Rising, List.pairwise_iff_getElem]
        intro i j hi hj hij
        have := hs i j (Nat.zero_le _) hij (by simpa [hd] using hj)
        rw [getElem!_pos d' j (by simpa using hj), getElem!_pos d' i (by simpa using hi)] at this
        show (d'.toList[i]).1 ≤ (d'.toList[j]).1
        rw [Array.getElem_toList, Array.getElem_toList]
        have h7 : ¬ (cmpI (d'[j]'(by simpa using hj)).1 (d'[i]'(by simpa using hi)).1 < 0) := of_decide_eq_false this
        unfold cmpI at h7
        split at h7
        · exact absurd (by omega) h7
        · omega
      · refine ⟨by rw [flat_length encR 2 encR_len], .inr ⟨g, cap, putCells id 0 (flatK encR 2 d') cur, by simp [hd], hg, ?_, by simp [hd]; omega, hcm, by simp [putCells, hcs], ?_⟩⟩
        · rw [hw]
          unfold sortWorldK
          rw [heap_grow_old _ _ (by simpa [putRowK] using hlt)]
          simp only [putRowK, putRow, mapBlock, Array.getElem?_modify]
          rw [if_pos trivial]
          show Option.map _ (w.heap[g]?) = _
          rw [hh]
          rfl
        · rw [← flatK_flat]
          have hsz : (flatK encR 2 d').size ≤ cur.size := by
            rw [size_flatK, hcs, hd]; exact Nat.mul_le_mul_right _ hnc
          apply List.ext_getElem?
          intro t
          rw [List.getElem?_take]
          by_cases ht : t < d'.toList.length * 2
          · rw [if_pos ht]
            have ht' : t < (flatK encR 2 d').size := by simpa using ht
            have htc : t < cur.size := by omega
            rw [Array.getElem?_toList, Array.getElem?_toList, Array.getElem?_eq_getElem ht', putCells, Array.getElem?_mapIdx, Array.getElem?_eq_getElem htc]
            simp only [Option.map_some]
            rw [if_pos (by omega), getElem!_pos _ _ (by simpa using ht')]
            simp
          · rw [if_neg ht, List.getElem?_eq_none (by simp at ht ⊢; omega)]
      · intro W hbase hW
        refine ⟨?_, ?_, ?_, ?_, ?_⟩
        · rw [hw]; exact hW.os
        · rw [hw]; exact hW.tape
        · rw [hw]; exact hW.output
        · have : w.heap.size ≤ w'.heap.size := by rw [hw]; simp [sortWorldK, putRowK]
          exact Nat.le_trans hW.size this
        · intro k hk
          rw [hb k (by omega) (by omega)]
          exact hW.block k hk
end Go.Proofs.YtoclbcfgfaialaaGreatDoor
