/-
  The document's answer for ranges: Class, Has, Changes: the walks.
-/
import Derived.Test.YtoclbcfgfaialaaGreatDoorLL
import Derived.Test.YtoclbcfgfaialaaGreatDoorMath
namespace Go.Proofs.YtoclbcfgfaialaaGreatDoor
open Go.RowKit
set_option maxRecDepth 100000
set_option maxHeartbeats 800000 in
theorem refClass_any (A : Option Addr) (c : Nat) (l : List Rg) (x : Int) (w : World) (hm : l.length ≤ 10000000) (hr : Reads w w.heap.size 2 A l.length (flat encR l)) :
    Calls Tryz.prog 72 #[.slice A l.length c, .int .i32 x] w fun e w' => e = .returned (.int .i64 (idxI (inB x) l)) ∧ w = w' := by
  go_enter Tryz.func72, Tryz.ntmps72
  go_wp2
  go_loop [5] (fun i => ∃ k : Nat, k ≤ l.length ∧ i = .int .i64 k ∧ Hid (∀ j (hj : j < l.length), j < k → inB x l[j] = false)) (fun i => l.length - (intOf i).toNat)
  case atStart => exact ⟨0, Nat.zero_le _, rfl, fun j _ hj => absurd hj (by omega)⟩
  case round =>
    obtain ⟨k, hk, rfl, HN⟩ := hrel
    by_cases hlt : k < l.length
    · obtain ⟨b, off, rfl, hbl, c0, c1⟩ := readsR hr (Below.refl _ _) k hlt
      have HF : Hid (inB x l[k] = true → idxI (inB x) l = k) := fun h => idxI_hit (inB x) l k hlt h (fun j hj => HN.out j (by omega) hj)
      have HS : Hid (inB x l[k] = false → ∀ j (hj : j < l.length), j < k + 1 → inB x l[j] = false) := fun h j hj hjk => by
        by_cases e : j = k
        · subst e; exact h
        · exact HN.out j hj (by omega)
      clear HN
      generalize l[k] = q at c0 c1 HF HS
      by_cases h1 : q.1 ≤ x
      · by_cases h2 : x ≤ q.2
        · have HF2 := hid (HF.out (by simp [inB, h1, h2]))
          clear HF HS
          go_wp2
          go_ret
          exact ⟨ret_int HF2.out.symm, rfl⟩
        · have HS2 := hid (HS.out (by simp [inB, h2]))
          clear HF HS
          go_wp2
          go_round
          case rel => exact ⟨k + 1, by omega, by go_num, HS2⟩
          case measure => simp [intOf]; omega
      · have HS2 := hid (HS.out (by simp [inB, h1]))
        clear HF HS
        go_wp2
        go_round
        case rel => exact ⟨k + 1, by omega, by go_num, HS2⟩
        case measure => simp [intOf]; omega
    · have HM := hid (idxI_miss (inB x) l fun j hj => HN.out j hj (by omega))
      go_wp2
      go_ret
      exact ⟨ret_int HM.out.symm, rfl⟩
set_option maxHeartbeats 400000 in
theorem refHas_any (A : Option Addr) (c : Nat) (l : List Rg) (x : Int) (w : World) (hm : l.length ≤ 10000000) (hr : Reads w w.heap.size 2 A l.length (flat encR l)) :
    Calls Tryz.prog 52 #[.slice A l.length c, .int .i32 x] w fun e w' => e = .returned (.bool (hasB l x)) ∧ w = w' := by
  unfold hasB
  go_enter Tryz.func52, Tryz.ntmps52
  go_wp2_with fail
  refine (refClass_any A c l x _ hm hr).mono ?_
  rintro e w1 ⟨rfl, rfl⟩
  go_wp2_with fail
  go_ret
  exact ⟨rfl, rfl⟩
def nxO (a : Int) (lls : List (List Rg)) (k : Nat) : Int := nextOf a (ptsOf (lls.take k).flatten)
def nxAt (a : Int) (pre : List Int) (l : List Rg) (k : Nat) : Int := nextOf a (pre ++ ptsOf (l.take k))
theorem nxAt_step (a : Int) (pre : List Int) (l : List Rg) (k : Nat) (h : k < l.length) : nxAt a pre l (k+1) = stepN a (stepN a (nxAt a pre l k) l[k].1) (l[k].2 + 1) := nextOf_snoc2 a l k h pre
/-- what Changes answers -/
def ChgPost (w : World) (pts : List Int) (e : Ending) (w' : World) : Prop :=
  ∃ v z, e = .returned v ∧ Gap pts z ∧ z.getLast? = some top32 ∧ z.length ≤ pts.length + 2 ∧ w'.ownsRow w.heap.size 2 1 v z.length (z.map (Value.int .i64)) ∧ Below w.heap.size w w'
set_option maxHeartbeats 4000000 in
theorem changes_any (A : Option Addr) (c : Nat) (lls : List (List Rg)) (pts : List Int) (w : World) (hl : lls.length ≤ 1000) (hp : Hid (ptsOf lls.flatten = pts)) (hm : lls.flatten.length ≤ 100000) (hwf : WfL lls.flatten) (h : LL w A lls) :
    Calls Tryz.prog 51 #[.slice A lls.length c] w (ChgPost w pts) := by
  obtain ⟨i1, gi, gz0, gz1, gz2⟩ := info_parts info64
  have hpl : pts.length ≤ 200000 := by rw [← hp.out, ptsOf_len]; omega
  go_enter Tryz.func51, Tryz.ntmps51
  go_wp2
  go_loopw [3, 4] (fun v t wr => ∃ (l : List Int) (a : Int), t = .int .i64 a ∧ ChgI pts l a ∧ wr.ownsRow w.heap.size 2 1 v l.length (l.map (Value.int .i64)) ∧ Below w.heap.size w wr) (fun _ t _ => (2147483648 - intOf t).toNat)
  case atStart => exact ⟨[], -2147483648, rfl, ChgI.init pts, World.ownsRow_nil w _ 2 1, Below.refl _ _⟩
  case round =>
    obtain ⟨l, a, rfl, hI, hown, hb⟩ := hrel
    have hlo := hI.lo
    have hlen := hI.len
    unfold low32 top32 at hlo
    obtain ⟨hlo1, hlo2⟩ := hlo
    by_cases hlt : a < 2147483648
    · have hst := hI.step hlt
      have hnx := nextOf_law a pts hlt
      have HI := hid hst
      clear hst
      go_wp2_with fail
      go_loop [5, 6] (fun n i => ∃ k : Nat, k ≤ lls.length ∧ i = .int .i64 k ∧ n = .int .i64 (nxO a lls k)) (fun _ i => lls.length - (intOf i).toNat)
      case atStart => exact ⟨0, Nat.zero_le _, rfl, rfl⟩
      case round =>
        obtain ⟨k, hk, rfl, rfl⟩ := hrel
        by_cases hlk : k < lls.length
        · obtain ⟨b, off, Ai, ci, rfl, hbl, hc, hri⟩ := h.at k hlk
          have hc' := (hb.cell (p := ⟨b, off + k, none⟩) hbl).trans hc
          have hri' := hri.next hb
          have hqwf : WfL lls[k] := fun r hr => hwf r (List.mem_flatten.2 ⟨_, List.getElem_mem hlk, hr⟩)
          have hql : lls[k].length ≤ lls.flatten.length := by
            have := flatten_take_len lls k hlk
            have := flatten_take_le lls (k+1)
            omega
          have HE : Hid (nxAt a (ptsOf (lls.take k).flatten) lls[k] lls[k].length = nxO a lls (k+1)) := by
            unfold nxAt nxO
            rw [List.take_length, flatten_take lls k hlk, ptsOf_append]
            exact hid rfl
          have HS : Hid (nxAt a (ptsOf (lls.take k).flatten) lls[k] 0 = nxO a lls k) := by
            unfold nxAt nxO
            rw [show ptsOf (lls[k].take 0) = [] from rfl, List.append_nil]
            exact hid rfl
          generalize hq : lls[k] = q at hc' hri' hql hqwf HE HS
          generalize hpre : ptsOf (lls.take k).flatten = pre at HE HS
          clear hq hri hc hpre
          go_wp2_with fail
          go_loop [5, 7] (fun n i => ∃ j : Nat, j ≤ q.length ∧ i = .int .i64 j ∧ n = .int .i64 (nxAt a pre q j)) (fun _ i => q.length - (intOf i).toNat)
          case atStart => exact ⟨0, Nat.zero_le _, rfl, by rw [HS.out]⟩
          case round =>
            obtain ⟨j, hj, rfl, rfl⟩ := hrel
            by_cases hlj : j < q.length
            · obtain ⟨b2, off2, rfl, hbl2, d0, d1⟩ := readsR hri' (Below.refl _ _) j hlj
              have hz := hqwf _ (List.getElem_mem hlj)
              have HN := hid (nxAt_step a pre q j hlj)
              generalize q[j] = z at d0 d1 hz HN
              generalize nxAt a pre q j = N at HN
              obtain ⟨⟨z1, z2⟩, ⟨z3, z4⟩⟩ := hz
              clear hnx
              by_cases h1 : a < z.1 <;> by_cases h2 : z.1 < N <;> by_cases h3 : a < z.2 + 1
              all_goals
                go_wp2
                all_goals
                  go_round
                  case rel => exact ⟨j + 1, by omega, by go_num, by rw [HN.out]; unfold stepN; congr 1; split <;> split <;> omega⟩
                  case measure => simp [intOf]; omega
            · have hjl : j = q.length := by omega
              subst hjl
              rw [HE.out]
              go_wp2
              go_round
              case rel => exact ⟨k + 1, by omega, by go_num, rfl⟩
              case measure => simp [intOf]; omega
        · have hkl : k = lls.length := by omega
          subst hkl
          have he : nxO a lls lls.length = nextOf a pts := by unfold nxO; rw [List.take_length, hp.out]
          rw [he]
          generalize nextOf a pts = n at hnx HI
          obtain ⟨hn1, hn2, _⟩ := hnx
          unfold top32 at hn2
          clear he
          go_wp2_with (at_builtin; go_must (refine wpList_push _ rfl _ _ 94 rfl w.heap.size 2 i1 _ 1 8 Tryz.underlying94 gi gz0 gz1 gz2 rfl (by omega) _ _ _ rfl hown [.int .i64 a] 1 _ rfl (by simp) rfl (by simp [Value.oneCell']) (by simp only [maxLen]; omega) (by omega) hb.size ?_); intro v' w' hown' hsz' hB')
          go_roundw
          case rel => exact ⟨l ++ [a], n, rfl, HI.out, by simpa using hown', hB' _ hb⟩
          case measure => simp [intOf]; omega
    · obtain rfl : a = 2147483648 := by omega
      have HI := hid hI
      clear hI
      go_wp2_with (at_builtin; go_must (refine wpList_push _ rfl _ _ 94 rfl w.heap.size 2 i1 _ 1 8 Tryz.underlying94 gi gz0 gz1 gz2 rfl (by omega) _ _ _ rfl hown [.int .i64 2147483648] 1 _ rfl (by simp) rfl (by simp [Value.oneCell']) (by simp only [maxLen]; omega) (by omega) hb.size ?_); intro v' w' hown' hsz' hB')
      go_ret
      exact ⟨_, l ++ [2147483648], rfl, HI.out.gap, by simp [top32], by simp; omega, by simpa using hown', hB' _ hb⟩
end Go.Proofs.YtoclbcfgfaialaaGreatDoor
