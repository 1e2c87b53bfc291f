/-
  slices.Index and slices.Contains at texts; a word that is kept (grams.kept).
-/
import Derived.Test.YtpbnfinmjnpkpaaGreatDoorGrPlain
namespace Go.Proofs.YtpbnfinmjnpkpaaGreatDoor
open Go.RowKit
set_option maxRecDepth 100000
theorem ret_int {a b : Int} (h : a = b) : Ending.returned (.int .i64 a) = Ending.returned (.int .i64 b) := by rw [h]
def keptL : List (List UInt8) := [[103, 114, 97, 109, 109, 97, 114], [111, 112, 116, 105, 111, 110, 115], [102, 114, 97, 103, 109, 101, 110, 116], [115, 107, 105, 112]]
theorem keptL_eq : Gr.keptWords = keptL := by decide +kernel
theorem any_turn (s : List UInt8) : (fun k => s == k) = (fun k => k == s) := by
  funext k
  exact Bool.eq_iff_iff.2 ⟨fun h => beq_iff_eq.2 (beq_iff_eq.1 h).symm, fun h => beq_iff_eq.2 (beq_iff_eq.1 h).symm⟩
theorem kept_eq (s : List UInt8) : keptL.any (s == ·) = Gr.kept s := by
  unfold Gr.kept
  rw [keptL_eq, any_turn]
theorem readsS {w w1 : World} {A : Option Addr} {l : List (List UInt8)} (hr : Reads w w.heap.size 1 A l.length (l.map Gr.strV)) (hb : Below w.heap.size w w1) (k : Nat) (hk : k < l.length) :
    ∃ b o, A = some ⟨b, o, none⟩ ∧ b < w.heap.size ∧ w1.cell? ⟨b, o + k, none⟩ = some (.string ⟨l[k].toArray⟩) := by
  obtain ⟨b, o, e, hlt, hc⟩ := hr.2 (by omega)
  exact ⟨b, o, e, hlt, (hb.cell (p := ⟨b, o + k, none⟩) hlt).trans (hc k _ (by rw [List.getElem?_map, List.getElem?_eq_getElem hk]; rfl))⟩
def firstS (x : List UInt8) (l : List (List UInt8)) : Int := match l.findIdx? (x == ·) with
  | some i => (i : Int)
  | none => -1
theorem firstS_hit (x : List UInt8) (l : List (List UInt8)) (k : Nat) (hk : k < l.length) (h : x = l[k]) (hn : ∀ j (hj : j < l.length), j < k → (x == l[j]) = false) : firstS x l = k := by
  unfold firstS
  rw [List.findIdx?_eq_some_iff_getElem.2 ⟨hk, by simpa using h, fun j hj => by rw [hn j (by omega) hj]; simp⟩]
theorem firstS_miss (x : List UInt8) (l : List (List UInt8)) (hn : ∀ j (hj : j < l.length), (x == l[j]) = false) : firstS x l = -1 := by
  unfold firstS
  rw [List.findIdx?_eq_none_iff.2 (fun y hy => by
    obtain ⟨j, hj, rfl⟩ := List.mem_iff_getElem.1 hy
    exact hn j hj)]
theorem firstS_any (x : List UInt8) (l : List (List UInt8)) : decide (0 ≤ firstS x l) = l.any (x == ·) := by
  unfold firstS
  cases h : l.findIdx? (x == ·) with
  | none =>
    have := List.findIdx?_eq_none_iff.1 h
    have : l.any (x == ·) = false := by simpa using this
    rw [this]; decide
  | some i =>
    obtain ⟨h1, h2, _⟩ := List.findIdx?_eq_some_iff_getElem.1 h
    have : l.any (x == ·) = true := List.any_eq_true.2 ⟨_, List.getElem_mem h1, h2⟩
    rw [this]; simp
set_option maxHeartbeats 800000 in
theorem idxS_any (A : Option Addr) (c : Nat) (l : List (List UInt8)) (x : List UInt8) (w : World) (hm : l.length ≤ 1000000000000) (hr : Reads w w.heap.size 1 A l.length (l.map Gr.strV)) :
    Calls Tryz.prog 172 #[.slice A l.length c, .string ⟨x.toArray⟩] w fun e w' => e = .returned (.int .i64 (firstS x l)) ∧ w = w' := by
  go_enter Tryz.func172, Tryz.ntmps172
  go_wp2
  go_loop [5, 8] (fun _ i => ∃ k : Nat, k ≤ l.length ∧ i = .int .i64 k ∧ Hid (∀ j (hj : j < l.length), j < k → (x == l[j]) = false)) (fun _ i => l.length - (intOf i).toNat)
  case atStart => exact ⟨0, Nat.zero_le _, rfl, fun j _ hj => absurd hj (by omega)⟩
  case round =>
    obtain ⟨k, hk, rfl, HN⟩ := hrel
    by_cases hlt : k < l.length
    · obtain ⟨b, off, rfl, hbl, c0⟩ := readsS hr (Below.refl _ _) k hlt
      obtain ⟨y, hy⟩ : ∃ y, l[k] = y := ⟨_, rfl⟩
      rw [hy] at c0
      have HX := hid hy
      clear hy
      by_cases e : x = y
      · have HF := hid (firstS_hit x l k hlt (by rw [HX.out]; exact e) (fun j hj hjk => HN.out j hj hjk))
        subst e
        go_wp2
        go_ret
        exact ⟨ret_int HF.out.symm, rfl⟩
      · have e1 : (x == y) = false := by simp [e]
        have E1 := hid e1
        go_wp2
        go_round
        case rel =>
          refine ⟨k + 1, by omega, by go_num, ?_⟩
          intro j hj hjk
          by_cases e : j = k
          · subst e; rw [HX.out]; exact E1.out
          · exact HN.out j hj (by omega)
        case measure => simp [intOf]; omega
    · go_wp2
      go_ret
      exact ⟨ret_int (firstS_miss x l fun j hj => HN.out j hj (by omega)).symm, rfl⟩
theorem hasS_any (A : Option Addr) (c : Nat) (l : List (List UInt8)) (x : List UInt8) (w : World) (hm : l.length ≤ 1000000000000) (hr : Reads w w.heap.size 1 A l.length (l.map Gr.strV)) :
    Calls Tryz.prog 144 #[.slice A l.length c, .string ⟨x.toArray⟩] w fun e w' => e = .returned (.bool (l.any (x == ·))) ∧ w = w' := by
  rw [← firstS_any]
  go_enter Tryz.func144, Tryz.ntmps144
  go_wp2_with (go_at_call 172; refine (idxS_any A c l x _ hm hr).mono ?_; rintro e w' ⟨rfl, rfl⟩)
  go_ret
  exact ⟨rfl, rfl⟩
theorem kept_any (s : List UInt8) (w : World) : Calls Tryz.prog 123 #[Gr.strV s] w fun e w' => e = .returned (.bool (Gr.kept s)) ∧ Below w.heap.size w w' := by
  unfold Gr.strV
  go_enter Tryz.func123, Tryz.ntmps123
  go_wp2_with fail
  have hb := below_new w (.cells #[.string ⟨#[103, 114, 97, 109, 109, 97, 114]⟩, .string ⟨#[111, 112, 116, 105, 111, 110, 115]⟩, .string ⟨#[102, 114, 97, 103, 109, 101, 110, 116]⟩, .string ⟨#[115, 107, 105, 112]⟩] 9)
  have h1 := heap_alloc_new w (.cells #[.string ⟨#[103, 114, 97, 109, 109, 97, 114]⟩, .string ⟨#[111, 112, 116, 105, 111, 110, 115]⟩, .string ⟨#[102, 114, 97, 103, 109, 101, 110, 116]⟩, .string ⟨#[115, 107, 105, 112]⟩] 9)
  obtain ⟨w1, hw1⟩ : ∃ w1, w.alloc (.cells #[.string ⟨#[103, 114, 97, 109, 109, 97, 114]⟩, .string ⟨#[111, 112, 116, 105, 111, 110, 115]⟩, .string ⟨#[102, 114, 97, 103, 109, 101, 110, 116]⟩, .string ⟨#[115, 107, 105, 112]⟩] 9) = w1 := ⟨_, rfl⟩
  rw [hw1] at hb h1 ⊢
  refine (hasS_any (some ⟨w.heap.size, 0, none⟩) 4 keptL s w1 (by decide) ⟨rfl, fun _ => ⟨w.heap.size, 0, rfl, heap_lt h1, fun j u hu => ?_⟩⟩).mono ?_
  · rw [Lib.cell_of_heap h1]
    match j, hu with
    | 0, hu => exact hu
    | 1, hu => exact hu
    | 2, hu => exact hu
    | 3, hu => exact hu
    | j + 4, hu => cases hu
  · rintro _ _ ⟨rfl, rfl⟩
    rw [kept_eq]
    have HB := hid hb
    clear hb h1 hw1
    go_wp2_with fail
    go_ret
    exact ⟨rfl, HB.out⟩
end Go.Proofs.YtpbnfinmjnpkpaaGreatDoor
