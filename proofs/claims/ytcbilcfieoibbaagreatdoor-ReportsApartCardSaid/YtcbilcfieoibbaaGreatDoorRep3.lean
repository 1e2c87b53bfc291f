/-
  strings.Replacer's build: the walk.
-/
import Derived.Test.YtcbilcfieoibbaaGreatDoorRep2
import Derived.Deep.WholeRow
import Derived.Deep.Cut
import Derived.Lib.Builder
namespace Go.Proofs.YtcbilcfieoibbaaGreatDoor
open Go.RowKit
set_option maxRecDepth 100000
/-- the four strings lie at oldnew -/
structure Old (w : World) (pb g cap : Nat) (x y : List UInt8) : Prop where
  v : w.cell? ⟨pb, 4, none⟩ = some (.slice (some ⟨g, 0, none⟩) 4 cap)
  s0 : w.cell? ⟨g, 0, none⟩ = some (.string ⟨#[82]⟩)
  s1 : w.cell? ⟨g, 1, none⟩ = some (.string ⟨x.toArray⟩)
  s2 : w.cell? ⟨g, 2, none⟩ = some (.string ⟨#[78]⟩)
  s3 : w.cell? ⟨g, 3, none⟩ = some (.string ⟨y.toArray⟩)
/-- a replacer of bytes, as a function -/
def BR (w : World) (rb : Nat) (f : Nat → Nat) : Prop := ∃ C : Array Value, w.heap[rb]? = some (.cells C 222 (0, 0)) ∧ C.size = 256 ∧ ∀ j, j < 256 → C[j]? = some (.int .u8 (f j : Nat))
theorem BR.cell {w : World} {rb : Nat} {f : Nat → Nat} (h : BR w rb f) (j : Nat) (hj : j < 256) : w.cell? ⟨rb, j, none⟩ = some (.int .u8 (f j : Nat)) ∧ w.frozen? ⟨rb, j, none⟩ = false := by
  obtain ⟨C, h1, _, h3⟩ := h
  exact ⟨by rw [Lib.cell_of_heap h1]; exact h3 j hj, Lib.frozen_of_heap h1 j⟩
theorem BR.set {w : World} {rb : Nat} {f g : Nat → Nat} (h : BR w rb f) (o c : Nat) (ho : o < 256) (hg : ∀ j, j < 256 → g j = if j = o then c else f j) : BR (w.setCell ⟨rb, o, none⟩ (.int .u8 (c : Nat))) rb g := by
  obtain ⟨C, h1, h2, h3⟩ := h
  refine ⟨C.setIfInBounds o (.int .u8 (c : Nat)), by simp [World.setCell, Array.getElem?_modify, h1], by simpa using h2, fun j hj => ?_⟩
  rw [hg j hj, Array.getElem?_setIfInBounds]
  by_cases e : o = j
  · subst e; simp [h2, ho]
  · rw [if_neg e, if_neg (fun q => e q.symm)]; exact h3 j hj
theorem BR.zero (w : World) : BR (w.alloc (.cells Tryz.zeroCells222 222)) w.heap.size (fun j => if j < 0 then j else 0) := by
  have e : Tryz.zeroCells222 = Array.replicate 256 (.int .u8 0) := by kernel_rfl
  refine ⟨_, heap_alloc_new w _, by rw [e]; simp, fun j hj => ?_⟩
  rw [e, Array.getElem?_replicate, if_pos hj]
  rfl
theorem BR.below {w w' : World} {rb : Nat} {f : Nat → Nat} (h : BR w rb f) (hb : Below w.heap.size w w') : BR w' rb f := by
  obtain ⟨C, h1, h2⟩ := h
  exact ⟨C, (hb.block rb (Array.getElem?_eq_some_iff.1 h1).1).trans h1, h2⟩
def fA (x y j : Nat) : Nat := if j = 82 then x else if j = 78 then y else j
set_option maxHeartbeats 4000000 in
theorem build_a (pb g cap : Nat) (x0 y0 : UInt8) (w : World) (h : Old w pb g cap [x0] [y0]) :
    Calls Tryz.prog 63 #[.pointer (some ⟨pb, 0, none⟩)] w fun e w' => ∃ rb, e = .returned (.iface 223 (.pointer (some ⟨rb, 0, none⟩))) ∧ w.heap.size ≤ rb ∧ BR w' rb (fA x0.toNat y0.toNat) ∧ Below w.heap.size w w' := by
  obtain ⟨v, s0, s1, s2, s3⟩ := h
  have hsc := fun w => run_storeCells_new (P := Tryz.prog) w 222 Tryz.zeroCells222 Tryz.zeroCells222 (by kernel_rfl) rfl (by kernel_rfl)
  go_enter Tryz.func63, Tryz.ntmps63
  go_wp2_with fail
  go_loop [4, 5] (fun al i => al = .bool true ∧ (i = .int .i64 0 ∨ i = .int .i64 2 ∨ i = .int .i64 4)) (fun _ i => 4 - (intOf i).toNat)
  case atStart => exact ⟨rfl, .inl rfl⟩
  case round =>
    obtain ⟨rfl, hi⟩ := hrel
    rcases hi with rfl | rfl | rfl
    · go_wp2_with fail
      go_round
      case rel => exact ⟨rfl, .inr (.inl rfl)⟩
      case measure => decide
    · go_wp2_with fail
      go_round
      case rel => exact ⟨rfl, .inr (.inr rfl)⟩
      case measure => decide
    · go_wp2_with fail
      clear hsc
      have hgl : g < w.heap.size := World.block_lt_of_cell? w ⟨g, 0, none⟩ s0
      go_loopw [61] (fun i wr => ∃ k : Nat, k ≤ 256 ∧ i = .int .i64 k ∧ Hid (BR wr w.heap.size (fun j => if j < k then j else 0) ∧ Below w.heap.size w wr)) (fun i _ => 256 - (intOf i).toNat)
      case atStart => exact ⟨0, by omega, rfl, hid ⟨BR.zero w, below_new _ _⟩⟩
      case round =>
        obtain ⟨k, hk, rfl, hI⟩ := hrel
        obtain ⟨hR, hb⟩ := hI.out
        by_cases hlt : k < 256
        · obtain ⟨c0, f0⟩ := hR.cell k hlt
          have hw8 : IntKind.u8.wrap (k : Int) = k := IntWalk.u8_in _ (by omega)
          have HN := hid (hR.set k k hlt (g := fun j => if j < k + 1 then j else 0) (fun j hj => by
            by_cases e : j = k
            · subst e; simp
            · simp only [if_neg e]; by_cases e2 : j < k
              · rw [if_pos e2, if_pos (by omega)]
              · rw [if_neg e2, if_neg (by omega)]))
          have HB := hid hb
          clear hR hb hI
          go_wp2_with fail
          go_roundw
          case rel => exact ⟨k + 1, by omega, by go_num, hid ⟨HN.out, HB.out.setCell (p := ⟨w.heap.size, _, none⟩) (Nat.le_refl _) _⟩⟩
          case measure => simp [intOf]; omega
        · obtain rfl : k = 256 := by omega
          clear hI
          have hR0 : BR wr w.heap.size (fun j => j) := by
            obtain ⟨C, h1, h2, h3⟩ := hR
            exact ⟨C, h1, h2, fun j hj => by rw [h3 j hj]; simp only [if_pos hj]⟩
          have S0 := hid s0
          have S1 := hid s1
          have S2 := hid s2
          have S3 := hid s3
          have e78 : ((⟨#[78]⟩ : ByteArray)[0]'(by decide)).toNat = 78 := rfl
          have e82 : ((⟨#[82]⟩ : ByteArray)[0]'(by decide)).toNat = 82 := rfl
          have ex : ((⟨#[x0]⟩ : ByteArray)[0]'(Nat.zero_lt_one)).toNat = x0.toNat := rfl
          have ey : ((⟨#[y0]⟩ : ByteArray)[0]'(Nat.zero_lt_one)).toNat = y0.toNat := rfl
          clear hR s0 s1 s2 s3 v
          go_wp2_with fail
          go_loopw [8] (fun i wz => Hid (Below w.heap.size w wz) ∧ ((i = .int .i64 2 ∧ Hid (BR wz w.heap.size (fun j => j))) ∨ (i = .int .i64 0 ∧ Hid (BR wz w.heap.size (fun j => if j = 78 then y0.toNat else j))) ∨ (i = .int .i64 (-2) ∧ Hid (BR wz w.heap.size (fA x0.toNat y0.toNat))))) (fun i _ => (intOf i + 2).toNat)
          case atStart => exact ⟨hid hb, .inl ⟨rfl, hid hR0⟩⟩
          case round =>
            rename World => wz
            obtain ⟨hbz, hz⟩ := hrel
            have t0 := (hbz.out.cell (p := ⟨g, 0, none⟩) hgl).trans S0.out
            have t1 := (hbz.out.cell (p := ⟨g, 1, none⟩) hgl).trans S1.out
            have t2 := (hbz.out.cell (p := ⟨g, 2, none⟩) hgl).trans S2.out
            have t3 := (hbz.out.cell (p := ⟨g, 3, none⟩) hgl).trans S3.out
            rcases hz with ⟨rfl, hR⟩ | ⟨rfl, hR⟩ | ⟨rfl, hR⟩
            · obtain ⟨c0, f0⟩ := hR.out.cell 78 (by decide)
              have HN := hid (hR.out.set 78 y0.toNat (by decide) (g := fun j => if j = 78 then y0.toNat else j) (fun j _ => rfl))
              go_wp2_with fail
              go_roundw
              case rel => exact ⟨hid (hbz.out.setCell (p := ⟨w.heap.size, _, none⟩) (Nat.le_refl _) _), .inr (.inl ⟨rfl, hid HN.out⟩)⟩
              case measure => decide
            · obtain ⟨c0, f0⟩ := hR.out.cell 82 (by decide)
              have HN := hid (hR.out.set 82 x0.toNat (by decide) (g := fA x0.toNat y0.toNat) (fun j _ => rfl))
              go_wp2_with fail
              go_roundw
              case rel => exact ⟨hid (hbz.out.setCell (p := ⟨w.heap.size, _, none⟩) (Nat.le_refl _) _), .inr (.inr ⟨rfl, hid HN.out⟩)⟩
              case measure => decide
            · go_wp2_with fail
              go_ret
              exact ⟨_, rfl, Nat.le_refl _, hR.out, hbz.out⟩
end Go.Proofs.YtcbilcfieoibbaaGreatDoor
