/-
  strings.Replacer's build, by strings: the walk.
-/
import Derived.Test.YtcbilcfieoibbaaGreatDoorRep3
import Derived.Lib.SliceRun
namespace Go.Proofs.YtcbilcfieoibbaaGreatDoor
open Go.RowKit
set_option maxRecDepth 100000
theorem zb_eq : Tryz.zeroCells226 = Array.replicate 257 (.slice none 0 0) := by kernel_rfl
theorem zb_one (A : Option Addr) (n c : Nat) : (Tryz.zeroCells226.setIfInBounds 256 (.slice A n c)).all (·.oneCell') = true := by
  rw [zb_eq, Array.all_eq_true_iff_forall_mem]
  intro x hx
  rcases Array.mem_or_eq_of_mem_setIfInBounds hx with h | rfl
  · rw [(Array.mem_replicate.1 h).2]; rfl
  · rfl
theorem mk_two {i0 : TypeInfo} (hi : Tryz.prog.info? 9 = some i0) (hz : i0.zero = some (.string ⟨#[]⟩)) (h1 : i0.size = 1) (h2 : i0.bytes = 16) (w : World) :
    (Instr.makeSlice 41 (.int .i64 0) (.int .i64 2)).run Tryz.prog w = .ok (.slice (some ⟨w.heap.size, 0, none⟩) 0 2) (w.alloc (.cells #[.string ⟨#[]⟩, .string ⟨#[]⟩] 9)) := by
  have h := run_make w 41 9 i0 (.string ⟨#[]⟩) Tryz.underlying41 hi hz .i64 .i64 0 2 (by omega) (by omega) (by omega) (by omega)
  rw [h1] at h
  have e : madeCells (Value.string ⟨#[]⟩).cells (Int.toNat 2 * 1) = #[.string ⟨#[]⟩, .string ⟨#[]⟩] := by kernel_rfl
  rw [e] at h
  exact h
theorem st_zb (w : World) (O : Obj) (A : Option Addr) (n c : Nat) : (storeCells ⟨w.heap.size + 1, 0, none⟩ (Tryz.zeroCells226.toList.set 256 (.slice A n c))).run Tryz.prog ((w.alloc O).alloc (.cells Tryz.zeroCells226 226)) = .ok () ((w.alloc O).alloc (.cells (Tryz.zeroCells226.setIfInBounds 256 (.slice A n c)) 226)) := by
  have h := run_storeCells_new (P := Tryz.prog) (w.alloc O) 226 Tryz.zeroCells226 (Tryz.zeroCells226.setIfInBounds 256 (.slice A n c)) (by rw [Array.size_setIfInBounds]; kernel_rfl) (by rw [Array.size_setIfInBounds]) (zb_one A n c)
  have e : (w.alloc O).heap.size = w.heap.size + 1 := by
    show (w.heap.push O).size = _
    rw [Array.size_push]
  rw [Array.toList_setIfInBounds, e] at h
  exact h
theorem cv_one (k : UInt8) (w : World) : (convert 96 9 (.slice (some ⟨w.heap.size, 0, none⟩) 1 1)).run Tryz.prog (w.alloc (.cells #[.int .u8 k.toNat] 5)) = .ok (.string ⟨#[k]⟩) (w.alloc (.cells #[.int .u8 k.toNat] 5)) := by
  refine run_convert_bytes_back _ 96 9 5 ⟨w.heap.size, 0, none⟩ 1 [k] Tryz.underlying96 Tryz.underlying5 Tryz.underlying9 (fun j hj => ?_)
  obtain rfl : j = 0 := by simpa using hj
  show (w.alloc _).cell? ⟨w.heap.size, 0 + 0, none⟩ = _
  rw [Lib.cell_of_heap (heap_alloc_new w _)]
  rfl
/-- cells of a block, as a function -/
def CB (w : World) (rb : Nat) (t : TypeId) (n : Nat) (f : Nat → Value) : Prop := ∃ C : Array Value, w.heap[rb]? = some (.cells C t (0, 0)) ∧ C.size = n ∧ ∀ j, j < n → C[j]? = some (f j)
theorem CB.cell {w : World} {rb n : Nat} {t : TypeId} {f : Nat → Value} (h : CB w rb t n f) (j : Nat) (hj : j < n) : w.cell? ⟨rb, j, none⟩ = some (f j) ∧ w.frozen? ⟨rb, j, none⟩ = false := by
  obtain ⟨C, h1, _, h3⟩ := h
  exact ⟨by rw [Lib.cell_of_heap h1]; exact h3 j hj, Lib.frozen_of_heap h1 j⟩
theorem CB.set {w : World} {rb n : Nat} {t : TypeId} {f g : Nat → Value} (h : CB w rb t n f) (o : Nat) (c : Value) (ho : o < n) (hg : ∀ j, j < n → g j = if j = o then c else f j) : CB (w.setCell ⟨rb, o, none⟩ c) rb t n g := by
  obtain ⟨C, h1, h2, h3⟩ := h
  refine ⟨C.setIfInBounds o c, by simp [World.setCell, Array.getElem?_modify, h1], by simpa using h2, fun j hj => ?_⟩
  rw [hg j hj, Array.getElem?_setIfInBounds]
  by_cases e : o = j
  · subst e; simp [h2, ho]
  · rw [if_neg e, if_neg (fun q => e q.symm)]; exact h3 j hj
theorem CB.heap {w w' : World} {rb n : Nat} {t : TypeId} {f : Nat → Value} (h : CB w rb t n f) (he : w'.heap[rb]? = w.heap[rb]?) : CB w' rb t n f := by
  obtain ⟨C, h1, h2⟩ := h
  exact ⟨C, he.trans h1, h2⟩
/-- bytes in a row of their own -/
def RowB (w : World) (B b : Nat) (v : Value) (l : List UInt8) : Prop := ∃ c, v = .slice (some ⟨b, 0, none⟩) l.length c ∧ B ≤ b ∧ ∃ C fr, w.heap[b]? = some (.cells C 5 fr) ∧ ∀ j, j < l.length → C[j]? = some (.int .u8 (l.getD j 0).toNat)
theorem RowB.heap {w w' : World} {B b : Nat} {v : Value} {l : List UInt8} (h : RowB w B b v l) (he : w'.heap[b]? = w.heap[b]?) : RowB w' B b v l := by
  obtain ⟨c, h1, h2, C, fr, h3⟩ := h
  exact ⟨c, h1, h2, C, fr, he.trans h3.1, h3.2⟩
def vN : Value := .slice none 0 0
/-- the replacer of strings -/
def fB (bt n : Nat) (vx vy : Value) (j : Nat) : Value := if j = 256 then .slice (some ⟨bt, 0, none⟩) n 2 else if j = 82 then vx else if j = 78 then vy else vN
/-- the replacer amid its making: B the slice of what is replaced, B + 1 the cells -/
def BSt (wz : World) (B n : Nat) (vx vy : Value) (ss : Array Value) : Prop := CB wz (B + 1) 226 257 (fB B n vx vy) ∧ wz.heap[B]? = some (.cells ss 9 (0, 0))
theorem BSt.start (w : World) : BSt ((w.alloc (.cells #[.string ⟨#[]⟩, .string ⟨#[]⟩] 9)).alloc (.cells (Tryz.zeroCells226.setIfInBounds 256 (.slice (some ⟨w.heap.size, 0, none⟩) 0 2)) 226)) w.heap.size 0 vN vN #[.string ⟨#[]⟩, .string ⟨#[]⟩] := by
  have e : (w.alloc (.cells #[.string ⟨#[]⟩, .string ⟨#[]⟩] 9)).heap.size = w.heap.size + 1 := by
    show (w.heap.push _).size = _
    rw [Array.size_push]
  refine ⟨⟨_, by rw [← e]; exact heap_alloc_new _ _, by rw [Array.size_setIfInBounds, zb_eq]; simp, fun j hj => ?_⟩, ?_⟩
  · rw [Array.getElem?_setIfInBounds, zb_eq, Array.size_replicate]
    unfold fB vN
    by_cases h : 256 = j
    · subst h; simp
    · rw [if_neg h, if_neg (fun q => h q.symm), Array.getElem?_replicate, if_pos hj]
      simp
  · exact ((below_new _ _).block _ (by omega)).trans (heap_alloc_new w _)
theorem BSt.lt {wz : World} {B n : Nat} {vx vy : Value} {ss : Array Value} (h : BSt wz B n vx vy ss) : B + 1 < wz.heap.size := by
  obtain ⟨⟨C, h1, _⟩, _⟩ := h
  exact (Array.getElem?_eq_some_iff.1 h1).1
theorem BSt.facts {wz : World} {B n : Nat} {vx vy s : Value} {ss : Array Value} (h : BSt wz B n vx vy ss) (c : Nat) (hc : c < 256) (hs : ss[n]? = some s) :
    (∀ o o', ((wz.alloc o).alloc o').cell? ⟨B, n, none⟩ = some s) ∧ (∀ o o', ((wz.alloc o).alloc o').frozen? ⟨B, n, none⟩ = false) ∧
    (∀ o o', ((wz.alloc o).alloc o').cell? ⟨B + 1, 256, none⟩ = some (.slice (some ⟨B, 0, none⟩) n 2)) ∧ (∀ o o', ((wz.alloc o).alloc o').frozen? ⟨B + 1, 256, none⟩ = false) ∧
    (∀ o o' p q o'', (((((wz.alloc o).alloc o').setCell ⟨B, n, none⟩ p).setCell ⟨B + 1, 256, none⟩ q).alloc o'').cell? ⟨B + 1, c, none⟩ = some (fB B n vx vy c)) ∧
    (∀ o o' p q o'', (((((wz.alloc o).alloc o').setCell ⟨B, n, none⟩ p).setCell ⟨B + 1, 256, none⟩ q).alloc o'').frozen? ⟨B + 1, c, none⟩ = false) := by
  have hl := h.lt
  obtain ⟨hr, hb⟩ := h
  have k2 : ∀ o o' b, b < wz.heap.size → ((wz.alloc o).alloc o').heap[b]? = wz.heap[b]? := fun o o' b e =>
    ((below_new _ _).block _ (by simp; omega)).trans ((below_new _ _).block _ e)
  have k5 : ∀ o o' p q o'', CB ((((((wz.alloc o).alloc o').setCell ⟨B, n, none⟩ p).setCell ⟨B + 1, 256, none⟩ q).alloc o'')) (B + 1) 226 257 (fun j => if j = 256 then q else fB B n vx vy j) := fun o o' p q o'' => by
    have h1 : CB (((wz.alloc o).alloc o').setCell ⟨B, n, none⟩ p) (B + 1) 226 257 (fB B n vx vy) := (hr.heap (k2 o o' _ hl)).heap (Below.heap_setCell _ _ _ _ (by simp))
    exact (h1.set 256 q (by omega) (fun j _ => rfl)).heap (Below.heap_alloc _ _ _ (by simp; omega))
  refine ⟨fun o o' => ?_, fun o o' => ?_, fun o o' => ?_, fun o o' => ?_, fun o o' p q o'' => ?_, fun o o' p q o'' => ?_⟩
  · rw [Lib.cell_of_heap ((k2 o o' _ (by omega)).trans hb)]; exact hs
  · exact Lib.frozen_of_heap ((k2 o o' _ (by omega)).trans hb) _
  · exact ((hr.heap (k2 o o' _ hl)).cell 256 (by omega)).1
  · exact ((hr.heap (k2 o o' _ hl)).cell 256 (by omega)).2
  · rw [((k5 o o' p q o'').cell c (by omega)).1, if_neg (by omega)]
  · exact ((k5 o o' p q o'').cell c (by omega)).2
theorem BSt.step {wz w1 w2 w3 w4 : World} {B n o c : Nat} {vx vy vx' vy' : Value} {ss : Array Value} {k : UInt8} {l : List UInt8} {fr : Nat × Nat} {C : Array Value} (h : BSt wz B n vx vy ss)
    (h1 : w1 = ((wz.alloc (.cells #[.int .u8 k.toNat] 5)).alloc (.cells #[.string ⟨#[k]⟩] 9)).setCell ⟨B, n, none⟩ (.string ⟨#[k]⟩))
    (h2 : w2 = w1.setCell ⟨B + 1, 256, none⟩ (.slice (some ⟨B, 0, none⟩) (n + 1) 2))
    (h3 : w3 = (w2.alloc (.cells C 5 fr)).drew)
    (h4 : w4 = w3.setCell ⟨B + 1, o, none⟩ (.slice (some ⟨wz.heap.size + 2, 0, none⟩) l.length c))
    (hC : ∀ j, j < l.length → C[j]? = some (.int .u8 (l.getD j 0).toNat)) (ho : o < 257)
    (hg : ∀ j, j < 257 → fB B (n + 1) vx' vy' j = if j = o then .slice (some ⟨wz.heap.size + 2, 0, none⟩) l.length c else if j = 256 then .slice (some ⟨B, 0, none⟩) (n + 1) 2 else fB B n vx vy j) :
    BSt w4 B (n + 1) vx' vy' (ss.setIfInBounds n (.string ⟨#[k]⟩)) ∧ RowB w4 (B + 2) (wz.heap.size + 2) (.slice (some ⟨wz.heap.size + 2, 0, none⟩) l.length c) l ∧ (∀ b, B + 2 ≤ b → b < wz.heap.size → w4.heap[b]? = wz.heap[b]?) ∧ w4.heap.size = wz.heap.size + 3 ∧ (∀ b, b < B → w4.heap[b]? = wz.heap[b]?) := by
  have hB := h.lt
  obtain ⟨hc, hs⟩ := h
  have z1 : w1.heap.size = wz.heap.size + 2 := by rw [h1]; simp
  have z2 : w2.heap.size = wz.heap.size + 2 := by rw [h2]; simpa using z1
  have k1 : ∀ b, b ≠ B → b < wz.heap.size → w1.heap[b]? = wz.heap[b]? := fun b e hb => by
    rw [h1, Below.heap_setCell _ _ _ _ e, Below.heap_alloc _ _ _ (by simp; omega), Below.heap_alloc _ _ _ hb]
  have kB : w1.heap[B]? = some (.cells (ss.setIfInBounds n (.string ⟨#[k]⟩)) 9 (0, 0)) := by
    rw [h1]
    exact heap_setCell_same _ _ _ _ _ _ (((below_new _ _).block _ (by simp; omega)).trans (((below_new _ _).block _ (by omega)).trans hs))
  have k2 : ∀ b, b ≠ B + 1 → w2.heap[b]? = w1.heap[b]? := fun b e => by rw [h2, Below.heap_setCell _ _ _ _ e]
  have k3 : ∀ b, b < w2.heap.size → w3.heap[b]? = w2.heap[b]? := fun b hb => by rw [h3]; exact Below.heap_alloc _ _ _ hb
  have k4 : ∀ b, b ≠ B + 1 → w4.heap[b]? = w3.heap[b]? := fun b e => by rw [h4, Below.heap_setCell _ _ _ _ e]
  refine ⟨⟨?_, ?_⟩, ⟨c, rfl, by omega, C, fr, ?_, hC⟩, fun b hb hb' => ?_, ?_, fun b hb => ?_⟩
  · have hc1 : CB w1 (B + 1) 226 257 (fB B n vx vy) := hc.heap (k1 _ (by omega) (by omega))
    have hc2 := hc1.set (g := fun j => if j = 256 then .slice (some ⟨B, 0, none⟩) (n + 1) 2 else fB B n vx vy j) 256 (.slice (some ⟨B, 0, none⟩) (n + 1) 2) (by omega) (fun j _ => rfl)
    rw [← h2] at hc2
    have hc3 := hc2.heap (k3 _ (by omega))
    rw [h4]
    exact hc3.set o _ ho hg
  · rw [k4 _ (by omega), k3 _ (by omega), k2 _ (by omega)]; exact kB
  · rw [k4 _ (by omega), h3]
    have := heap_alloc_new w2 (.cells C 5 fr)
    rwa [z2] at this
  · rw [k4 _ (by omega), k3 _ (by omega), k2 _ (by omega), k1 _ (by omega) hb']
  · rw [h4, h3]; simp [z2]
  · rw [k4 _ (by omega), k3 _ (by omega), k2 _ (by omega), k1 _ (by omega) (by omega)]
theorem bytes_at (l : List UInt8) (c : Nat) (j : Nat) (h : j < l.length) : (bytesRow ⟨l.toArray⟩ c)[j]? = some (.int .u8 (l.getD j 0).toNat) := by
  unfold bytesRow
  rw [Array.getElem?_append_left (by simpa using h)]
  simp [h]
/-- a replacer of strings -/
def BS (w : World) (rb : Nat) (x y : List UInt8) : Prop := ∃ B vx vy b1 b2, rb = B + 1 ∧ BSt w B 2 vx vy #[.string ⟨#[78]⟩, .string ⟨#[82]⟩] ∧ RowB w (B + 2) b1 vx x ∧ RowB w (B + 2) b2 vy y
theorem BS.lt {w : World} {rb : Nat} {x y : List UInt8} (h : BS w rb x y) : rb < w.heap.size := by
  obtain ⟨B, vx, vy, b1, b2, rfl, h1, _⟩ := h
  exact h1.lt
theorem RowB.lt {w : World} {B b : Nat} {v : Value} {l : List UInt8} (h : RowB w B b v l) : b < w.heap.size := by
  obtain ⟨_, _, h2, C, fr, h3, _⟩ := h
  exact (Array.getElem?_eq_some_iff.1 h3).1
theorem BS.below {w w' : World} {rb : Nat} {x y : List UInt8} (h : BS w rb x y) (hb : Below w.heap.size w w') : BS w' rb x y := by
  obtain ⟨B, vx, vy, b1, b2, e, h1, h2, h3⟩ := h
  exact ⟨B, vx, vy, b1, b2, e, ⟨h1.1.heap (hb.block _ h1.lt), (hb.block _ (by have := h1.lt; omega)).trans h1.2⟩, h2.heap (hb.block _ h2.lt), h3.heap (hb.block _ h3.lt)⟩
set_option maxHeartbeats 4000000 in
theorem build_b (pb g cap : Nat) (x y : List UInt8) (w : World) (h : Old w pb g cap x y) (hxy : ¬ (x.length = 1 ∧ y.length = 1)) :
    Calls Tryz.prog 63 #[.pointer (some ⟨pb, 0, none⟩)] w fun e w' => ∃ rb, e = .returned (.iface 227 (.pointer (some ⟨rb, 0, none⟩))) ∧ w.heap.size < rb ∧ BS w' rb x y ∧ Below w.heap.size w w' := by
  obtain ⟨v, s0, s1, s2, s3⟩ := h
  obtain ⟨i0, hi, hz0, hz1, hz2⟩ := info_parts infoStr
  have hmk := mk_two hi hz0 hz1 hz2
  have hsc := st_zb
  go_enter Tryz.func63, Tryz.ntmps63
  go_wp2_with fail
  go_loop [4, 5] (fun al i => (i = .int .i64 0 ∧ al = .bool true) ∨ (i = .int .i64 2 ∧ al = .bool (decide (x.length = 1))) ∨ (i = .int .i64 4 ∧ al = .bool false)) (fun _ i => 4 - (intOf i).toNat)
  case atStart => exact .inl ⟨rfl, rfl⟩
  case round =>
    rcases hrel with ⟨rfl, rfl⟩ | ⟨rfl, rfl⟩ | ⟨rfl, rfl⟩
    · by_cases hx : x.length = 1
      · have f1 : (((x.length : Nat) : Int) != 1) = false := by simp [hx]
        go_wp2_with fail
        go_round
        case rel => exact .inr (.inl ⟨rfl, by simp [hx]⟩)
        case measure => decide
      · have f1 : (((x.length : Nat) : Int) != 1) = true := by simp; omega
        go_wp2_with fail
        go_round
        case rel => exact .inr (.inl ⟨rfl, by simp [hx]⟩)
        case measure => decide
    · by_cases hy : y.length = 1
      · have f1 : (((y.length : Nat) : Int) != 1) = false := by simp [hy]
        have hx : decide (x.length = 1) = false := decide_eq_false fun e => hxy ⟨e, hy⟩
        go_wp2_with fail
        go_round
        case rel => exact .inr (.inr ⟨rfl, by rw [hx]⟩)
        case measure => decide
      · have f1 : (((y.length : Nat) : Int) != 1) = true := by simp; omega
        go_wp2_with fail
        go_round
        case rel => exact .inr (.inr ⟨rfl, rfl⟩)
        case measure => decide
    · go_wp2_with fail
      have hgl : g < w.heap.size := World.block_lt_of_cell? w ⟨g, 0, none⟩ s0
      have S0 := hid s0
      have S1 := hid s1
      have S2 := hid s2
      have S3 := hid s3
      clear s0 s1 s2 s3 hsc hmk
      have e78 : ((⟨#[78]⟩ : ByteArray)[0]'(by decide)).toNat = 78 := rfl
      have e82 : ((⟨#[82]⟩ : ByteArray)[0]'(by decide)).toNat = 82 := rfl
      have h78 : ∀ w : World, (convert 96 9 (.slice (some ⟨w.heap.size, 0, none⟩) 1 1)).run Tryz.prog (w.alloc (.cells #[.int .u8 78] 5)) = .ok (.string ⟨#[78]⟩) (w.alloc (.cells #[.int .u8 78] 5)) := cv_one 78
      have h82 : ∀ w : World, (convert 96 9 (.slice (some ⟨w.heap.size, 0, none⟩) 1 1)).run Tryz.prog (w.alloc (.cells #[.int .u8 82] 5)) = .ok (.string ⟨#[82]⟩) (w.alloc (.cells #[.int .u8 82] 5)) := cv_one 82
      have hcb := fun w s => run_bytes_of_string (P := Tryz.prog) w 9 96 5 s Tryz.underlying9 Tryz.underlying96 Tryz.underlying5
      have hen := fun w a n c => Lib.run_eql_slice_nil (P := Tryz.prog) w 96 5 a n c 0 0 Tryz.underlying96
      go_loopw [12] (fun i wz => Hid (Below w.heap.size w wz) ∧ ((i = .int .i64 2 ∧ Hid (BSt wz w.heap.size 0 vN vN #[.string ⟨#[]⟩, .string ⟨#[]⟩])) ∨ (i = .int .i64 0 ∧ Hid (∃ vy b2, BSt wz w.heap.size 1 vN vy #[.string ⟨#[78]⟩, .string ⟨#[]⟩] ∧ RowB wz (w.heap.size + 2) b2 vy y)) ∨ (i = .int .i64 (-2) ∧ Hid (∃ vx vy b1 b2, BSt wz w.heap.size 2 vx vy #[.string ⟨#[78]⟩, .string ⟨#[82]⟩] ∧ RowB wz (w.heap.size + 2) b1 vx x ∧ RowB wz (w.heap.size + 2) b2 vy y)))) (fun i _ => (intOf i + 2).toNat)
      case atStart => exact ⟨hid ((below_new _ _).alloc (by simp) _), .inl ⟨rfl, hid (BSt.start w)⟩⟩
      case round =>
        rename World => wz
        obtain ⟨hbz, hz⟩ := hrel
        have t0 := (hbz.out.cell (p := ⟨g, 0, none⟩) hgl).trans S0.out
        have t1 := (hbz.out.cell (p := ⟨g, 1, none⟩) hgl).trans S1.out
        have t2 := (hbz.out.cell (p := ⟨g, 2, none⟩) hgl).trans S2.out
        have t3 := (hbz.out.cell (p := ⟨g, 3, none⟩) hgl).trans S3.out
        rcases hz with ⟨rfl, hR⟩ | ⟨rfl, hR⟩ | ⟨rfl, hR⟩
        · have c0 : wz.cell? ⟨w.heap.size + 1, 78, none⟩ = some (.slice none 0 0) := (hR.out.1.cell 78 (by decide)).1
          have c1 : wz.cell? ⟨w.heap.size + 1, 256, none⟩ = some (.slice (some ⟨w.heap.size, 0, none⟩) 0 2) := (hR.out.1.cell 256 (by decide)).1
          have f0 := (hR.out.1.cell 78 (by decide)).2
          have f1 := (hR.out.1.cell 256 (by decide)).2
          have hl := hR.out.lt
          obtain ⟨d1, d2, d3, d4, d5, d6⟩ := hR.out.facts 78 (by decide) rfl
          have HR := hid hR.out
          have HB := hid hbz.out
          have hl := hR.out.lt
          clear hR hbz
          go_wp2_with fail
          go_roundw
          case rel =>
            obtain ⟨q1, q2, q3, q4, q5⟩ := HR.out.step (vx' := vN) (vy' := .slice (some ⟨wz.heap.size + 2, 0, none⟩) y.length _) (l := y) (k := 78) (o := 78) rfl rfl rfl rfl (bytes_at y _) (by decide) (fun j hj => by
              unfold fB
              by_cases e : j = 78
              · subst e; rfl
              · simp only [if_neg e]; by_cases e2 : j = 256 <;> simp [e2])
            refine ⟨hid (((((((HB.out.alloc (by omega) _).alloc (by simp; omega) _).setCell (p := ⟨w.heap.size, _, none⟩) (Nat.le_refl _) _).setCell (p := ⟨w.heap.size + 1, _, none⟩) (by simp) _).alloc (by simp; omega) _).drew).setCell (p := ⟨w.heap.size + 1, _, none⟩) (by simp) _), .inr (.inl ⟨rfl, hid ⟨_, _, q1, q2⟩⟩)⟩
          case measure => decide
        · obtain ⟨vy, b2, hR0, hrow⟩ := hR.out
          have c0 : wz.cell? ⟨w.heap.size + 1, 82, none⟩ = some (.slice none 0 0) := (hR0.1.cell 82 (by decide)).1
          have c1 : wz.cell? ⟨w.heap.size + 1, 256, none⟩ = some (.slice (some ⟨w.heap.size, 0, none⟩) 1 2) := (hR0.1.cell 256 (by decide)).1
          have f0 := (hR0.1.cell 82 (by decide)).2
          have f1 := (hR0.1.cell 256 (by decide)).2
          obtain ⟨d1, d2, d3, d4, d5, d6⟩ := hR0.facts 82 (by decide) rfl
          have HR := hid hR0
          have HB := hid hbz.out
          have HW := hid hrow
          have hl := hR0.lt
          clear hR hbz hR0 hrow
          go_wp2_with fail
          go_roundw
          case rel =>
            obtain ⟨q1, q2, q3, q4, q5⟩ := HR.out.step (vx' := .slice (some ⟨wz.heap.size + 2, 0, none⟩) x.length _) (vy' := vy) (l := x) (k := 82) (o := 82) rfl rfl rfl rfl (bytes_at x _) (by decide) (fun j hj => by
              unfold fB
              by_cases e : j = 82
              · subst e; rfl
              · simp only [if_neg e]; by_cases e2 : j = 256 <;> simp [e2])
            have hb2 : w.heap.size + 2 ≤ b2 ∧ b2 < wz.heap.size := by
              obtain ⟨_, _, h2, C, fr, h3, _⟩ := HW.out
              exact ⟨h2, (Array.getElem?_eq_some_iff.1 h3).1⟩
            refine ⟨hid (((((((HB.out.alloc (by omega) _).alloc (by simp; omega) _).setCell (p := ⟨w.heap.size, _, none⟩) (Nat.le_refl _) _).setCell (p := ⟨w.heap.size + 1, _, none⟩) (by simp) _).alloc (by simp; omega) _).drew).setCell (p := ⟨w.heap.size + 1, _, none⟩) (by simp) _), .inr (.inr ⟨rfl, hid ⟨_, _, _, _, q1, q2, HW.out.heap (q3 b2 hb2.1 hb2.2)⟩⟩)⟩
          case measure => decide
        · go_wp2_with fail
          go_ret
          obtain ⟨vx, vy, b1, b2, h1, h2, h3⟩ := hR.out
          exact ⟨_, rfl, by simp, ⟨_, vx, vy, b1, b2, rfl, h1, h2, h3⟩, hbz.out⟩
end Go.Proofs.YtcbilcfieoibbaaGreatDoor
