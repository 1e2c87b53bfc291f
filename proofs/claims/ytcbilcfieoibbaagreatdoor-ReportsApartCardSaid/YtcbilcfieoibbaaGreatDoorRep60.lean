/-
  A buffer of bytes that is filled: its slices, copies, stores.
-/
import Derived.Test.YtcbilcfieoibbaaGreatDoorRep5
import Derived.Test.YtcbilcfieoibbaaGreatDoorWrt
import Derived.Laws.CopyRow
namespace Go.Proofs.YtcbilcfieoibbaaGreatDoor
open Go.RowKit
set_option maxRecDepth 100000
def bv (q : List UInt8) : List Value := q.map fun b => Value.int .u8 b.toNat
theorem bv_len (q : List UInt8) : (bv q).length = q.length := by simp [bv]
theorem bv_append (q r : List UInt8) : bv (q ++ r) = bv q ++ bv r := by simp [bv]
theorem bv_get (q : List UInt8) (j : Nat) (v : Value) (h : (bv q)[j]? = some v) : v = .int .u8 (q.getD j 0).toNat ∧ j < q.length := by
  have hj : j < q.length := by
    have := (List.getElem?_eq_some_iff.1 h).1
    simpa [bv] using this
  refine ⟨?_, hj⟩
  simp [bv, List.getElem?_eq_getElem hj] at h
  simp [List.getD, hj, ← h]
theorem made_u8 (n : Nat) : madeCells #[Value.int .u8 0] n = (List.replicate n (Value.int .u8 0)).toArray := by
  apply Array.ext
  · simp [madeCells]
  · intro i h1 h2
    simp [madeCells, Nat.mod_one]
theorem mk_bytes (n : Nat) (hn : n < 281474976710656) (u : World) : (Instr.makeSlice 96 (.int .i64 (n : Int)) (.int .i64 (n : Int))).run Tryz.prog u =
      .ok (.slice (some ⟨u.heap.size, 0, none⟩) n n) (u.alloc (.cells (List.replicate n (Value.int .u8 0)).toArray 5)) := by
  obtain ⟨i2, hi2, hz2, hs2, hy2⟩ := info_parts infoByte
  have h := run_make (P := Tryz.prog) u 96 5 i2 (.int .u8 0) Tryz.underlying96 hi2 hz2 .i64 .i64 (n : Int) (n : Int) (by omega) (Int.le_refl _) (by rw [hy2]; omega) (by omega)
  have e : (n : Int).toNat = n := by omega
  rw [e] at h
  rw [← made_u8]
  simpa [hs2, Value.cells] using h
theorem slice_buf (bb n j : Nat) (h : j ≤ n) (w : World) : (Instr.slice 96 (.slice (some ⟨bb, 0, none⟩) n n) (some (.int .i64 (j : Int))) none none).run Tryz.prog w = .ok (.slice (some ⟨bb, if n = j then 0 else j, none⟩) (n - j) (n - j)) w := by
  have h1 : (0 : Int) ≤ (j : Int) := by omega
  have h2 : (j : Int) ≤ n := by omega
  have h3 : (j : Int).toNat = j := by omega
  obtain ⟨i2, hi2, hz2, hs2, hy2⟩ := info_parts infoByte
  rw [run_slice_l w 96 (some ⟨bb, 0, none⟩) n n Tryz.underlying96 .i64 (j : Int) h1 h2]
  have he : Tryz.prog.elem 96 = 5 := by kernel_rfl
  rw [he]
  by_cases e : n = j
  · subst e; simp [sizeOf, typeInfo, hi2, Result.andThen, h3, sliced]
  · simp [sizeOf, typeInfo, hi2, Result.andThen, h3, sliced, e, hs2, Addr.add_lit]
theorem copy_buf (w : World) (bb b1 n c : Nat) (q r : List UInt8) (z : List Value) (h : w.heap[bb]? = some (.cells (bv q ++ z).toArray 5 (0, 0))) (hz : q.length + z.length = n) (hr : r.length ≤ z.length)
    (hc : ∀ j, j < r.length → w.cell? ⟨b1, j, none⟩ = some (.int .u8 (r.getD j 0).toNat)) :
    (Builtin.copy_ #[96, 96] 3 #[.slice (some ⟨bb, if n = q.length then 0 else q.length, none⟩) (n - q.length) (n - q.length), .slice (some ⟨b1, 0, none⟩) r.length c]).run Tryz.prog w =
      .ok (.int .i64 (r.length : Int)) (w.setRow bb (bv (q ++ r) ++ z.drop r.length).toArray) := by
  obtain ⟨i2, hi2, hz2, hs2, hy2⟩ := info_parts infoByte
  have hcp := run_copy_row (P := Tryz.prog) w 96 96 3 5 bb (if n = q.length then 0 else q.length) (n - q.length) (n - q.length) ⟨b1, 0, none⟩ r.length c (bv q ++ z).toArray 5 (bv r)
    Tryz.underlying96 (by rw [hi2]; simp [hs2]) h (by rw [bv_len]; exact (Nat.min_eq_left (by omega)).symm)
    (fun j v hj => by
      obtain ⟨rfl, hj2⟩ := bv_get r j v hj
      rw [Addr.add_lit, Nat.zero_add]
      exact hc j hj2)
    (by rw [bv_len]; simp [bv_len]; split <;> omega)
    (fun v hv => by
      simp only [bv, List.mem_map] at hv
      obtain ⟨b, _, rfl⟩ := hv
      rfl)
  rw [hcp, bv_len]
  have e : ((bv q ++ z).toArray.toList.take (if n = q.length then 0 else q.length) ++ bv r ++ (bv q ++ z).toArray.toList.drop ((if n = q.length then 0 else q.length) + r.length)) = bv (q ++ r) ++ z.drop r.length := by
    have hq := bv_len q
    by_cases e : n = q.length
    · have hz0 : z = [] := List.eq_nil_of_length_eq_zero (by omega)
      have hr0 : r = [] := List.eq_nil_of_length_eq_zero (by omega)
      subst hz0 hr0
      simp [e, bv]
    · rw [if_neg e, bv_append]
      show List.take _ (bv q ++ z) ++ bv r ++ List.drop _ (bv q ++ z) = _
      rw [← hq]
      simp
  rw [e]
  rfl
theorem put_buf (w : World) (bb : Nat) (q : List UInt8) (b : UInt8) (z0 : Value) (z : List Value) (h : w.heap[bb]? = some (.cells (bv q ++ z0 :: z).toArray 5 (0, 0))) :
    w.cell? ⟨bb, q.length, none⟩ = some z0 ∧ w.frozen? ⟨bb, q.length, none⟩ = false ∧ (w.setCell ⟨bb, q.length, none⟩ (.int .u8 b.toNat)).heap[bb]? = some (.cells (bv (q ++ [b]) ++ z).toArray 5 (0, 0)) := by
  have hq := bv_len q
  refine ⟨?_, Lib.frozen_of_heap h _, ?_⟩
  · rw [Lib.cell_of_heap h]
    simp [← hq]
  · rw [heap_setCell_same w bb q.length _ _ _ h]
    congr 2
    rw [List.setIfInBounds_toArray]
    congr 1
    rw [List.set_append_right _ _ (by omega), hq, Nat.sub_self, List.set_cons_zero, bv_append]
    simp [bv]
end Go.Proofs.YtcbilcfieoibbaaGreatDoor
