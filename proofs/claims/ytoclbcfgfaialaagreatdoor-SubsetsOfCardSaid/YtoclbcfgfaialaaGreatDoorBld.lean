/-
  A strings.Builder that a call has made: copyCheck, WriteString; the name of a set of places: the walks.
-/
import Derived.Test.YtoclbcfgfaialaaGreatDoorLL
import Derived.Test.YtoclbcfgfaialaaGreatDoorShelf
import Derived.Test.YtoclbcfgfaialaaGreatDoorSubMath
import Derived.Lib.Builder
import Derived.Lib.AppendStr
import Derived.Laws.Externs
import Derived.Lib.UnsafeStr
import Derived.Lib.AppendIntMem
namespace Go.Proofs.YtoclbcfgfaialaaGreatDoor
open Go.RowKit
set_option maxRecDepth 100000
theorem infoByte : (Tryz.prog.info? 5).map (fun i => (i.zero, i.size, i.bytes)) = some (some (.int .u8 0), 1, 1) := by kernel_rfl
theorem sizeBld : (Tryz.prog.info? 127).map (·.size) = some 2 := by kernel_rfl
theorem liesBld : liesAt Tryz.prog Tryz.prog.depth 127 (2 / Tryz.prog.cellsOf 127) 0 127 1 = true := by kernel_rfl
set_option maxHeartbeats 400000 in
theorem check_used (b : Nat) (w : World) (h0 : w.cell? ⟨b, 0, none⟩ = some (.pointer (some ⟨b, 0, none⟩))) :
    Calls Tryz.prog 121 #[.pointer (some ⟨b, 0, none⟩)] w fun e w' => e = .returned (.tuple #[]) ∧ w' = w := by
  obtain ⟨j, hj, _⟩ := Option.map_eq_some_iff.1 sizeBld
  go_enter Tryz.func121, Tryz.ntmps121
  go_wp2
  rw [Lib.run_neq_ptr_same w _ Tryz.underlying124 hj]
  go_wp2
  go_end0
  exact ⟨rfl, rfl⟩
set_option maxHeartbeats 400000 in
theorem check_fresh (b : Nat) (w : World) (h0 : w.cell? ⟨b, 0, none⟩ = some (.pointer none)) (hsh : w.shape? b = some (127, 2)) (hfz : w.frozen? ⟨b, 0, none⟩ = false) :
    Calls Tryz.prog 121 #[.pointer (some ⟨b, 0, none⟩)] w fun e w' => e = .returned (.tuple #[]) ∧ w' = w.setCell ⟨b, 0, none⟩ (.pointer (some ⟨b, 0, none⟩)) := by
  obtain ⟨j, hj, hjs⟩ := Option.map_eq_some_iff.1 sizeBld
  go_enter Tryz.func121, Tryz.ntmps121
  go_wp2
  rw [Lib.run_to_unsafe w ⟨b, 0, none⟩ Tryz.underlying124 Tryz.underlying169 hj (by rw [hjs]; decide) hsh (Nat.zero_lt_succ 1)]
  simp only [Result.andThen]
  rw [Oper.upon_value]
  go_wp2
  rw [run_callFunc_extern Tryz.func136 (by kernel_rfl) (by kernel_rfl) (by kernel_rfl) (e := Extern.AbiNoEscape.same) (by kernel_rfl)]
  rw [Lib.run_noEscape]
  simp only [Result.andThen]
  rw [Oper.upon_value]
  go_wp2
  rw [Lib.run_from_unsafe w ⟨b, 0, none⟩ Tryz.underlying169 Tryz.underlying124 hj hsh liesBld]
  simp only [Result.andThen]
  rw [Oper.upon_value]
  go_wp2
  go_end0
  exact ⟨rfl, rfl⟩
theorem check_any (B b : Nat) (bs : List Value) (w : World) (h : Lib.IsBuilder 127 5 B b bs w) :
    Calls Tryz.prog 121 #[.pointer (some ⟨b, 0, none⟩)] w fun e w' => e = .returned (.tuple #[]) ∧ (Lib.BuilderAt 127 5 B b (.pointer (some ⟨b, 0, none⟩)) bs w' ∧ Below B w w') := by
  rcases h with h | h
  · refine (check_fresh b w h.cell0 h.shape h.frozen0).mono ?_
    rintro e w' ⟨rfl, rfl⟩
    exact ⟨rfl, h.used _, (Below.refl B w).setCell (p := ⟨b, 0, none⟩) h.1 _⟩
  · refine (check_used b w h.cell0).mono ?_
    rintro e w' ⟨rfl, rfl⟩
    exact ⟨rfl, h, Below.refl B _⟩
set_option maxHeartbeats 1000000 in
theorem writeStr_any (B b : Nat) (bs : List Value) (s : ByteArray) (w : World) (h : Lib.IsBuilder 127 5 B b bs w) (hlen : bs.length + s.size ≤ 140737488355328) (hBw : B ≤ w.heap.size) :
    Calls Tryz.prog 90 #[.pointer (some ⟨b, 0, none⟩), .string s] w fun e w' => e = .returned (.tuple #[.int .i64 s.size, .nilIface]) ∧ (Lib.BuilderAt 127 5 B b (.pointer (some ⟨b, 0, none⟩)) (bs ++ Lib.strCells s) w' ∧ Below B w w') := by
  obtain ⟨i0, hi, hz0, hz1, hz2⟩ := info_parts infoByte
  go_enter Tryz.func90, Tryz.ntmps90
  go_wp2_with fail
  refine (check_any B b bs _ h).mono ?_
  rintro e w1 ⟨rfl, h1, hb1⟩
  obtain ⟨hB, v, hbk, hown, hne⟩ := h1
  have c0 : w1.cell? ⟨b, 0, none⟩ = some (.pointer (some ⟨b, 0, none⟩)) := by rw [Lib.cell_of_heap hbk]; rfl
  have c1 : w1.cell? ⟨b, 1, none⟩ = some v := by rw [Lib.cell_of_heap hbk]; rfl
  go_wp2_with (at_builtin; refine Lib.wpList_append_own_string _ rfl _ _ 125 9 rfl B 5 i0 Tryz.underlying125 Tryz.underlying9 hi hz0 hz1 hz2 _ _ _ rfl hown s rfl ?c3 ?c4 ?c5 ?_)
  case c3 => unfold maxLen; omega
  case c4 => omega
  case c5 => have := hb1.size; omega
  intro v' w2 hown' hgrow _
  have hlt : b < w1.heap.size := by
    rcases Nat.lt_or_ge b w1.heap.size with h' | h'
    · exact h'
    · simp [Array.getElem?_eq_none h'] at hbk
  have hb2 : w2.heap[b]? = some (.cells #[.pointer (some ⟨b, 0, none⟩), v] 127 (0, 0)) := by
    rw [hgrow.block b hlt (fun e => hne e.symm)]
    exact hbk
  have d0 : w2.cell? ⟨b, 0, none⟩ = some (.pointer (some ⟨b, 0, none⟩)) := by rw [Lib.cell_of_heap hb2]; rfl
  have d1 : w2.cell? ⟨b, 1, none⟩ = some v := by rw [Lib.cell_of_heap hb2]; rfl
  have f1 : w2.frozen? ⟨b, 1, none⟩ = false := Lib.frozen_of_heap hb2 1
  obtain ⟨ao, n', cap, rfl⟩ : ∃ ao n' cap, v' = .slice ao n' cap := by
    rcases hown'.2 with ⟨hv, _⟩ | ⟨g, cap, cur, hv, _⟩
    · exact ⟨_, _, _, hv⟩
    · exact ⟨_, _, _, hv⟩
  go_wp2
  go_ret2
  refine ⟨rfl, ?_, ?_⟩
  · exact Lib.BuilderAt.put (T := 127) (e := 5) hB hb2 (bs' := bs ++ Lib.strCells s) (by simpa [Lib.strCells_length] using hown') (by decide)
  · exact (hb1.grown hgrow (by have := hb1.size; omega) (fun k hk => (hown.lt k hk).1)).setCell (p := ⟨b, 1, none⟩) hB _
theorem bld_new (w : World) : Lib.IsBuilder 127 5 w.heap.size w.heap.size [] (w.alloc (.cells #[.pointer none, .slice none 0 0] 127)) :=
  .inl ⟨Nat.le_refl _, .slice none 0 0, heap_alloc_new w _, World.ownsRow_nil _ _ _ _, by simp [Value.ownBlock]⟩
theorem wordOf_len {p : Int} (h0 : 0 ≤ p) (h1 : p < 100) : (wordOf p).length ≤ 3 := by
  unfold wordOf
  have : ∀ k : Nat, k < 100 → (Lib.decDigits k).length ≤ 2 := by decide +kernel
  have := this p.toNat (by omega)
  simp; omega
theorem nameL_len {l : List Int} (h : ∀ p ∈ l, 0 ≤ p ∧ p < 100) : (nameL l).length ≤ 3 * l.length := by
  induction l with
  | nil => simp [nameL]
  | cons x r ih =>
    have h1 := wordOf_len (h x (by simp)).1 (h x (by simp)).2
    have h2 := ih fun p hp => h p (by simp [hp])
    simp only [nameL, List.flatMap_cons, List.length_append, List.length_cons] at h2 ⊢
    omega
/-- one number of a readable list -/
theorem readsI {w w' : World} {B : Nat} {A : Option Addr} {l : List Int} (hr : Reads w B 1 A l.length (l.map (Value.int .i64))) (hb : Below B w w') (k : Nat) (hk : k < l.length) :
    ∃ b off, A = some ⟨b, off, none⟩ ∧ b < B ∧ w'.cell? ⟨b, off + k, none⟩ = some (.int .i64 l[k]) := by
  obtain ⟨b, off, rfl, hbl, hcell⟩ := hr.2 (by omega)
  exact ⟨b, off, rfl, hbl, (hb.cell (p := ⟨b, off + k, none⟩) hbl).trans (hcell k _ (by simp [List.getElem?_eq_getElem hk]))⟩
set_option maxHeartbeats 800000 in
theorem name_any (A : Option Addr) (c : Nat) (l : List Int) (w : World) (hm : l.length ≤ 1000) (hp : Hid (∀ p ∈ l, 0 ≤ p ∧ p < 100)) (hr : Reads w w.heap.size 1 A l.length (l.map (Value.int .i64))) :
    Calls Tryz.prog 83 #[.slice A l.length c] w fun e w' => e = .returned (.string ⟨(nameL l).toArray⟩) ∧ Below w.heap.size w w' := by
  go_enter Tryz.func83, Tryz.ntmps83
  go_wp2_with fail
  go_loopw [8] (fun i wr => ∃ k : Nat, k ≤ l.length ∧ i = .int .i64 k ∧ Lib.IsBuilder 127 5 w.heap.size w.heap.size (Lib.byteCells (nameL (l.take k))) wr ∧ Below w.heap.size w wr) (fun i _ => l.length - (intOf i).toNat)
  case atStart => exact ⟨0, Nat.zero_le _, rfl, bld_new w, below_new _ _⟩
  case round =>
    obtain ⟨k, hk, rfl, hbd, hb⟩ := hrel
    have hsz := hb.size
    by_cases hlt : k < l.length
    · obtain ⟨b, off, rfl, hbl, c0⟩ := readsI hr hb k hlt
      have hpk := hp.out _ (List.getElem_mem hlt)
      have HS : Hid (nameL (l.take (k+1)) = nameL (l.take k) ++ wordOf l[k]) := by
        rw [List.take_succ_eq_append_getElem hlt, nameL, List.flatMap_append]; simp only [List.flatMap_cons, List.flatMap_nil, List.append_nil]; exact hid rfl
      have hnl : (nameL (l.take k)).length ≤ 3000 := by
        have := nameL_len (l := l.take k) fun p hp' => hp.out p (List.mem_of_mem_take hp')
        have := List.length_take_le k l
        omega
      generalize l[k] = p at c0 hpk HS
      obtain ⟨hp0, hp1⟩ := hpk
      obtain ⟨q, rfl⟩ : ∃ q : Nat, p = q := ⟨p.toNat, by omega⟩
      have hq : q < 100 := by omega
      clear hp0 hp1
      go_wp2_with fail
      refine (Tryz.strconv_Itoa_small q hq _).mono ?_
      rintro e w1 ⟨rfl, rfl⟩
      have hw : wordOf (q : Int) = Lib.decDigits q ++ [32] := rfl
      have hdl : (Lib.decDigits q).length ≤ 2 := by
        have : ∀ k : Nat, k < 100 → (Lib.decDigits k).length ≤ 2 := by decide +kernel
        exact this q hq
      have HW := hid hw
      clear hw
      generalize Lib.decDigits q = ds at hdl HW ⊢
      have hdl2 : ¬ 9223372036854775807 < ds.length + 1 := by omega
      have hss : (⟨ds.toArray⟩ ++ ⟨#[32]⟩ : ByteArray) = ⟨(ds ++ [32]).toArray⟩ := by
        apply ByteArray.ext
        simp
      have HSS := hid hss
      clear hss
      have hlen : (Lib.byteCells (nameL (l.take k))).length + (⟨(ds ++ [32]).toArray⟩ : ByteArray).size ≤ 140737488355328 := by
        have h1 : (Lib.byteCells (nameL (l.take k))).length = (nameL (l.take k)).length := by simp [Lib.byteCells]
        have h2 : (⟨(ds ++ [32]).toArray⟩ : ByteArray).size = ds.length + 1 := by simp [ByteArray.size]
        omega
      go_wp2_with fail
      rw [HSS.out]
      ((with_reducible refine (writeStr_any w.heap.size w.heap.size (Lib.byteCells (nameL (l.take k))) ⟨(ds ++ [32]).toArray⟩ _ hbd hlen hsz).mono ?_))
      rintro e w2 ⟨rfl, hbd2, hb2⟩
      rw [Lib.strCells_toArray, ← Lib.byteCells_append, ← HW.out, ← HS.out] at hbd2
      clear hbd HS HW HSS hdl hdl2 c0
      go_wp2
      go_roundw
      case rel => exact ⟨k + 1, by omega, by go_num, .inr hbd2, hb.trans hb2⟩
      case measure => simp [intOf]; omega
    · have hkl : k = l.length := by omega
      subst hkl
      rw [List.take_length] at hbd
      have HB := hid hbd
      clear hbd
      go_wp2_with fail
      refine (Tryz.Builder_String_any w.heap.size w.heap.size (nameL l) _ HB.out hsz).mono ?_
      rintro e w1 ⟨rfl, hb1⟩
      go_wp2_with fail
      go_ret
      exact ⟨rfl, hb.trans hb1⟩
end Go.Proofs.YtoclbcfgfaialaaGreatDoor
