/-
  A strings.Builder that is the first field of a writing: copyCheck, WriteByte, WriteString, String: the walks.
-/
import Derived.Test.YtcbilcfieoibbaaGreatDoorLib
import Derived.Test.YtcbilcfieoibbaaGreatDoorShelf
import Derived.Lib.Builder
import Derived.Lib.OthersKept
import Derived.Lib.AppendStr
import Derived.Laws.Externs
import Derived.Lib.UnsafeStr
import Derived.BigGuard
namespace Go.Proofs.YtcbilcfieoibbaaGreatDoor
open Go.RowKit
set_option maxRecDepth 100000
theorem infoByte : (Tryz.prog.info? 5).map (fun i => (i.zero, i.size, i.bytes)) = some (some (.int .u8 0), 1, 1) := by kernel_rfl
theorem sizeBld : (Tryz.prog.info? 98).map (·.size) = some 2 := by kernel_rfl
theorem liesWrt : liesAt Tryz.prog Tryz.prog.depth 100 (16 / Tryz.prog.cellsOf 100) 0 98 1 = true := by kernel_rfl
/-- what a writing holds behind its builder: tables, tokens -/
structure Wr where
  (R T D l0 l1 l2 l3 n0 n1 n2 n3 n4 L W : Value)
def wrCells (p v : Value) (x : Wr) : Array Value := #[p, v, x.R, x.T, x.D, x.l0, x.l1, x.l2, x.l3, x.n0, x.n1, x.n2, x.n3, x.n4, x.L, x.W]
def WrAt (B b : Nat) (p : Value) (l : List UInt8) (x : Wr) (w : World) : Prop :=
  B ≤ b ∧ ∃ v, w.heap[b]? = some (.cells (wrCells p v x) 100 (0, 0)) ∧ w.ownsRow B 5 1 v l.length (Lib.byteCells l)
def IsWr (B b : Nat) (l : List UInt8) (x : Wr) (w : World) : Prop := WrAt B b (.pointer none) l x w ∨ WrAt B b (.pointer (some ⟨b, 0, none⟩)) l x w
/-- what a call on a writing leaves as it was -/
def Kp (B b : Nat) (w w' : World) : Prop := Below B w w' ∧ Lib.OthersKept 5 (some b) w w'
theorem Kp.refl (B b : Nat) (w : World) : Kp B b w w := ⟨Below.refl _ _, Lib.OthersKept.refl _ _ _⟩
theorem Kp.trans {B b : Nat} {w w1 w2 : World} (h : Kp B b w w1) (k : Kp B b w1 w2) : Kp B b w w2 := ⟨h.1.trans k.1, h.2.trans k.2⟩
theorem Kp.alloc {B b : Nat} {w w1 : World} (h : Kp B b w w1) (hB : B ≤ w1.heap.size) (o : Obj) : Kp B b w (w1.alloc o) := ⟨h.1.alloc hB o, h.2.alloc o⟩
theorem Kp.drew {B b : Nat} {w w1 : World} (h : Kp B b w w1) : Kp B b w w1.drew := ⟨Below.drew h.1, h.2⟩
theorem Kp.cells {B b : Nat} {w w' : World} (h : Kp B b w w') {k : Nat} {cs : Array Value} {T : TypeId} {fz : Nat × Nat} (hk : w.heap[k]? = some (.cells cs T fz)) (hb : k ≠ b) (hT : T ≠ 5) : w'.heap[k]? = some (.cells cs T fz) :=
  h.2 k _ hk (fun e => hb (Option.some.inj e)) (fun c fz e => by injection e with _ e _; exact hT e)
theorem WrAt.heap {B b : Nat} {p : Value} {l : List UInt8} {x : Wr} {w : World} (h : WrAt B b p l x w) : ∃ v, w.heap[b]? = some (.cells (wrCells p v x) 100 (0, 0)) := by
  obtain ⟨_, v, h, _⟩ := h
  exact ⟨v, h⟩
theorem IsWr.heap {B b : Nat} {l : List UInt8} {x : Wr} {w : World} (h : IsWr B b l x w) : ∃ p v, w.heap[b]? = some (.cells (wrCells p v x) 100 (0, 0)) := by
  rcases h with h | h
  · obtain ⟨v, h⟩ := h.heap; exact ⟨_, v, h⟩
  · obtain ⟨v, h⟩ := h.heap; exact ⟨_, v, h⟩
theorem IsWr.ge {B b : Nat} {l : List UInt8} {x : Wr} {w : World} (h : IsWr B b l x w) : B ≤ b := h.elim (·.1) (·.1)
theorem IsWr.lt {B b : Nat} {l : List UInt8} {x : Wr} {w : World} (h : IsWr B b l x w) : b < w.heap.size := by
  obtain ⟨p, v, h⟩ := h.heap
  exact (Array.getElem?_eq_some_iff.1 h).1
theorem WrAt.alloc {B b : Nat} {p : Value} {l : List UInt8} {x : Wr} {w : World} (h : WrAt B b p l x w) (o : Obj) : WrAt B b p l x (w.alloc o) := by
  obtain ⟨hB, v, hb, hown⟩ := h
  exact ⟨hB, v, (Lib.alloc_old w o b (Array.getElem?_eq_some_iff.1 hb).1).trans hb, hown.alloc o⟩
theorem IsWr.alloc {B b : Nat} {l : List UInt8} {x : Wr} {w : World} (h : IsWr B b l x w) (o : Obj) : IsWr B b l x (w.alloc o) := h.imp (·.alloc o) (·.alloc o)
set_option maxHeartbeats 400000 in
theorem checkW_used (b : Nat) (w : World) (h0 : w.cell? ⟨b, 0, none⟩ = some (.pointer (some ⟨b, 0, none⟩))) :
    Calls Tryz.prog 64 #[.pointer (some ⟨b, 0, none⟩)] w fun e w' => e = .returned (.tuple #[]) ∧ w' = w := by
  obtain ⟨j, hj, _⟩ := Option.map_eq_some_iff.1 sizeBld
  go_enter Tryz.func64, Tryz.ntmps64
  go_wp2
  rw [Lib.run_neq_ptr_same w _ Tryz.underlying95 hj]
  go_wp2
  go_end0
  exact ⟨rfl, rfl⟩
set_option maxHeartbeats 400000 in
theorem checkW_fresh (b : Nat) (w : World) (h0 : w.cell? ⟨b, 0, none⟩ = some (.pointer none)) (hsh : w.shape? b = some (100, 16)) (hfz : w.frozen? ⟨b, 0, none⟩ = false) :
    Calls Tryz.prog 64 #[.pointer (some ⟨b, 0, none⟩)] w fun e w' => e = .returned (.tuple #[]) ∧ w' = w.setCell ⟨b, 0, none⟩ (.pointer (some ⟨b, 0, none⟩)) := by
  obtain ⟨j, hj, hjs⟩ := Option.map_eq_some_iff.1 sizeBld
  go_enter Tryz.func64, Tryz.ntmps64
  go_wp2
  rw [Lib.run_to_unsafe w ⟨b, 0, none⟩ Tryz.underlying95 Tryz.underlying228 hj (by rw [hjs]; decide) hsh (Nat.zero_lt_succ 15)]
  simp only [Result.andThen]
  rw [Oper.upon_value]
  go_wp2
  rw [run_callFunc_extern Tryz.func89 (by kernel_rfl) (by kernel_rfl) (by kernel_rfl) (e := Extern.AbiNoEscape.same) (by kernel_rfl)]
  rw [Lib.run_noEscape]
  simp only [Result.andThen]
  rw [Oper.upon_value]
  go_wp2
  rw [Lib.run_from_unsafe w ⟨b, 0, none⟩ Tryz.underlying228 Tryz.underlying95 hj hsh liesWrt]
  simp only [Result.andThen]
  rw [Oper.upon_value]
  go_wp2
  go_end0
  exact ⟨rfl, rfl⟩
theorem checkW_any (B b : Nat) (l : List UInt8) (x : Wr) (w : World) (h : IsWr B b l x w) :
    Calls Tryz.prog 64 #[.pointer (some ⟨b, 0, none⟩)] w fun e w' => e = .returned (.tuple #[]) ∧ (WrAt B b (.pointer (some ⟨b, 0, none⟩)) l x w' ∧ Kp B b w w') := by
  rcases h with h | h
  · have h' := h
    obtain ⟨hB, v, hb, hown⟩ := h
    refine (checkW_fresh b w (by rw [Lib.cell_of_heap hb]; rfl) (by simp [World.shape?, hb, wrCells]) (Lib.frozen_of_heap hb 0)).mono ?_
    rintro e w' ⟨rfl, rfl⟩
    refine ⟨rfl, ⟨hB, v, ?_, ?_⟩, (Below.refl B w).setCell (p := ⟨b, 0, none⟩) hB _, (Lib.OthersKept.refl _ _ _).setCell ⟨b, 0, none⟩ rfl _⟩
    · simp [World.setCell, Array.getElem?_modify, hb, wrCells]
    · exact hown.kept (row := some b) ⟨rfl, rfl, rfl, by simp [World.setCell], fun k _ hk => Below.heap_setCell _ _ _ _ (fun e => hk (by simp [e]))⟩ (Or.inr (Lib.ownBlock_ne hown hb (by decide)))
  · obtain ⟨hB, v, hb, hown⟩ := h
    refine (checkW_used b w (by rw [Lib.cell_of_heap hb]; rfl)).mono ?_
    rintro e w' ⟨rfl, rfl⟩
    exact ⟨rfl, ⟨hB, v, hb, hown⟩, Kp.refl _ _ _⟩
theorem wr_put {B b : Nat} {p v v' : Value} {l : List UInt8} {x : Wr} {w : World} (hB : B ≤ b) (hb : w.heap[b]? = some (.cells (wrCells p v x) 100 (0, 0))) (hown : w.ownsRow B 5 1 v' l.length (Lib.byteCells l)) : WrAt B b p l x (w.setCell ⟨b, 1, none⟩ v') := by
  refine ⟨hB, v', ?_, ?_⟩
  · simp [World.setCell, Array.getElem?_modify, hb, wrCells]
  · exact hown.kept (row := some b) ⟨rfl, rfl, rfl, by simp [World.setCell], fun k _ hk => Below.heap_setCell _ _ _ _ (fun e => hk (by simp [e]))⟩ (Or.inr (Lib.ownBlock_ne hown hb (by decide)))
set_option maxHeartbeats 2000000 in
theorem writeByteW_any (B b : Nat) (l : List UInt8) (x : Wr) (c : UInt8) (w : World) (h : IsWr B b l x w) (hlen : l.length + 1 ≤ 140737488355328) (hBw : B ≤ w.heap.size) :
    Calls Tryz.prog 43 #[.pointer (some ⟨b, 0, none⟩), .int .u8 c.toNat] w fun e w' => e = .returned .nilIface ∧ (WrAt B b (.pointer (some ⟨b, 0, none⟩)) (l ++ [c]) x w' ∧ Kp B b w w') := by
  obtain ⟨i0, hi, hz0, hz1, hz2⟩ := info_parts infoByte
  generalize hcn : ((c.toNat : Nat) : Int) = cn
  go_enter Tryz.func43, Tryz.ntmps43
  go_wp2_with fail
  refine (checkW_any B b l x _ h).mono ?_
  rintro e w1 ⟨rfl, h1, hb1, hk1⟩
  obtain ⟨hB, v, hbk, hown⟩ := h1
  have hll : (Lib.byteCells l).length = l.length := Lib.byteCells_length l
  have hne := Lib.ownBlock_ne hown hbk (by decide)
  have c0 : w1.cell? ⟨b, 0, none⟩ = some (.pointer (some ⟨b, 0, none⟩)) := by rw [Lib.cell_of_heap hbk]; rfl
  have c1 : w1.cell? ⟨b, 1, none⟩ = some v := by rw [Lib.cell_of_heap hbk]; rfl
  clear hll
  go_wp2_with (at_builtin; refine wpList_append_own _ rfl _ _ 96 rfl B 5 i0 (.int .u8 0) 1 1 Tryz.underlying96 hi hz0 hz1 hz2 rfl (by decide) _ _ _ rfl (hown.alloc _) ⟨w1.heap.size, 0, none⟩ 1 1 [.int .u8 cn] rfl rfl ?c1 ?c2 ?c3 ?c4 ?c5 ?_)
  case c1 =>
    intro j u hj
    match j, hj with
    | 0, hj => simp at hj; subst hj; simp [Addr.add]
  case c2 => intro u hu; simp at hu; subst hu; rfl
  case c3 => unfold maxLen; omega
  case c4 => omega
  case c5 => have := hb1.size; simp; omega
  intro v' w2 hown' hgrow _
  have hlt : b < w1.heap.size := (Array.getElem?_eq_some_iff.1 hbk).1
  have hb2 : w2.heap[b]? = some (.cells (wrCells (.pointer (some ⟨b, 0, none⟩)) v x) 100 (0, 0)) := by
    rw [hgrow.block b (by simp; omega) (fun e => hne e.symm), Lib.alloc_old w1 _ b hlt]
    exact hbk
  have d0 : w2.cell? ⟨b, 0, none⟩ = some (.pointer (some ⟨b, 0, none⟩)) := by rw [Lib.cell_of_heap hb2]; rfl
  have d1 : w2.cell? ⟨b, 1, none⟩ = some v := by rw [Lib.cell_of_heap hb2]; rfl
  have f1 : w2.frozen? ⟨b, 1, none⟩ = false := Lib.frozen_of_heap hb2 1
  obtain ⟨g, cap, rfl⟩ : ∃ g cap, v' = .slice (some ⟨g, 0, none⟩) (l.length + 1) cap := by
    rcases hown'.2 with ⟨_, h0⟩ | ⟨g, cap, cur, hv, _⟩
    · omega
    · exact ⟨g, cap, hv⟩
  go_wp2
  go_ret
  refine ⟨rfl, ?_, ?_, ((hk1.alloc _).grown hgrow (Lib.ownsRowF_kind (World.ownsRowF_of (hown.alloc _)))).setCell ⟨b, 1, none⟩ rfl _⟩
  · refine wr_put hB hb2 ?_
    have he : Lib.byteCells (l ++ [c]) = Lib.byteCells l ++ [.int .u8 cn] := by rw [Lib.byteCells_append, ← hcn]; rfl
    rw [he, List.length_append]
    exact hown'
  · exact ((hb1.alloc (by have := hb1.size; omega) _).grown hgrow (by have := hb1.size; simp; omega) (fun k hk => (hown.lt k hk).1)).setCell (p := ⟨b, 1, none⟩) hB _
set_option maxHeartbeats 2000000 in
theorem writeStrW_any (B b : Nat) (l : List UInt8) (x : Wr) (s : List UInt8) (w : World) (h : IsWr B b l x w) (hlen : l.length + s.length ≤ 140737488355328) (hBw : B ≤ w.heap.size) :
    Calls Tryz.prog 45 #[.pointer (some ⟨b, 0, none⟩), .string ⟨s.toArray⟩] w fun e w' => e = .returned (.tuple #[.int .i64 s.length, .nilIface]) ∧ (WrAt B b (.pointer (some ⟨b, 0, none⟩)) (l ++ s) x w' ∧ Kp B b w w') := by
  obtain ⟨i0, hi, hz0, hz1, hz2⟩ := info_parts infoByte
  obtain ⟨S, hS⟩ : ∃ S : ByteArray, S = ⟨s.toArray⟩ := ⟨_, rfl⟩
  have hSs : S.size = s.length := by rw [hS]; simp [ByteArray.size]
  have hSc : Lib.strCells S = Lib.byteCells s := by rw [hS, Lib.strCells_eq]
  rw [← hS, ← hSs]
  rw [← hSs] at hlen
  clear hS
  go_enter Tryz.func45, Tryz.ntmps45
  go_wp2_with fail
  refine (checkW_any B b l x _ h).mono ?_
  rintro e w1 ⟨rfl, h1, hb1, hk1⟩
  obtain ⟨hB, v, hbk, hown⟩ := h1
  have hne := Lib.ownBlock_ne hown hbk (by decide)
  have c0 : w1.cell? ⟨b, 0, none⟩ = some (.pointer (some ⟨b, 0, none⟩)) := by rw [Lib.cell_of_heap hbk]; rfl
  have c1 : w1.cell? ⟨b, 1, none⟩ = some v := by rw [Lib.cell_of_heap hbk]; rfl
  have HS := hid hSs
  clear hSs
  go_wp2_with (at_builtin; refine Lib.wpList_append_own_string _ rfl _ _ 96 9 rfl B 5 i0 Tryz.underlying96 Tryz.underlying9 hi hz0 hz1 hz2 _ _ _ rfl hown S rfl ?c3 ?c4 ?c5 ?_)
  case c3 => unfold maxLen; omega
  case c4 => omega
  case c5 => have := hb1.size; omega
  intro v' w2 hown' hgrow _
  have hlt : b < w1.heap.size := (Array.getElem?_eq_some_iff.1 hbk).1
  have hb2 : w2.heap[b]? = some (.cells (wrCells (.pointer (some ⟨b, 0, none⟩)) v x) 100 (0, 0)) := by
    rw [hgrow.block b hlt (fun e => hne e.symm)]
    exact hbk
  have d0 : w2.cell? ⟨b, 0, none⟩ = some (.pointer (some ⟨b, 0, none⟩)) := by rw [Lib.cell_of_heap hb2]; rfl
  have d1 : w2.cell? ⟨b, 1, none⟩ = some v := by rw [Lib.cell_of_heap hb2]; rfl
  have f1 : w2.frozen? ⟨b, 1, none⟩ = false := Lib.frozen_of_heap hb2 1
  obtain ⟨ao, n', cap, rfl⟩ : ∃ ao n' cap, v' = .slice ao n' cap := by
    rcases hown'.2 with ⟨hv, _⟩ | ⟨g, cap, cur, hv, _⟩
    · exact ⟨_, _, _, hv⟩
    · exact ⟨_, _, _, hv⟩
  go_wp2
  go_ret2
  refine ⟨rfl, ?_, ?_, (hk1.grown hgrow (Lib.ownsRowF_kind (World.ownsRowF_of hown))).setCell ⟨b, 1, none⟩ rfl _⟩
  · refine wr_put hB hb2 ?_
    rw [Lib.byteCells_append, List.length_append, ← HS.out]
    exact hown'
  · exact (hb1.grown hgrow (by have := hb1.size; omega) (fun k hk => (hown.lt k hk).1)).setCell (p := ⟨b, 1, none⟩) hB _
set_option maxHeartbeats 2000000 in
theorem stringW_any (B b : Nat) (l : List UInt8) (x : Wr) (w : World) (h : IsWr B b l x w) (h0 : l ≠ []) :
    Calls Tryz.prog 27 #[.pointer (some ⟨b, 0, none⟩)] w fun e w' => e = .returned (.string ⟨l.toArray⟩) ∧ Below B w w' := by
  obtain ⟨p, hB, v, hbk, hown⟩ : ∃ p, WrAt B b p l x w := by
    rcases h with h | h
    · exact ⟨_, h⟩
    · exact ⟨_, h⟩
  have hl0 : l.length ≠ 0 := by simpa using h0
  obtain ⟨g, cap, cur, rfl, hbg, hg, hnc, hcm, hcs, htake⟩ : ∃ g cap cur, v = .slice (some ⟨g, 0, none⟩) l.length cap ∧ B ≤ g ∧ w.heap[g]? = some (.cells cur 5 (0, 0)) ∧ l.length ≤ cap ∧ cap ≤ maxLen ∧ cur.size = cap * 1 ∧ cur.toList.take (l.length * 1) = Lib.byteCells l := by
    rcases hown.2 with ⟨_, hz⟩ | ⟨g, cap, cur, hv, r⟩
    · exact absurd hz hl0
    · exact ⟨g, cap, cur, hv, r⟩
  have c1 : w.drew.cell? ⟨b, 1, none⟩ = some (.slice (some ⟨g, 0, none⟩) l.length cap) := by
    have : w.drew.heap[b]? = some (.cells (wrCells p (.slice (some ⟨g, 0, none⟩) l.length cap) x) 100 (0, 0)) := hbk
    rw [Lib.cell_of_heap this]; rfl
  have hSD : (Builtin.unsafeSliceData_ #[96] 149 #[.slice (some ⟨g, 0, none⟩) l.length cap]).run Tryz.prog w.drew = .ok (.pointer (some ⟨g, 0, none⟩)) w.drew :=
    Lib.run_unsafeSliceData_row _ _ _ _ _ _ (by omega)
  have hUS : (Builtin.unsafeString_ #[149, 3] 9 #[.pointer (some ⟨g, 0, none⟩), .int .i64 l.length]).run Tryz.prog w.drew = .ok (.string ⟨l.toArray⟩) (w.drew.freeze ⟨g, 0, none⟩ l.length) := by
    refine Lib.run_unsafeString_row w.drew 149 3 9 5 Tryz.underlying149 (by kernel_rfl) g cur.size (by have hg' : w.drew.heap[g]? = some (.cells cur 5 (0, 0)) := hg; simp [World.shape?, hg']) l h0 (by omega) (by unfold maxLen at hcm; omega) ?_
    intro j y hy
    have := hown.cells (g := g) rfl j (.int .u8 y.toNat) (by simp [Lib.byteCells, hy])
    exact this
  have mixed : Tryz.prog.follows .mixedOrders = true := by kernel_rfl
  go_enter Tryz.func27, Tryz.ntmps27
  go_wp2
  go_region_o
  all_goals (go_wp2; go_ret; exact ⟨rfl, Lib.below_freeze (Below.drew (Below.refl B w)) (p := ⟨g, 0, none⟩) hbg _⟩)
end Go.Proofs.YtcbilcfieoibbaaGreatDoor
