/-
  A list's twin in other memory, with two places of room behind; that it was left so: the walks of twin, left at ranges.
-/
import Derived.Test.YtoclbcfgfaialaaGreatDoorSameR
import Derived.Test.YtoclbcfgfaialaaGreatDoorBook
import Derived.Deep.DeepAppendRoom
import Derived.Lib.QuietBelow
namespace Go.Proofs.YtoclbcfgfaialaaGreatDoor
open Go.RowKit
open Go.Sort (grow)
set_option maxRecDepth 100000
/-- 'append(out, xs...)' where there is room, xs a slice that reads as a list, nil too -/
theorem wpList_append_spare_reads {P : Program} (w : World) {ops : Array Oper} {rest : List Oper} {o : Oper} {a : Act} {Q : Exit → Act → World → Prop} (hgd : o.guard = none) (s x : Operand) (t : TypeId)
    (ho : o.op = .call { callee := .builtin .append, args := #[s, x], argTypes := #[t, t] })
    (base : Nat) (e : TypeId) (i : TypeInfo) (size : Nat) (ht : P.underlying t = some (.slice e)) (hi : P.info? e = some i) (hsize : i.size = size)
    (g n cap : Nat) (xs : List Value) (hs : a.eval s = .slice (some ⟨g, 0, none⟩) n cap) (hown : w.ownsRow base e size (.slice (some ⟨g, 0, none⟩) n cap) n xs)
    (B : Nat) (A : Option Addr) (m c : Nat) (news : List Value) (hx : a.eval x = .slice A m c) (hr : Reads w B size A m news) (h1 : ∀ u ∈ news, u.oneCell' = true) (hroom : n + m ≤ cap)
    (h : ∀ w', w'.ownsRow base e size (.slice (some ⟨g, 0, none⟩) (n + m) cap) (n + m) (xs ++ news) → w.grownBy w' (some g) → wpList P ops Q rest (a.put o.dst (.slice (some ⟨g, 0, none⟩) (n + m) cap)) w') : wpList P ops Q (o :: rest) a w := by
  rcases A with _ | ad
  · have hm : m = 0 := by
      rcases Nat.eq_zero_or_pos m with h0 | h0
      · exact h0
      · obtain ⟨_, _, h, _⟩ := hr.2 h0
        cases h
    subst hm
    have hn : news = [] := List.eq_nil_of_length_eq_zero (by simpa using hr.1)
    subst hn
    have hrun : (Builtin.append_ #[t, t] o.type #[.slice (some ⟨g, 0, none⟩) n cap, .slice none 0 c]).run P w = .ok (.slice (some ⟨g, 0, none⟩) n cap) w := by
      rcases hown.2 with ⟨h0, _⟩ | ⟨g', cap', cur, hv, _, _, hnc, _⟩
      · cases h0
      · injection hv with _ _ hv
        subst hv
        simp [Builtin.append_, run_underlying ht, sizeOf, typeInfo, hi, Builtin.lenOf, Builtin.firstCells, hnc, storeCells]
    refine wpList_plain hgd fun _ hK => ?_
    unfold Oper.wp execOp
    simp only [ho, resolve, invoke, builtin, Sem.run_bind, Sem.run_pure, Result.andThen_ok, List.map_toArray, List.map_cons, List.map_nil, hs, hx, hrun]
    exact hK _ _ (h w (by simpa using hown) ⟨rfl, rfl, rfl, Nat.le_refl _, fun _ _ _ => rfl⟩)
  · refine wpList_append_own_spare (P := P) w hgd s x t ho base e i size ht hi hsize g n cap xs hs hown ad m c news hx hr.1 ?_ h1 hroom h
    intro j u hu
    rcases Nat.eq_zero_or_pos m with h0 | h0
    · subst h0
      have hn : news = [] := List.eq_nil_of_length_eq_zero (by simpa using hr.1)
      subst hn
      simp at hu
    · obtain ⟨b, off, hA, _, hc⟩ := hr.2 h0
      injection hA with hA
      subst hA
      have e : (⟨b, off, none⟩ : Addr).add j = ⟨b, off + j, none⟩ := by
        unfold Addr.add; by_cases h : j = 0 <;> simp [h]
      rw [e]; exact hc j u hu
/-- what twin answers -/
def TwinPost (l : List Rg) (m : Rg) (w : World) (e : Ending) (w' : World) : Prop :=
  ∃ g, e = .returned (.slice (some ⟨g, 0, none⟩) l.length (l.length + 2)) ∧ w'.ownsRow w.heap.size 66 2 (.slice (some ⟨g, 0, none⟩) (l.length + 2) (l.length + 2)) (l.length + 2) (flat encR (l ++ [m, m])) ∧ Below w.heap.size w w'
theorem grown_below {B : Nat} {W w w' : World} {g : Nat} (h : w.grownBy w' (some g)) (hW : Below B W w) (hB : B ≤ w.heap.size) (hg : B ≤ g) : Below B W w' :=
  hW.grown h hB fun k hk => by injection hk with hk; subst hk; exact hg
theorem grown_cell {w w' : World} {row : Option Nat} {b o : Nat} (h : w.grownBy w' row) (hb : b < w.heap.size) (hne : row ≠ some b) : w'.cell? ⟨b, o, none⟩ = w.cell? ⟨b, o, none⟩ := by
  simp only [World.cell?, h.block b hb (fun e => hne e.symm)]
theorem grown_lt {w w' : World} {row : Option Nat} {b : Nat} (h : w.grownBy w' row) (hb : b < w.heap.size) : b < w'.heap.size := Nat.lt_of_lt_of_le hb h.size
theorem addr0' (g k : Nat) : (⟨g, 0, none⟩ : Addr).add k = ⟨g, k, none⟩ := by
  unfold Addr.add; by_cases h : k = 0 <;> simp [h]
set_option maxHeartbeats 1600000 in
theorem twin_any (l : List Rg) (m : Rg) (A : Option Addr) (c : Nat) (w : World) (hm : l.length ≤ 1000000) (hr : Reads w w.heap.size 2 A l.length (flat encR l)) :
    Calls Tryz.prog 28 #[.slice A l.length c, .agg #[.int .i32 m.1, .int .i32 m.2]] w (TwinPost l m w) := by
  obtain ⟨i0, hi, hz0, hz1, hz2⟩ := info_parts infoR
  obtain ⟨w1, hw1⟩ : ∃ w1, Hid (w.alloc (.cells #[.int .i32 m.1, .int .i32 m.2] 66) = w1) := ⟨_, rfl⟩
  have hb1 : Below w.heap.size w w1 := by rw [← hw1.out]; exact below_new _ _
  have hs1 : Hid (w1.heap.size = w.heap.size + 1) := by rw [← hw1.out]; simp; exact hid trivial
  have c0 : w1.cell? ⟨w.heap.size, 0, none⟩ = some (.int .i32 m.1) := by rw [← hw1.out, cell_new]; rfl
  have c1 : w1.cell? ⟨w.heap.size, 1, none⟩ = some (.int .i32 m.2) := by rw [← hw1.out, cell_new]; rfl
  have hr1 := hr.next hb1
  have hl2 : ((l.length : Int) + 2) = ((l.length + 2 : Nat) : Int) := by omega
  have HL2 := hid hl2
  clear hl2
  go_enter Tryz.func28, Tryz.ntmps28
  go_wp2_with (first
    | (at_make; go_must (refine wpList_make_own (P := Tryz.prog) _ rfl _ _ 28 rfl w.heap.size 66 i0 _ 2 Tryz.underlying28 hi hz0 hz1 .i64 .i64 _ (l.length + 2) rfl rfl HL2.out (by rw [hz2]; omega) (by simp only [maxLen]; omega) (by simp) ?_); intro w2 hown2 hg2; rw [hw1.out] at hown2 hg2 ⊢; rw [hs1.out] at hown2 ⊢; have hb2 := hb1.grown hg2 (by have := hs1.out; omega) (fun k hk => by cases hk); have hr2 := hr.next hb2)
    | (at_builtin; (refine wpList_append_spare_reads (P := Tryz.prog) _ rfl (.tmp 10) (.tmp 11) 28 rfl w.heap.size 66 i0 2 Tryz.underlying28 hi hz1 (w.heap.size + 1) 0 (l.length + 2) [] rfl hown2 _ A l.length c (flat encR l) rfl hr2 (cells_oneR l) (by omega) ?_); intro w3 hown3 hg3; have hb3 := grown_below hg3 hb2 hb2.size (by omega); have c2 : w3.cell? ⟨w.heap.size, 0, none⟩ = some (.int .i32 m.1) := (grown_cell hg3 (grown_lt hg2 (by have := hs1.out; omega)) (by simp)).trans ((grown_cell hg2 (by have := hs1.out; omega) (by simp)).trans c0); have c3 : w3.cell? ⟨w.heap.size, 1, none⟩ = some (.int .i32 m.2) := (grown_cell hg3 (grown_lt hg2 (by have := hs1.out; omega)) (by simp)).trans ((grown_cell hg2 (by have := hs1.out; omega) (by simp)).trans c1); simp only [Nat.zero_add, List.nil_append] at hown3 ⊢)
    | (at_builtin; go_must (refine wpList_append_own_spare (P := Tryz.prog) _ rfl (.tmp 13) (.tmp 16) 28 rfl w.heap.size 66 i0 2 Tryz.underlying28 hi hz1 (w.heap.size + 1) l.length (l.length + 2) (flat encR l) rfl (hown3.alloc _) ⟨w3.heap.size, 0, none⟩ 2 2 [.int .i32 m.1, .int .i32 m.2, .int .i32 m.1, .int .i32 m.2] rfl rfl (fun j u hu => by rw [addr0', cell_new]; simpa using hu) (by simp [Value.oneCell']) (by omega) ?_); intro w4 hown4 hg4))
  go_ret
  refine ⟨w.heap.size + 1, rfl, ?_, grown_below hg4 (hb3.alloc hb3.size _) (by have := hb3.size; simp; omega) (by omega)⟩
  rw [flat_append]
  exact hown4
set_option maxHeartbeats 400000 in
theorem twinR_any (l : List Rg) (A : Option Addr) (c : Nat) (w : World) (hm : l.length ≤ 1000000) (hr : Reads w w.heap.size 2 A l.length (flat encR l)) :
    Calls Tryz.prog 10 #[.slice A l.length c] w (TwinPost l (-77, 0) w) := by
  go_enter Tryz.func10, Tryz.ntmps10
  go_wp2_with fail
  refine (twin_any l (-77, 0) A c w hm hr).mono ?_
  rintro e w1 ⟨g, rfl, h1, h2⟩
  go_wp2_with fail
  go_ret
  exact ⟨g, rfl, h1, h2⟩
theorem reads_prefix {w : World} {B : Nat} {A : Option Addr} {l m : List Rg} (h : Reads w B 2 A (l ++ m).length (flat encR (l ++ m))) : Reads w B 2 A l.length (flat encR l) := by
  refine ⟨flat_length encR 2 encR_len l, fun hn => ?_⟩
  obtain ⟨b, o, h1, h2, h3⟩ := h.2 (by simp; omega)
  refine ⟨b, o, h1, h2, fun j u hu => h3 j u ?_⟩
  have hj : j < (flat encR l).length := by
    rcases Nat.lt_or_ge j (flat encR l).length with h4 | h4
    · exact h4
    · rw [List.getElem?_eq_none h4] at hu; cases hu
  rw [flat_append, List.getElem?_append_left hj]
  exact hu
set_option maxHeartbeats 1600000 in
theorem left_any (l : List Rg) (m : Rg) (g : Nat) (B : Option Addr) (d : Nat) (w : World) (hm : l.length ≤ 1000000) (ht : Reads w w.heap.size 2 (some ⟨g, 0, none⟩) (l.length + 2) (flat encR (l ++ [m, m]))) (hr : Reads w w.heap.size 2 B l.length (flat encR l)) :
    Calls Tryz.prog 38 #[.slice (some ⟨g, 0, none⟩) l.length (l.length + 2), .slice B l.length d, .agg #[.int .i32 m.1, .int .i32 m.2]] w fun e w' => e = .returned (.bool true) ∧ Below w.heap.size w w' := by
  obtain ⟨w1, hw1⟩ : ∃ w1, Hid (w.alloc (.cells #[.int .i32 m.1, .int .i32 m.2] 66) = w1) := ⟨_, rfl⟩
  have hb1 : Below w.heap.size w w1 := by rw [← hw1.out]; exact below_new _ _
  have c0 : w1.cell? ⟨w.heap.size, 0, none⟩ = some (.int .i32 m.1) := by rw [← hw1.out, cell_new]; rfl
  have c1 : w1.cell? ⟨w.heap.size, 1, none⟩ = some (.int .i32 m.2) := by rw [← hw1.out, cell_new]; rfl
  have hlen2 : (l ++ [m, m]).length = l.length + 2 := by simp
  rw [← hlen2] at ht
  obtain ⟨b9, o9, h9, hb9, k0, k1⟩ := readsR ht hb1 l.length (by omega)
  injection h9 with h9
  injection h9 with h91 h92 _
  subst h91 h92
  obtain ⟨b9, o9, h9, _, k2, k3⟩ := readsR ht hb1 (l.length + 1) (by omega)
  injection h9 with h9
  injection h9 with h91 h92 _
  subst h91 h92
  rw [show (l ++ [m, m])[l.length]'(by omega) = m by simp] at k0 k1
  rw [show (l ++ [m, m])[l.length + 1]'(by omega) = m by rw [List.getElem_append_right (by omega)]; simp] at k2 k3
  rw [Nat.zero_add] at k0 k1 k2 k3
  rw [Nat.add_mul, Nat.one_mul] at k2 k3
  have htl : Reads w1 w1.heap.size 2 (some ⟨g, 0, none⟩) l.length (flat encR l) := (reads_prefix ht).next hb1
  have hr1 := hr.next hb1
  clear ht hlen2 hb9
  go_enter Tryz.func38, Tryz.ntmps38
  go_wp2_with fail
  rw [hw1.out]
  try simp only [Nat.add_sub_cancel_left]
  clear hw1
  have q0 := fun d os => cell_regrown c0 d os
  have q1 := fun d os => cell_regrown c1 d os
  have q2 := fun d os => cell_regrown k0 d os
  have q3 := fun d os => cell_regrown k1 d os
  have q4 := fun d os => cell_regrown k2 d os
  have q5 := fun d os => cell_regrown k3 d os
  have ca : ∀ dd os, Calls Tryz.prog 66 #[.slice (some ⟨g, 0, none⟩) l.length (l.length + 2), .slice B l.length d] (grow (redrawn w1 dd) os) fun e w'' => e = .returned (.bool true) ∧ ∃ p : Regrown, w'' = grow (redrawn w1 p.d) p.os := fun dd os => by
    have h9 := same_any (some ⟨g, 0, none⟩) B (l.length + 2) d l l (grow (redrawn w1 dd) os) (by omega) (htl.next (below_regrown w1 dd os)) (hr1.next (below_regrown w1 dd os))
    rw [decide_eq_true rfl] at h9
    exact Calls.regrown_of h9
  clear htl hr1 c0 c1 k0 k1 k2 k3
  refine wp_region_quiet_below (by kernel_rfl) (by kernel_rfl) ?_
  repeat (quiet_step (exact ca _ _))
  refine wpQuiet_nil ?_
  intro _ hw'
  obtain ⟨⟨dq, osq⟩, hw''⟩ := hw'
  subst hw''
  go_wp2
  go_ret
  exact ⟨rfl, hb1.trans ((below_regrown w1 dq osq).mono hb1.size)⟩
set_option maxHeartbeats 400000 in
theorem leftR_any (l : List Rg) (g : Nat) (B : Option Addr) (d : Nat) (w : World) (hm : l.length ≤ 1000000) (ht : Reads w w.heap.size 2 (some ⟨g, 0, none⟩) (l.length + 2) (flat encR (l ++ [(-77, 0), (-77, 0)]))) (hr : Reads w w.heap.size 2 B l.length (flat encR l)) :
    Calls Tryz.prog 14 #[.slice (some ⟨g, 0, none⟩) l.length (l.length + 2), .slice B l.length d] w fun e w' => e = .returned (.bool true) ∧ Below w.heap.size w w' := by
  go_enter Tryz.func14, Tryz.ntmps14
  go_wp2_with fail
  refine (left_any l (-77, 0) g B d w hm ht hr).mono ?_
  rintro e w1 ⟨rfl, h1⟩
  go_wp2_with fail
  go_ret
  exact ⟨rfl, h1⟩
end Go.Proofs.YtoclbcfgfaialaaGreatDoor
