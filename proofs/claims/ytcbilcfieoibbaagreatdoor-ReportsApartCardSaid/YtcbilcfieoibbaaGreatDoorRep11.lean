/-
  reports.Tree: the walk.
-/
import Derived.Test.YtcbilcfieoibbaaGreatDoorRpWr3
import Derived.Test.YtcbilcfieoibbaaGreatDoorRep8
namespace Go.Proofs.YtcbilcfieoibbaaGreatDoor
open Go.RowKit
set_option maxRecDepth 100000
def nilV : Value := .slice none 0 0
def tabV (R T : Value) : Value := .agg #[R, T, .slice none 0 0, .slice none 0 0, .slice none 0 0, .slice none 0 0, .slice none 0 0, .slice none 0 0, .slice none 0 0, .slice none 0 0, .slice none 0 0, .slice none 0 0, .slice none 0 0]
theorem treeT_ne (n m w : List Rp.By) (T : Rp.Tr) : Rp.treeT n m w T ≠ [] := by
  cases T with
  | node r t k e s =>
    unfold Rp.treeT
    intro h
    have h2 := (List.append_eq_nil_iff.1 h).2
    split at h2
    · unfold Rp.tokT at h2
      have h3 := (List.append_eq_nil_iff.1 h2).2
      split at h3 <;> simp at h3
    · split at h2 <;> simp at h2
set_option maxHeartbeats 4000000 in
theorem tree_any (D : WrD) (K : Nat) (hn : Rp.Short K D.n) (hm : Rp.Short K D.m) (hw : Rp.Short K (txs D.tk)) (hK : 1 ≤ K) (hK2 : K ≤ 1000000) (T : Rp.Tr) (vs : List Value) (w : World) (hT : TB w.heap.size w)
    (hr : SR w w.heap.size D.RA D.n) (ht : SR w w.heap.size D.TA D.m) (htk : Reads w w.heap.size 3 D.WA D.tk.length (flat encTk D.tk)) (hx : TrR w w.heap.size T vs) (hsz : Rp.szT T * (13 * K + 6) ≤ 140737488355328) :
    Calls Tryz.prog 12 #[tabV (.slice D.RA D.n.length D.rc) (.slice D.TA D.m.length D.tc), .agg vs.toArray, .slice D.WA D.tk.length D.wc] w fun e w' => e = .returned (.string ⟨(Rp.treeT D.n D.m (txs D.tk) T).toArray⟩) ∧ Below w.heap.size w w' := by
  obtain ⟨r, t, k, e0, subs, rfl⟩ : ∃ r t k e subs, T = .node r t k e subs := by cases T; exact ⟨_, _, _, _, _, rfl⟩
  have hx0 := hx
  unfold TrR at hx0
  obtain ⟨A, c, xs, rfl, -⟩ := hx0
  unfold tabV
  obtain ⟨w1, hw1⟩ : ∃ w1, w1 = ((w.alloc (.cells #[.slice D.RA D.n.length D.rc, .slice D.TA D.m.length D.tc, .slice none 0 0, .slice none 0 0, .slice none 0 0, .slice none 0 0, .slice none 0 0, .slice none 0 0, .slice none 0 0, .slice none 0 0, .slice none 0 0, .slice none 0 0, .slice none 0 0] 61)).alloc (.cells #[.int .i64 r, .int .i64 t, .int .i64 k, .bool e0, .slice A subs.length c] 45)).alloc
      (.cells (wrCells (.pointer none) (.slice none 0 0) ⟨.slice D.RA D.n.length D.rc, .slice D.TA D.m.length D.tc, nilV, nilV, nilV, nilV, nilV, nilV, nilV, nilV, nilV, nilV, nilV, .slice D.WA D.tk.length D.wc⟩) 100) := ⟨_, rfl⟩
  have hb1 : Below w.heap.size w w1 := by rw [hw1]; exact ((below_new _ _).alloc (by simp) _).alloc (by simp; omega) _
  have hz1 : w.heap.size ≤ w1.heap.size := hb1.size
  have hI : IsWr w.heap.size (w.heap.size + 1 + 1) [] ⟨.slice D.RA D.n.length D.rc, .slice D.TA D.m.length D.tc, nilV, nilV, nilV, nilV, nilV, nilV, nilV, nilV, nilV, nilV, nilV, .slice D.WA D.tk.length D.wc⟩ w1 := by
    refine .inl ⟨by omega, .slice none 0 0, ?_, World.ownsRow_nil _ _ _ _⟩
    rw [hw1]
    have h9 := heap_alloc_new ((w.alloc (.cells #[.slice D.RA D.n.length D.rc, .slice D.TA D.m.length D.tc, .slice none 0 0, .slice none 0 0, .slice none 0 0, .slice none 0 0, .slice none 0 0, .slice none 0 0, .slice none 0 0, .slice none 0 0, .slice none 0 0, .slice none 0 0, .slice none 0 0] 61)).alloc (.cells #[.int .i64 r, .int .i64 t, .int .i64 k, .bool e0, .slice A subs.length c] 45)) (.cells (wrCells (.pointer none) (.slice none 0 0) ⟨.slice D.RA D.n.length D.rc, .slice D.TA D.m.length D.tc, nilV, nilV, nilV, nilV, nilV, nilV, nilV, nilV, nilV, nilV, nilV, .slice D.WA D.tk.length D.wc⟩) 100)
    simpa using h9
  have hO : WrOK w1 w.heap.size D ⟨.slice D.RA D.n.length D.rc, .slice D.TA D.m.length D.tc, nilV, nilV, nilV, nilV, nilV, nilV, nilV, nilV, nilV, nilV, nilV, .slice D.WA D.tk.length D.wc⟩ :=
    ⟨rfl, rfl, rfl, hr.below hb1, ht.below hb1, htk.below hb1⟩
  have HC := hid (wtree_any w.heap.size (w.heap.size + 1 + 1) _ D K hn hm hw hK hK2 (Rp.szT (.node r t k e0 subs)) (.node r t k e0 subs) [] w1 [.int .i64 r, .int .i64 t, .int .i64 k, .bool e0, .slice A subs.length c] (Nat.le_refl _) hI hO (hT.below hb1) (hx.keep hb1 (Nat.le_refl _)) (by simpa using hsz) hz1)
  clear hI hO
  go_enter Tryz.func12, Tryz.ntmps12
  go_wp2_with fail
  have hgo : ∀ W, W = w1 → Calls Tryz.prog 26 #[.pointer (some ⟨w.heap.size + 1 + 1, 0, none⟩), .agg #[.int .i64 r, .int .i64 t, .int .i64 k, .bool e0, .slice A subs.length c]] W _ := fun W e => by rw [e]; exact HC.out
  refine (hgo _ hw1.symm).mono ?_
  rintro e w2 ⟨rfl, hW, hk⟩
  rw [List.nil_append] at hW
  have HS := hid (stringW_any w.heap.size (w.heap.size + 1 + 1) _ _ w2 (.inr hW) (treeT_ne D.n D.m (txs D.tk) (.node r t k e0 subs)))
  clear hgo HC
  go_wp2_with fail
  refine HS.out.mono ?_
  rintro e w3 ⟨rfl, hb3⟩
  go_wp2_with fail
  go_ret
  exact ⟨rfl, hb1.trans (hk.1.trans hb3)⟩
end Go.Proofs.YtcbilcfieoibbaaGreatDoor
