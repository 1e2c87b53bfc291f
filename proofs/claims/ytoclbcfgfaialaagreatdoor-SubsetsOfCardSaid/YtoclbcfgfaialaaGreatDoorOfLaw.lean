/-
  Subsets: Of: the loop over the states: plain law, and what stands in memory amid it.
-/
import Derived.Test.YtoclbcfgfaialaaGreatDoorOfSt
namespace Go.Proofs.YtoclbcfgfaialaaGreatDoor
open Go.RowKit Go.Maps
set_option maxRecDepth 100000
/-- rising places -/
def GoodO (n : Nat) (o : List Int) : Prop := o.Pairwise (· < ·) ∧ ∀ p ∈ o, 0 ≤ p ∧ p < n
theorem rise_len : ∀ (o : List Int) (lo : Int) (n : Nat), o.Pairwise (· < ·) → (∀ p ∈ o, lo ≤ p ∧ p < n) → (o.length : Int) ≤ max 0 (n - lo)
  | [], _, _, _, _ => by simp; omega
  | x :: r, lo, n, h, hb => by
    rw [List.pairwise_cons] at h
    have h1 := rise_len r (x + 1) n h.2 fun p hp => ⟨by have := h.1 p hp; omega, (hb p (by simp [hp])).2⟩
    have h2 := hb x (by simp)
    rw [List.length_cons]
    omega
theorem GoodO.len {n : Nat} {o : List Int} (h : GoodO n o) : o.length ≤ n := by
  have := rise_len o 0 n h.1 h.2
  omega
theorem risesB_pair {l : List Int} {many : Int} (h : risesB l many = true) : l.Pairwise (· < ·) := by
  have h' := of_decide_eq_true h
  have step : ∀ j, 0 < j → (hj : j < l.length) → l[j - 1]'(by omega) < l[j] := fun j h0 hj => by
    have := (h' j hj).2.2 h0
    simpa [List.getD_eq_getElem?_getD, List.getElem?_eq_getElem hj, List.getElem?_eq_getElem (show j - 1 < l.length by omega)] using this
  rw [List.pairwise_iff_getElem]
  intro i j hi hj hij
  induction j with
  | zero => omega
  | succ j ih =>
    have hs := step (j + 1) (by omega) hj
    simp only [Nat.add_sub_cancel] at hs
    by_cases e : i = j
    · subst e; exact hs
    · have := ih (by omega) (by omega)
      omega
theorem risesB_good {l : List Int} {n : Nat} (h : risesB l n = true) : GoodO n l := ⟨risesB_pair h, fun _ hp => risesB_mem h hp⟩
theorem GoodO.nil (n : Nat) : GoodO n [] := ⟨.nil, by simp⟩
theorem GoodO.filter {n : Nat} {o : List Int} (h : GoodO n o) (f : Int → Bool) : GoodO n (o.filter f) := ⟨h.1.filter f, fun p hp => h.2 p (List.mem_filter.1 hp).1⟩
theorem nextM_good {a : Au} (hm : mayB a = true) (opens : List (List Int)) (s : Nat) : GoodO a.places.length (nextM a opens s) := by
  unfold nextM
  split
  · simp only [mayB, Bool.and_eq_true] at hm
    exact risesB_good hm.1
  · refine ⟨(placesOf_law _).1, fun p hp => ?_⟩
    rw [(placesOf_law _).2] at hp
    obtain ⟨q, _, hq⟩ := List.mem_flatMap.1 hp
    unfold Au.at at hq
    rw [List.getD_eq_getElem?_getD] at hq
    cases e : a.places[q.toNat]? with
    | none => rw [e] at hq; simp [noPl] at hq
    | some x =>
      rw [e] at hq
      exact (mayB_place hm (List.mem_of_getElem? e)).2.2 p hq
theorem stateM_good {a : Au} {n : Nat} {m : Mk} {o : List Int} (h : ∀ q ∈ m.opens, GoodO n q) (ho : GoodO n o) : ∀ q ∈ (stateM a m o).1.opens, GoodO n q := by
  unfold stateM
  split
  · exact h
  · intro q hq
    rcases List.mem_append.1 hq with e | e
    · exact h q e
    · simp at e; subst e; exact ho
theorem rowM_good {a : Au} {n : Nat} {nx : List Int} (hx : GoodO n nx) (rs : List Rg) : ∀ (m : Mk), (∀ q ∈ m.opens, GoodO n q) → ∀ q ∈ (rowM a nx rs m).1.opens, GoodO n q := by
  unfold rowM
  suffices H : ∀ (rs : List Rg) (x : Mk × List Int), (∀ q ∈ x.1.opens, GoodO n q) → ∀ q ∈ (rs.foldl (stepR a nx) x).1.opens, GoodO n q from fun m h => H rs (m, []) h
  intro rs
  induction rs with
  | nil => exact fun x h => h
  | cons r rs ih =>
    intro x h
    rw [List.foldl_cons]
    refine ih _ ?_
    unfold stepR
    split
    · exact h
    · exact stateM_good h (hx.filter _)
/-- amid the loop over the states -/
structure Loop (a : Au) (rs : List Rg) (s : Nat) (m : Mk) (rows : List (List Int)) : Prop where
  lp : loopM a rs (4098 - s) s m rows = tableM a rs
  good : ∀ q ∈ m.opens, GoodO a.places.length q
  sle : s ≤ 4096
  many : m.opens.length ≤ 2000000
  one : 1 ≤ m.opens.length
  el : m.ends.length = m.opens.length
  rl : rows.length = s
theorem Loop.start (a : Au) (rs : List Rg) : Loop a rs 0 start0 [] := ⟨rfl, by simp [start0]; exact GoodO.nil _, by omega, by simp [start0], by simp [start0], rfl, rfl⟩
theorem Loop.over {a : Au} {rs : List Rg} {s : Nat} {m : Mk} {rows : List (List Int)} (h : Loop a rs s m rows) (hs : ¬ s < m.opens.length) : tableM a rs = some (m, rows) := by
  rw [← h.lp]
  obtain ⟨f, hf⟩ : ∃ f, 4098 - s = f + 1 := ⟨4097 - s, by have := h.sle; omega⟩
  rw [hf, loopM, if_neg hs]
theorem Loop.full {a : Au} {rs : List Rg} {s : Nat} {m : Mk} {rows : List (List Int)} (h : Loop a rs s m rows) (hs : s < m.opens.length) (ht : tooMany m.opens.length rs.length = true) : tableM a rs = none := by
  rw [← h.lp]
  obtain ⟨f, hf⟩ : ∃ f, 4098 - s = f + 1 := ⟨4097 - s, by have := h.sle; omega⟩
  rw [hf, loopM, if_pos hs, if_pos ht]
theorem few {n k : Nat} (ht : tooMany n k = false) (h1 : 1 ≤ n) : n ≤ 4096 ∧ k ≤ 1048576 := by
  simp only [tooMany, Bool.or_eq_false_iff, decide_eq_false_iff_not] at ht
  refine ⟨by omega, ?_⟩
  have : 1 * k ≤ n * k := Nat.mul_le_mul_right k h1
  omega
theorem Loop.step {a : Au} {rs : List Rg} {s : Nat} {m : Mk} {rows : List (List Int)} (hm : mayB a = true) (h : Loop a rs s m rows) (hs : s < m.opens.length) (ht : tooMany m.opens.length rs.length = false) :
    Loop a rs (s + 1) (rowM a (nextM a m.opens s) rs m).1 (rows ++ [(rowM a (nextM a m.opens s) rs m).2]) := by
  obtain ⟨f1, f2⟩ := few ht h.one
  have hl := rowM_len a (nextM a m.opens s) rs m rs.length (Nat.le_refl _)
  rw [List.take_length] at hl
  have hg : m.opens.length ≤ (rowM a (nextM a m.opens s) rs m).1.opens.length := by
    unfold rowM
    suffices H : ∀ (rs : List Rg) (x : Mk × List Int), x.1.opens.length ≤ (rs.foldl (stepR a (nextM a m.opens s)) x).1.opens.length from H rs (m, [])
    intro rs
    induction rs with
    | nil => exact fun _ => Nat.le_refl _
    | cons r rs ih =>
      intro x
      rw [List.foldl_cons]
      refine Nat.le_trans ?_ (ih _)
      unfold stepR
      split
      · exact Nat.le_refl _
      · unfold stateM
        split <;> simp
  refine ⟨?_, rowM_good (nextM_good hm _ _) rs m h.good, by omega, by omega, by have := h.one; omega, by have := h.el; omega, by simp [h.rl]⟩
  rw [← h.lp]
  obtain ⟨f, hf⟩ : ∃ f, 4098 - s = f + 1 := ⟨4097 - s, by omega⟩
  have hf2 : 4098 - (s + 1) = f := by omega
  rw [hf, hf2, loopM, if_pos hs, if_neg (by rw [ht]; simp)]
/-- what stands in memory amid the loop over the states -/
structure L4 (c0 : Ctx) (w0 : World) (s : Nat) (rows : List (List Int)) (gs : List Nat) (m : Mk) (v : Vr) (nx : Value) (w : World) : Prop where
  st : MkSt { c0 with nx := nx } v m w
  nrow : w.ownsRow c0.B0 23 1 nx s (gs.map (rowV c0.rs.length))
  nS : ∀ j, nx.ownBlock = some j → ¬ SB c0 v j
  rws : RowsAt w (SX { c0 with nx := nx } v) c0.B0 gs rows c0.rs.length
  cls : OwnC w c0.B0 3 1 c0.cl c0.rs.length ((List.range c0.rs.length).map fun i : Nat => Value.int .i64 (i : Int))
  clsX : ∀ j, c0.cl.ownBlock = some j → ¬ SX { c0 with nx := nx } v j
  clsG : ∀ j, c0.cl.ownBlock = some j → ∀ y ∈ gs, j ≠ y
  rng : OwnC w c0.B0 66 2 (.slice c0.RA c0.rs.length c0.rc) c0.rs.length (flat encR c0.rs)
  rngX : ∀ j, (Value.slice c0.RA c0.rs.length c0.rc).ownBlock = some j → ¬ SX { c0 with nx := nx } v j
  bel : Below c0.B0 w0 w
  res : w.heap[c0.B0 + 1]? = some (.cells #[.slice none 0 0, .slice none 0 0, .slice none 0 0, .slice none 0 0] 43 (0, 0))
  resX : ¬ SX { c0 with nx := nx } v (c0.B0 + 1)
theorem heap_lt {w : World} {k : Nat} {o : Obj} (h : w.heap[k]? = some o) : k < w.heap.size := by
  rcases Nat.lt_or_ge k w.heap.size with h' | h'
  · exact h'
  · rw [Array.getElem?_eq_none h'] at h; cases h
theorem L4.SX_lt {c0 : Ctx} {w0 w : World} {s : Nat} {rows : List (List Int)} {gs : List Nat} {m : Mk} {v : Vr} {nx : Value} (h : L4 c0 w0 s rows gs m v nx w) (hro : c0.ro = none) : ∀ k, SX { c0 with nx := nx } v k → c0.B0 ≤ k ∧ k < w.heap.size := by
  intro k hk
  rcases hk with e | e | e
  · exact h.st.SB_ge e
  · exact h.nrow.lt k e
  · have e : c0.ro = some k := e
    rw [hro] at e; cases e
theorem L4.below {c0 : Ctx} {w0 w w' : World} {s : Nat} {rows : List (List Int)} {gs : List Nat} {m : Mk} {v : Vr} {nx : Value} (h : L4 c0 w0 s rows gs m v nx w) (hb : Below w.heap.size w w') : L4 c0 w0 s rows gs m v nx w' := by
  have ho : Only (fun _ => False) w w' := ⟨hb.os, hb.tape, hb.output, hb.size, fun k hk _ => hb.block k hk⟩
  exact ⟨h.st.below hb, ownsRow_only h.nrow ho fun _ _ e => e, h.nS, h.rws.only ho (fun _ _ e => e.elim) fun _ _ e => e, ownC_only h.cls ho fun _ _ e => e, h.clsX, h.clsG, ownC_only h.rng ho fun _ _ e => e, h.rngX, ho.below (fun _ e => e.elim) h.bel h.st.hB, (hb.block _ (heap_lt h.res)).trans h.res, h.resX⟩
theorem L4.row {c0 : Ctx} {w0 w w1 : World} {s : Nat} {rows : List (List Int)} {gs : List Nat} {m : Mk} {v : Vr} {nx : Value} {x : Mk × List Int} {e : Ending} (h : L4 c0 w0 s rows gs m v nx w) (hro : c0.ro = none)
    (hp : RowPost { c0 with nx := nx } v w x c0.rs.length e w1) :
    ∃ v' g, e = .returned (rowV c0.rs.length g) ∧ L4 c0 w0 s rows gs x.1 v' nx w1 ∧ c0.B0 ≤ g ∧ g < w1.heap.size ∧ ¬ SX { c0 with nx := nx } v' g ∧ x.2.length = c0.rs.length ∧ w1.heap[g]? = some (.cells (x.2.map (Value.int .i64)).toArray 3 (0, 0)) ∧ (∀ y ∈ gs, y < g) ∧ ∀ j, c0.cl.ownBlock = some j → j ≠ g := by
  obtain ⟨v', g, he, hmk, ho, hf, hg, hgl, hgX, hxl, hh⟩ := hp
  have hlt := h.SX_lt hro
  have hB := h.st.hB
  have hX : ∀ b, b < w.heap.size → SX { c0 with nx := nx } v' b → SX { c0 with nx := nx } v b := fun b hb e => by
    rcases e with e | e
    · rcases hf b e with e | e
      · exact .inl e
      · omega
    · exact .inr e
  refine ⟨v', g, he, ⟨hmk, ownsRow_only h.nrow ho fun j e1 e2 => h.nS j e1 e2, fun j e1 e2 => ?_, h.rws.only ho (fun b _ e => .inl e) hX, ownC_only h.cls ho fun j e1 e2 => h.clsX j e1 (.inl e2), fun j e1 e2 => ?_, h.clsG, ownC_only h.rng ho fun j e1 e2 => h.rngX j e1 (.inl e2), fun j e1 e2 => ?_, ?_, ?_, fun e => ?_⟩, ?_, hgl, hgX, hxl, hh, fun y hy => ?_, fun j e1 => by have := (ownC_lt h.cls j e1).2; omega⟩
  · rcases hf j e2 with e | e
    · exact h.nS j e1 e
    · have := (h.nrow.lt j e1).2; omega
  · exact h.clsX j e1 (hX j (ownC_lt h.cls j e1).2 e2)
  · exact h.rngX j e1 (hX j (ownC_lt h.rng j e1).2 e2)
  · exact ho.below (fun j e => (hlt j (.inl e)).1) h.bel hB
  · exact (ho.block _ (heap_lt h.res) fun e => h.resX (.inl e)).trans h.res
  · exact h.resX (hX _ (heap_lt h.res) e)
  · have : c0.B0 ≤ w.heap.size := hB
    omega
  · have := (h.rws.lt hy).2; omega
theorem L4.push {c0 : Ctx} {w0 w w2 : World} {s : Nat} {rows : List (List Int)} {gs : List Nat} {m : Mk} {v : Vr} {nx : Value} {row : List Int} {g g2 cg : Nat} (h : L4 c0 w0 s rows gs m v nx w)
    (hg : c0.B0 ≤ g) (hgl : g < w.heap.size) (hgX : ¬ SX { c0 with nx := nx } v g) (hxl : row.length = c0.rs.length) (hh : w.heap[g]? = some (.cells (row.map (Value.int .i64)).toArray 3 (0, 0))) (hgs : ∀ y ∈ gs, y < g) (hcg : ∀ j, c0.cl.ownBlock = some j → j ≠ g)
    (hown : w2.ownsRow c0.B0 23 1 (.slice (some ⟨g2, 0, none⟩) (s + 1) cg) (s + 1) (gs.map (rowV c0.rs.length) ++ [rowV c0.rs.length g])) (hg2 : nx.ownBlock = some g2 ∨ w.heap.size < g2) (ho : Only (fun j => nx.ownBlock = some j) w w2) :
    L4 c0 w0 (s + 1) (rows ++ [row]) (gs ++ [g]) m v (.slice (some ⟨g2, 0, none⟩) (s + 1) cg) (w2.setCell ⟨c0.M, 5, none⟩ (.slice (some ⟨g2, 0, none⟩) (s + 1) cg)) := by
  have hlt : ∀ k, k = c0.M ∨ nx.ownBlock = some k → c0.B0 ≤ k := fun k e => e.elim (fun e => by rw [e]; exact h.st.hM) fun e => (h.nrow.lt k e).1
  have hsub : ∀ b, (b = c0.M ∨ nx.ownBlock = some b) → SX { c0 with nx := nx } v b := fun b e => e.elim (fun e => .inl (.inl e)) fun e => .inr (.inl e)
  obtain ⟨h1, h2, h3, h4, h5⟩ := h.st.push_next h.nrow h.nS hown (hg2.imp id fun e => Nat.le_of_lt e) ho
  have h2' : Only (fun j => j = c0.M ∨ nx.ownBlock = some j) w (w2.setCell ⟨c0.M, 5, none⟩ (.slice (some ⟨g2, 0, none⟩) (s + 1) cg)) := h2
  refine ⟨h1, by rw [List.map_append]; exact h3, h4, (h.rws.push hgs hg hgl hgX hxl hh).only h2' (fun b _ e => hsub b e) h5, ownC_only h.cls h2' fun j e1 e2 => h.clsX j e1 (hsub j e2), fun j e1 e2 => h.clsX j e1 (h5 j (ownC_lt h.cls j e1).2 e2), fun j e1 y hy => (List.mem_append.1 hy).elim (fun hy => h.clsG j e1 y hy) fun hy => by simp at hy; subst hy; exact hcg j e1,
    ownC_only h.rng h2' fun j e1 e2 => h.rngX j e1 (hsub j e2), fun j e1 e2 => h.rngX j e1 (h5 j (ownC_lt h.rng j e1).2 e2), h2'.below hlt h.bel h.st.hB, (h2'.block _ (heap_lt h.res) fun e => h.resX (hsub _ e)).trans h.res, fun e => h.resX (h5 _ (heap_lt h.res) e)⟩
abbrev ctxOf (B N : Nat) (a : Au) (PA : Option Addr) (cp : Nat) (FA : Option Addr) (cf : Nat) (rs : List Rg) (RA : Option Addr) (rc : Nat) : Ctx :=
  ⟨B, N + 1 + 1, N, a, PA, cp, FA, cf, rs, RA, rc, .slice none 0 0, .slice none 0 0, none, 0, none⟩
abbrev ctx3 (B N : Nat) (a : Au) (PA : Option Addr) (cp : Nat) (FA : Option Addr) (cf : Nat) (rs : List Rg) (RA : Option Addr) (rc : Nat) (vc : Value) (Ah : Option Addr) (ch : Nat) : Ctx :=
  ⟨B, N + 1 + 1, N, a, PA, cp, FA, cf, rs, RA, rc, vc, .slice none 0 0, Ah, ch, none⟩
theorem map_made {P : Program} {k : TypeId} {R : Value → Option (DataW Unit × List MemPlace)} {w : World} {b : Nat} (h : w.heap[b]? = some (.map #[] 0)) : w.ownsMap P k R b 0 (.map []) := by
  obtain ⟨es, cl, hb, F, h3, h4⟩ := World.ownsMap_made w P k R
  rw [heap_alloc_new] at hb
  injection hb with hb
  injection hb with h5 h6
  subst h5 h6
  exact ⟨#[], 0, h, F, h3, h4⟩
theorem row_one {w : World} {B b : Nat} {e : TypeId} {x : Value} (h : w.heap[b]? = some (.cells #[x] e (0, 0))) (hb : B ≤ b) : w.ownsRow B e 1 (.slice (some ⟨b, 0, none⟩) 1 1) 1 [x] :=
  ⟨rfl, .inr ⟨b, 1, #[x], rfl, hb, h, Nat.le_refl _, by decide, rfl, rfl⟩⟩
theorem Cl.start {B N : Nat} {a : Au} {PA : Option Addr} {cp : Nat} {FA : Option Addr} {cf : Nat} {rs : List Rg} {RA : Option Addr} {rc : Nat} {vc : Value} {Ah : Option Addr} {ch : Nat} {w0 w4 w : World}
    (h : Cl (ctxOf B N a PA cp FA cf rs RA rc) (N + 1 + 1 + 1) (N + 1) w4 rs.length rs.length vc (.slice Ah rs.length ch) w)
    (g1 : w4.heap[N]? = some (.map #[] 0)) (g2 : w4.heap[N + 1]? = some (.cells #[.slice none 0 0] 23 (0, 0))) (g4 : w4.heap[N + 1 + 1 + 1]? = some (.cells #[.int .i64 (-1)] 3 (0, 0)))
    (g0 : w4.heap[B + 1]? = some (.cells #[.slice none 0 0, .slice none 0 0, .slice none 0 0, .slice none 0 0] 43 (0, 0)))
    (hrng : OwnC w (N + 4) 66 2 (.slice RA rs.length rc) rs.length (flat encR rs)) (hpls : PlsR w0 B PA a.places) (hfst : Reads w0 B 1 FA a.first.length (a.first.map (Value.int .i64)))
    (hbw : Below B w0 w4) (hsz : N + 4 ≤ w4.heap.size) (hBN : B + 2 ≤ N) :
    L4 (ctx3 B N a PA cp FA cf rs RA rc vc Ah ch) w0 0 [] [] start0 ⟨.slice (some ⟨N + 1, 0, none⟩) 1 1, .slice (some ⟨N + 1 + 1 + 1, 0, none⟩) 1 1, 0, .map []⟩ (.slice none 0 0) w := by
  have hs := h.only.size
  have hbe : Below B w0 w := h.only.below (fun j e => by have e : j = N + 1 + 1 := e; omega) hbw (by omega)
  have hSX : ∀ k, SX (ctx3 B N a PA cp FA cf rs RA rc vc Ah ch) ⟨.slice (some ⟨N + 1, 0, none⟩) 1 1, .slice (some ⟨N + 1 + 1 + 1, 0, none⟩) 1 1, 0, .map []⟩ k → N ≤ k ∧ k < N + 4 := by
    intro k hk
    rcases hk with (e | e | e | e) | e | e
    · have e : k = N + 1 + 1 := e
      omega
    · have e : k = N := e
      omega
    · injection e with e
      have e : N + 1 = k := e
      omega
    · injection e with e
      have e : N + 1 + 1 + 1 = k := e
      omega
    · cases e
    · cases e
  have b1 := (h.only.block N (by omega) (show ¬ (N = N + 1 + 1) by omega)).trans g1
  have b2 := (h.only.block (N + 1) (by omega) (show ¬ (N + 1 = N + 1 + 1) by omega)).trans g2
  have b4 := (h.only.block (N + 1 + 1 + 1) (by omega) (show ¬ (N + 1 + 1 + 1 = N + 1 + 1) by omega)).trans g4
  have b0 := (h.only.block (B + 1) (by omega) (show ¬ (B + 1 = N + 1 + 1) by omega)).trans g0
  obtain ⟨hs', hrow, hbv⟩ := h.hld
  rw [List.take_length] at hbv
  refine ⟨⟨h.blk, hpls.below hbe, hfst.below hbe, ⟨_, row_one b2 (by show B ≤ N + 1; omega), rfl, fun i hi => ?_⟩, row_one b4 (by show B ≤ N + 1 + 1 + 1; omega), map_made b1, NamesOK.start, Nat.zero_le _, Nat.le_refl _, (by show B ≤ N + 1 + 1; omega), (by show B ≤ N; omega), (by show B ≤ w.heap.size; omega), ?_⟩,
    World.ownsRow_nil w _ _ _, (fun j e => by cases e), RowsAt.nil _ _ _ _, (OwnC.of h.cls).base (by show B ≤ w4.heap.size; omega), (fun j e e2 => ?_), (fun j _ y hy => by cases hy), hrng.base (by show B ≤ N + 4; omega), (fun j e e2 => ?_), hbe, b0, fun e => ?_⟩
  · have : i = 0 := by simp [start0] at hi; exact hi
    subst this
    exact ⟨none, 0, rfl, rfl, fun hn => absurd hn (by simp [start0])⟩
  · have hlen : (holdsOf a rs).length = rs.length := by simp [holdsOf]
    obtain ⟨Ah', ch', hv, hrd, _⟩ := Reads.own hrow
    injection hv with hv1 _ hv3
    subst hv1 hv3
    have hX2 : ∀ k, N + 4 ≤ k → ¬ SX (ctx3 B N a PA cp FA cf rs RA rc vc Ah ch) ⟨.slice (some ⟨N + 1, 0, none⟩) 1 1, .slice (some ⟨N + 1 + 1 + 1, 0, none⟩) 1 1, 0, .map []⟩ k := fun k hk e => by have := hSX k e; omega
    refine ⟨hs', ⟨?_, fun hn => ?_⟩, fun i hi => ?_⟩
    · rw [hbv.1]; simp
    · obtain ⟨b, off, e1, e2, e3⟩ := hrd.2 (by rw [hlen] at hn; exact hn)
      refine ⟨b, off, e1, e2, hX2 b ?_, e3⟩
      have := (hrow.lt b (by rw [e1]; rfl)).1
      omega
    · obtain ⟨Ai, ci, e, hr⟩ := hbv.2 i hi
      refine ⟨Ai, ci, e, hr.1, fun hn => ?_⟩
      obtain ⟨b, off, e1, e2, e3, e4⟩ := hr.2 hn
      refine ⟨b, off, e1, e2, hX2 b ?_, e4⟩
      have : ¬ b < w4.heap.size := fun e => e3 (.inl e)
      omega
  · have h1 := (h.cls.lt j e).1
    have h2 := (hSX j e2).2
    omega
  · have h1 := (ownC_lt hrng j e).1
    have h2 := (hSX j e2).2
    omega
  · have h2 := (hSX _ e).1
    have h2 : N ≤ B + 1 := h2
    omega
end Go.Proofs.YtoclbcfgfaialaaGreatDoor
