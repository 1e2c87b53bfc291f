/-
  The set of a list (configs.View.set): the walk.
-/
import Derived.Deep.CutBlock
import Derived.Test.YtnpcjbdolmmaeaaGreatDoorL13
import Derived.Test.YtnpcjbdolmmaeaaGreatDoorL14
namespace Go.Proofs.YtnpcjbdolmmaeaaGreatDoor
open Go.RowKit Go.Maps
set_option maxRecDepth 100000
def CfsO (w : World) (B : Nat) : List Cf.Cfg → List Value → Prop
  | [], vs => vs = []
  | x :: l, vs => ∃ A b, vs = cfC x A x.stack.length ++ b ∧ OwnC w B 3 1 (.slice A x.stack.length x.stack.length) x.stack.length (x.stack.map (Value.int .i64)) ∧ CfsO w B l b
theorem own_RO {w : World} {B n c : Nat} {T : TypeId} {s : Nat} {A : Option Addr} {xs : List Value} {S : Nat → Prop} (h : OwnC w B T s (.slice A n c) n xs) (hS : ∀ b, B ≤ b → b < w.heap.size → ¬ S b) : RO w S s A n xs := by
  have hr := h.reads
  refine ⟨hr.1, fun hp => ?_⟩
  obtain ⟨b, off, e, h1, h2⟩ := hr.2 hp
  refine ⟨b, off, e, h1, hS b ?_ h1, h2⟩
  subst e
  exact (ownC_lt h b rfl).1
theorem CfsO.cfs {w : World} {B : Nat} {S : Nat → Prop} (hS : ∀ b, B ≤ b → b < w.heap.size → ¬ S b) : ∀ {l : List Cf.Cfg} {vs : List Value}, CfsO w B l vs → CfsV w S l vs
  | [], _, h => h
  | _ :: _, _, h => by
    obtain ⟨A, b, e, h1, h2⟩ := h
    exact ⟨_, b, e, ⟨A, _, rfl, Nat.le_refl _, own_RO h1 hS⟩, CfsO.cfs hS h2⟩
theorem CfsO.snoc {w : World} {B : Nat} {x : Cf.Cfg} {A : Option Addr} (hx : OwnC w B 3 1 (.slice A x.stack.length x.stack.length) x.stack.length (x.stack.map (Value.int .i64))) : ∀ {l : List Cf.Cfg} {vs : List Value}, CfsO w B l vs → CfsO w B (l ++ [x]) (vs ++ cfC x A x.stack.length)
  | [], _, h => ⟨A, [], by rw [show _ = ([] : List Value) from h]; simp, hx, rfl⟩
  | _ :: _, _, h => by
    obtain ⟨A1, q, e, h1, h2⟩ := h
    exact ⟨A1, q ++ cfC x A x.stack.length, by rw [e, List.append_assoc], h1, CfsO.snoc hx h2⟩
theorem ownC_cells {w : World} {base : Nat} {e : TypeId} {size : Nat} {v : Value} {n k : Nat} {xs : List Value} (h : OwnC w base e size v n xs) (hk : v.ownBlock = some k) : ∃ cs, w.heap[k]? = some (.cells cs e (0, 0)) := by
  rcases h.2 with ⟨rfl, _⟩ | ⟨g, cap, cur, rfl, _, hh, _⟩
  · cases hk
  · injection hk with hk
    have hk : g = k := hk
    subst hk
    exact ⟨cur, hh⟩
theorem CfsO.only {w w' : World} {B : Nat} {S : Nat → Prop} (ho : Only S w w') (hS : ∀ k, S k → ∀ cs, w.heap[k]? ≠ some (.cells cs 3 (0, 0))) : ∀ {l : List Cf.Cfg} {vs : List Value}, CfsO w B l vs → CfsO w' B l vs
  | [], _, h => h
  | x :: l, _, h => by
    obtain ⟨A, b, e, h1, h2⟩ := h
    refine ⟨A, b, e, ownC_only h1 ho (fun k hk hs => ?_), CfsO.only ho hS h2⟩
    obtain ⟨cs, h3⟩ := ownC_cells h1 hk
    exact hS k hs cs h3
theorem CfsO.below {w w' : World} {B : Nat} (hb : Below w.heap.size w w') {l : List Cf.Cfg} {vs : List Value} (h : CfsO w B l vs) : CfsO w' B l vs := h.only (S := fun _ => False) (Only.of_below hb) (fun _ e => e.elim)
theorem ranges_iter {H : Type} {P : Program} {k : TypeId} {R : Value → Option (DataW H × List MemPlace)} {w : World} {b r n : Nat} {D : DataW H} {left : Lit → Bool} {cnt : Nat} (h : w.ranges P k R b r n D left cnt) : ∀ cs T, w.heap[r]? ≠ some (.cells cs T (0, 0)) := by
  obtain ⟨es, clock, since, seen, c0, _, _, _, _, hr, _⟩ := h
  intro cs T e
  rw [hr] at e
  cases e
theorem CfsO.cfs2 {w : World} {B : Nat} {S : Nat → Prop} (hS : ∀ k, S k → ∀ cs, w.heap[k]? ≠ some (.cells cs 3 (0, 0))) : ∀ {l : List Cf.Cfg} {vs : List Value}, CfsO w B l vs → CfsV w S l vs
  | [], _, h => h
  | _ :: _, _, h => by
    obtain ⟨A, b, e, h1, h2⟩ := h
    have hr := h1.reads
    refine ⟨_, b, e, ⟨A, _, rfl, Nat.le_refl _, ⟨hr.1, fun hp => ?_⟩⟩, CfsO.cfs2 hS h2⟩
    obtain ⟨b, off, e, h3, h4⟩ := hr.2 hp
    refine ⟨b, off, e, h3, fun hs => ?_, h4⟩
    subst e
    obtain ⟨cs, h5⟩ := ownC_cells h1 (k := b) rfl
    exact hS b hs cs h5
theorem elsO {w : World} {S : Nat → Prop} {B : Nat} : ∀ es : List (El w S), CfsO w B (es.map El.c) (flat encL es) → ∀ e ∈ es, e.n = e.c.stack.length ∧ OwnC w B 3 1 (.slice e.A e.c.stack.length e.c.stack.length) e.c.stack.length (e.c.stack.map (Value.int .i64))
  | [], _, _, he => (by cases he)
  | x :: es, h, e, he => by
    obtain ⟨A, b, h1, h2, h3⟩ := h
    rw [flat_cons] at h1
    obtain ⟨h4, h5⟩ := List.append_inj h1 rfl
    unfold encL cfC at h4
    injection h4 with _ h4
    injection h4 with _ h4
    injection h4 with h4 _
    injection h4 with h6 _ h7
    rcases List.mem_cons.1 he with rfl | he
    · exact ⟨h7, by rw [h6]; exact h2⟩
    · rw [← h5] at h3
      exact elsO es h3 e he
theorem elsO' {w : World} {S : Nat → Prop} {B : Nat} : ∀ es : List (El w S), (∀ e ∈ es, e.n = e.c.stack.length ∧ OwnC w B 3 1 (.slice e.A e.c.stack.length e.c.stack.length) e.c.stack.length (e.c.stack.map (Value.int .i64))) → CfsO w B (es.map El.c) (flat encL es)
  | [], _ => rfl
  | x :: es, h => by
    obtain ⟨h1, h2⟩ := h x (by simp)
    refine ⟨x.A, flat encL es, ?_, h2, elsO' es fun e he => h e (by simp [he])⟩
    rw [flat_cons]
    unfold encL
    rw [h1]
structure SetIn (w : World) (B : Nat) (CA AA : Option Addr) (s : Cf.St) : Prop where
  cfg : ∃ vs, OwnC w B 89 5 (.slice CA s.configs.length s.configs.length) s.configs.length vs ∧ CfsO w B s.configs vs
  alts : OwnC w B 3 1 (.slice AA s.alts.length s.alts.length) s.alts.length (s.alts.map (Value.int .i64))
def setAgg (CA AA : Option Addr) (s : Cf.St) : Value := .agg #[.slice CA s.configs.length s.configs.length, .slice AA s.alts.length s.alts.length, .bool s.over]
def SetP (v : Cf.Vw) (l : List Cf.Cfg) (w : World) (e : Ending) (w' : World) : Prop := ∃ s CA AA, e = .returned (setAgg CA AA s) ∧ Cf.IsSet v l s ∧ Cf.SetB v s ∧ SetIn w' w.heap.size CA AA s ∧ Below w.heap.size w w'
theorem cl_start {w w1 : World} {V : Nat} {a : VwA} {v : Cf.Vw} (hv : VwAt w w.heap.size V a v) (hT : PT w) (hb : Below w.heap.size w w1) :
    ClAt (((w1.alloc (.map #[] 0)).alloc (.map #[] 0)).alloc (.cells #[.pointer (some ⟨V, 0, none⟩), .map (some w1.heap.size), .slice none 0 0, .map (some (w1.heap.size + 1)), .bool false] 128)) ⟨V, w1.heap.size + 1 + 1, w1.heap.size, w1.heap.size + 1, w.heap.size, a, v⟩ ⟨[], [], false⟩ ∧
    Below w1.heap.size w1 (((w1.alloc (.map #[] 0)).alloc (.map #[] 0)).alloc (.cells #[.pointer (some ⟨V, 0, none⟩), .map (some w1.heap.size), .slice none 0 0, .map (some (w1.heap.size + 1)), .bool false] 128)) := by
  have z2 : (w1.alloc (.map #[] 0)).heap.size = w1.heap.size + 1 := by simp
  have z3 : ((w1.alloc (.map #[] 0)).alloc (.map #[] 0)).heap.size = w1.heap.size + 1 + 1 := by simp
  have hb4 : Below w1.heap.size w1 (((w1.alloc (.map #[] 0)).alloc (.map #[] 0)).alloc (.cells #[.pointer (some ⟨V, 0, none⟩), .map (some w1.heap.size), .slice none 0 0, .map (some (w1.heap.size + 1)), .bool false] 128)) := ((below_new w1 _).alloc (by omega) _).alloc (by omega) _
  have hbw := hb.trans (hb4.mono hb.size)
  have hsz := hb.size
  refine ⟨⟨⟨.slice none 0 0, [], ?_, World.ownsRow_nil _ _ _ _, rfl⟩, hv.below hbw, ⟨0, .map [], Nat.le_refl _, ((World.ownsMap_made w1 Tryz.prog 9 _).alloc _).alloc _, MetIs.start⟩, ⟨0, .map [], Nat.le_refl _, ?_, KepIs.start _ _⟩, (Lib.tabBelow_of_tabIs hT).on hbw, ⟨by show w.heap.size ≤ w1.heap.size + 1 + 1; omega, hsz, by show w.heap.size ≤ w1.heap.size + 1; omega⟩, ⟨by show w1.heap.size + 1 + 1 ≠ w1.heap.size; omega, by show w1.heap.size + 1 + 1 ≠ w1.heap.size + 1; omega, by show w1.heap.size ≠ w1.heap.size + 1; omega⟩, hbw.size⟩, hb4⟩
  · rw [← z3]; exact heap_alloc_new _ _
  · have := (World.ownsMap_made (w1.alloc (.map #[] 0)) Tryz.prog 9 asIs).alloc (.cells #[.pointer (some ⟨V, 0, none⟩), .map (some w1.heap.size), .slice none 0 0, .map (some (w1.heap.size + 1)), .bool false] 128)
    rw [z2] at this
    exact this
theorem meets_b {v : Cf.Vw} : ∀ (l : List Cf.Cfg) {c : Cf.Cl} {m k : Nat}, (∀ x ∈ l, Cf.Bd v x) → Cf.ClB v c m k → Cf.ClB v (l.foldl (Cf.meet v) c) (m + l.length) k
  | [], _, _, _, _, h => h
  | x :: l, c, m, k, hl, h => by
    have := meets_b l (fun y hy => hl y (by simp [hy])) (h.meet (hl x (by simp)))
    rw [List.foldl_cons, List.length_cons]
    exact this.mono (by omega) (Nat.le_refl _)
set_option maxHeartbeats 2000000 in
theorem hasNot_any (x : Cf.Cfg) (A : Option Addr) (c : Nat) (w : World) (b B V : Nat) (a : VwA) (v : Cf.Vw) (hv : VwAt w B V a v) (hB : B ≤ w.heap.size) (hb : w.cell? ⟨b, 0, none⟩ = some (.pointer (some ⟨V, 0, none⟩))) :
    Calls Tryz.prog 56 (#[.agg #[.int .i64 x.alt, .int .i64 x.state, .slice A x.stack.length c, .bool x.exact, .bool x.ended]] ++ #[.pointer (some ⟨b, 0, none⟩)]) w (fun e w' => e = .returned (.bool (!Cf.has v x)) ∧ Below w.heap.size w w') := by
  have hbl := World.block_lt_of_cell? w _ hb
  have hbn := below_new w (.cells #[.int .i64 x.alt, .int .i64 x.state, .slice A x.stack.length c, .bool x.exact, .bool x.ended] 89)
  have hb1 := (hbn.cell (p := ⟨b, 0, none⟩) hbl).trans hb
  have HB := hid hbn
  have hc := has_any x A c (w.alloc (.cells #[.int .i64 x.alt, .int .i64 x.state, .slice A x.stack.length c, .bool x.exact, .bool x.ended] 89)) B V a v (hv.below (hbn.mono hB)) (Nat.le_trans hB hbn.size)
  obtain ⟨q, hq⟩ : ∃ q, Cf.has v x = q := ⟨_, rfl⟩
  rw [hq] at hc
  rw [hq]
  have HC := hid hc
  clear hc hbn hq hb
  go_enter Tryz.func56, Tryz.ntmps56
  go_wp2_with fail
  go_at_call 35
  refine HC.out.mono ?_
  rintro _ w2 ⟨rfl, hb2⟩
  go_wp2
  go_ret
  exact ⟨rfl, HB.out.trans (hb2.mono HB.out.size)⟩
theorem cfs_one {w : World} {S : Nat → Prop} : ∀ {l : List Cf.Cfg} {vs : List Value}, CfsV w S l vs → ∀ u ∈ vs, u.oneCell' = true
  | [], _, h, u, hu => by rw [show _ = ([] : List Value) from h] at hu; cases hu
  | x :: l, _, h, u, hu => by
    obtain ⟨a, b, e, ⟨A, c, ea, _, _⟩, h2⟩ := h
    rw [e] at hu
    rcases List.mem_append.1 hu with hu | hu
    · rw [ea] at hu
      unfold cfC at hu
      simp only [List.mem_cons, List.mem_nil_iff, or_false] at hu
      rcases hu with rfl | rfl | rfl | rfl | rfl <;> rfl
    · exact cfs_one h2 u hu
theorem setf_enters : ∀ args w, (callFunc 56 args).run Tryz.prog w = .ok (.enter 56 args) w := fun _ _ => by kernel_rfl
theorem hasNot_pred {w w0 : World} {S : Nat → Prop} {l : List Cf.Cfg} {vs : List Value} {b B V : Nat} {a : VwA} {v : Cf.Vw} (hc : CfsV w0 S l vs) (hv : VwAt w B V a v) (hB : B ≤ w.heap.size) (hb : w.cell? ⟨b, 0, none⟩ = some (.pointer (some ⟨V, 0, none⟩))) :
    PredC5 56 #[.pointer (some ⟨b, 0, none⟩)] (fun x => !Cf.has v x) l vs w := by
  intro wr i x0 x1 x2 x3 x4 hi h0 h1 h2 h3 h4 hbl
  obtain ⟨A, c, _, _, hk⟩ := hc.at i hi
  have e0 := hk 0 (by omega)
  rw [Nat.add_zero, h0] at e0
  have e1 := hk 1 (by omega)
  rw [h1] at e1
  have e2 := hk 2 (by omega)
  rw [h2] at e2
  have e3 := hk 3 (by omega)
  rw [h3] at e3
  have e4 := hk 4 (by omega)
  rw [h4] at e4
  injection e0 with e0
  injection e1 with e1
  injection e2 with e2
  injection e3 with e3
  injection e4 with e4
  subst e0 e1 e2 e3 e4
  exact hasNot_any l[i] A c wr b B V a v (hv.below (hbl.mono hB)) (Nat.le_trans hB hbl.size) ((hbl.cell (p := ⟨b, 0, none⟩) (World.block_lt_of_cell? w _ hb)).trans hb)
theorem set3 {w : World} {b : Nat} {T : TypeId} {x0 x1 x2 : Value} (h : w.heap[b]? = some (.cells #[x0, x1, x2] T (0, 0))) (y0 y1 y2 : Value) :
    (((w.setCell ⟨b, 0, none⟩ y0).setCell ⟨b, 1, none⟩ y1).setCell ⟨b, 2, none⟩ y2).heap[b]? = some (.cells #[y0, y1, y2] T (0, 0)) ∧ Only (fun k => k = b) w (((w.setCell ⟨b, 0, none⟩ y0).setCell ⟨b, 1, none⟩ y1).setCell ⟨b, 2, none⟩ y2) := by
  have h1 := heap_setCell_same w b 0 _ _ y0 h
  have h2 := heap_setCell_same _ b 1 _ _ y1 h1
  have h3 := heap_setCell_same _ b 2 _ _ y2 h2
  exact ⟨h3, ((Only.of_set w b 0 y0).trans (Only.of_set _ b 1 y1) (fun _ _ e => e)).trans (Only.of_set _ b 2 y2) (fun _ _ e => e)⟩
theorem infoSet : (Tryz.prog.info? 43).map (·.size) = some 3 := by kernel_rfl
theorem cellsZi (zs : List Int) : ∀ u ∈ zs.map (Value.int .i64), u.oneCell' = true := by
  intro u hu
  obtain ⟨x, _, rfl⟩ := List.mem_map.1 hu
  rfl
theorem ClAt.waitAt {w : World} {f : ClF} {c : Cf.Cl} (h : ClAt w f c) {i : Nat} (hi : i < c.wait.length) : ∃ b off cw B cb, w.cell? ⟨f.C, 2, none⟩ = some (.slice (some ⟨b, off, none⟩) c.wait.length cw) ∧ c.wait[i].stack.length ≤ cb ∧ RO w (ClS w f) 1 B c.wait[i].stack.length (c.wait[i].stack.map (Value.int .i64)) ∧
    w.cell? ⟨b, off + i * 5, none⟩ = some (.int .i64 c.wait[i].alt) ∧ w.cell? ⟨b, off + i * 5 + 1, none⟩ = some (.int .i64 c.wait[i].state) ∧ w.cell? ⟨b, off + i * 5 + 2, none⟩ = some (.slice B c.wait[i].stack.length cb) ∧ w.cell? ⟨b, off + i * 5 + 3, none⟩ = some (.bool c.wait[i].exact) ∧ w.cell? ⟨b, off + i * 5 + 4, none⟩ = some (.bool c.wait[i].ended) := by
  obtain ⟨u, vs, _, _, c2, _, _, _, hown, hcv⟩ := h.cells
  obtain ⟨A, cw, rfl⟩ := row_form hown
  obtain ⟨b, off, rfl, _, hc⟩ := (Reads.of_own hown).2 (by omega)
  obtain ⟨B, cb, hcap, r, hk⟩ := hcv.at i hi
  refine ⟨b, off, cw, B, cb, c2, hcap, r, hc _ _ (by rw [show i * 5 = i * 5 + 0 from rfl, hk 0 (by omega)]; rfl), ?_, ?_, ?_, ?_⟩
  · have := hc _ _ (hk 1 (by omega)); rwa [← Nat.add_assoc] at this
  · have := hc _ _ (hk 2 (by omega)); rwa [← Nat.add_assoc] at this
  · have := hc _ _ (hk 3 (by omega)); rwa [← Nat.add_assoc] at this
  · have := hc _ _ (hk 4 (by omega)); rwa [← Nat.add_assoc] at this
theorem ClAt.waitLen {w : World} {f : ClF} {c : Cf.Cl} (h : ClAt w f c) : ∃ A cw, w.cell? ⟨f.C, 2, none⟩ = some (.slice A c.wait.length cw) := by
  obtain ⟨u, vs, _, _, c2, _, _, _, hown, hcv⟩ := h.cells
  obtain ⟨A, cw, rfl⟩ := row_form hown
  exact ⟨A, cw, c2⟩
set_option maxHeartbeats 8000000 in
theorem set_any (l : List Cf.Cfg) (v : Cf.Vw) (a : VwA) (V : Nat) (A : Option Addr) (c : Nat) (w : World) (hv : VwAt w w.heap.size V a v) (W : Cf.OkW v) (hl : ∀ x ∈ l, Cf.Bd v x) (hh : ∀ x ∈ l, Cf.has v x = true) (hln : l.length ≤ 3000000) (hr : CfR w (fun _ => False) A l) (hT : PT w) :
    Calls Tryz.prog 31 #[.pointer (some ⟨V, 0, none⟩), .slice A l.length c] w (SetP v l w) := by
  obtain ⟨w1, hw1⟩ : ∃ w1, w1 = (w.alloc (.cells #[.pointer (some ⟨V, 0, none⟩)] 29)).alloc (.cells #[.slice none 0 0, .slice none 0 0, .bool false] 43) := ⟨_, rfl⟩
  have z0 : (w.alloc (.cells #[.pointer (some ⟨V, 0, none⟩)] 29)).heap.size = w.heap.size + 1 := by simp
  have z1 : w1.heap.size = w.heap.size + 2 := by rw [hw1]; simp
  have hb1 : Below w.heap.size w w1 := by rw [hw1]; exact (below_new _ _).alloc (by omega) _
  have q0 : w1.heap[w.heap.size]? = some (.cells #[.pointer (some ⟨V, 0, none⟩)] 29 (0, 0)) := by
    rw [hw1, Below.heap_alloc _ _ _ (by omega)]; exact heap_alloc_new _ _
  have q1 : w1.heap[w.heap.size + 1]? = some (.cells #[.slice none 0 0, .slice none 0 0, .bool false] 43 (0, 0)) := by
    rw [hw1, ← z0]; exact heap_alloc_new _ _
  obtain ⟨hC4, hb4⟩ := cl_start hv hT hb1
  obtain ⟨f, hf⟩ : ∃ f, f = (⟨V, w1.heap.size + 1 + 1, w1.heap.size, w1.heap.size + 1, w.heap.size, a, v⟩ : ClF) := ⟨_, rfl⟩
  obtain ⟨w4, hw4⟩ : ∃ w4, w4 = (((w1.alloc (.map #[] 0)).alloc (.map #[] 0)).alloc (.cells #[.pointer (some ⟨V, 0, none⟩), .map (some w1.heap.size), .slice none 0 0, .map (some (w1.heap.size + 1)), .bool false] 128)) := ⟨_, rfl⟩
  rw [← hf, ← hw4] at hC4
  rw [← hw4] at hb4
  have fC : w1.heap.size + 1 + 1 = f.C := by rw [hf]
  have fB : f.B0 = w.heap.size := by rw [hf]
  have fv : f.v = v := by rw [hf]
  have fV : f.V = V := by rw [hf]
  have W' : Cf.OkW f.v := by rw [fv]; exact W
  have q0 := (hb4.block w.heap.size (by omega)).trans q0
  have q1 := (hb4.block (w.heap.size + 1) (by omega)).trans q1
  have hn4 : ∀ b, ClS w4 f b → w.heap.size + 2 ≤ b := fun b hk => by
    obtain ⟨u, vs, c0, c1, c2, c3, c4, _⟩ := hC4.cells
    have hu : w4.cell? ⟨f.C, 2, none⟩ = some (.slice none 0 0) := by
      rw [hw4, ← fC]
      have z3 : ((w1.alloc (.map #[] 0)).alloc (.map #[] 0)).heap.size = w1.heap.size + 1 + 1 := by simp
      rw [← z3, cell_new]; rfl
    rcases (ClS.get hu).1 hk with e | e | e | e
    · rw [e, ← fC]; omega
    · rw [e, hf]; show w.heap.size + 2 ≤ w1.heap.size; omega
    · rw [e, hf]; show w.heap.size + 2 ≤ w1.heap.size + 1; omega
    · cases e
  have hbw := hb1.trans (hb4.mono hb1.size)
  have hw1s : w1.heap.size = w.heap.size + 1 + 1 := by omega
  have hw4' := hw4
  rw [hw1s, hw1] at hw4'
  have HWX := hid hw4'
  clear hw4'
  have hCs : w.heap.size + 1 + 1 + 1 + 1 = f.C := by rw [← fC, hw1s]
  have HR4 := hid (hr.only (S' := ClS w4 f) (Only.of_below hbw) (fun b hb hk => by have := hn4 b hk; omega))
  have HQ0 := hid q0
  have HQ1 := hid q1
  have HC4 := hid hC4
  have HN4 := hid hn4
  have HBW := hid hbw
  have HV := hid hv
  have HL := hid hl
  have HHS := hid hh
  have HFV := hid fv
  have hfB := fB
  have hsz4 : w.heap.size + 2 ≤ w4.heap.size := Nat.le_trans (by omega) hb4.size
  have HR := hid hr
  clear hr hv hl hh fv fV hf hw4 hw1 hw1s z0 z1 hb1 q0 q1 hC4 hb4 fC hn4 hbw
  have hmm1 : ∀ u : World, (Instr.makeMap 110 none).run Tryz.prog u = .ok (.map (some u.heap.size)) (u.alloc (.map #[] 0)) := fun _ => rfl
  have hmm2 : ∀ u : World, (Instr.makeMap 126 none).run Tryz.prog u = .ok (.map (some u.heap.size)) (u.alloc (.map #[] 0)) := fun _ => rfl
  go_enter Tryz.func31, Tryz.ntmps31
  go_wp2_with fail
  go_step3
  go_wp2_with fail
  rw [← HWX.out]
  clear hmm1 hmm2
  go_loopw [7, 22] (fun _ i wr => ∃ j : Nat, j ≤ l.length ∧ i = .int .i64 (j : Int) ∧ ClAt wr f ((l.take j).foldl (Cf.meet f.v) ⟨[], [], false⟩) ∧ Steps f w4 wr) (fun _ i _ => l.length - (intOf i).toNat)
  case atStart => exact ⟨0, Nat.zero_le _, rfl, HC4.out, Steps.refl _ _⟩
  case round =>
    obtain ⟨j, hj, rfl, hCj, hSj⟩ := hrel
    have HCJ := hid hCj
    have HSJ := hid hSj
    by_cases hlt : j < l.length
    · obtain ⟨b, off, B, cb, hA, hbl, hbn, hcap, hro, r0, r1, r2, r3, r4⟩ := (HR4.out.only hSj.only hSj.same).at j hlt
      have hbj := meets_b (l.take j) (fun x hx => by rw [HFV.out]; exact HL.out x (List.mem_of_mem_take hx)) (Cf.ClB.mono (m' := 0) (k' := 0) ⟨fun _ h => (by cases h), fun _ h => (by cases h), Nat.le_refl _, Nat.le_refl _⟩ (Nat.le_refl _) (Nat.le_refl _) : Cf.ClB f.v ⟨[], [], false⟩ 0 0)
      rw [List.length_take, Nat.min_eq_left hj] at hbj
      have hbx : Cf.Bd f.v l[j] := by rw [HFV.out]; exact HL.out _ (List.getElem_mem hlt)
      have HFT := hid (fold_take (Cf.meet f.v) l ⟨[], [], false⟩ j hlt)
      generalize l[j] = x at hcap hro r0 r1 r2 r3 r4 hbx HFT
      generalize (l.take j).foldl (Cf.meet f.v) ⟨[], [], false⟩ = cj at hCj HCJ hbj HFT
      have HBX := hid hbx
      have HBJ := hid hbj
      have HRO := hid hro
      have HCAP := hid hcap
      have hbn2 := below_new wr (.cells #[.int .i64 x.alt, .int .i64 x.state, .slice B x.stack.length cb, .bool x.exact, .bool x.ended] 89)
      have HBN := hid hbn2
      clear hbx hbj hro hcap hCj hSj hbn hbn2
      have HA := hid hA
      rw [hA]
      clear hA
      go_wp2_with fail
      go_at_call 51
      have hbn := HBN.out
      generalize wr.alloc (.cells #[.int .i64 x.alt, .int .i64 x.state, .slice B x.stack.length cb, .bool x.exact, .bool x.ended] 89) = w5 at hbn ⊢
      have hS5 := Steps.of_below HCJ.out.lt hbn
      refine (meet_any f cj x B cb w5 (HCJ.out.below hbn) (clsz_of W' HBJ.out (by omega) (by omega)) (okc_of W' HBX.out) HCAP.out (HRO.out.only hS5.only hS5.same)).mono ?_
      rintro _ w6 ⟨rfl, hC6, hS6⟩
      go_wp2
      go_roundw
      case rel => exact ⟨j + 1, hlt, by go_num, by rw [HFT.out]; exact hC6, (HSJ.out.trans hS5).trans hS6⟩
      case measure => simp [intOf]; omega
    · have hje : j = l.length := by omega
      subst hje
      rw [List.take_length] at hCj HCJ
      have hr0 : Cf.Run f.v (l.foldl (Cf.meet f.v) ⟨[], [], false⟩) 0 := Cf.Run.start l (fun x hx => by rw [HFV.out]; exact HL.out x hx) Cf.Run.start0
      have HR0 := hid hr0
      have HFW := hid (Cf.start_few f.v l)
      clear hr0
      obtain ⟨c0, hc0⟩ : ∃ c0, l.foldl (Cf.meet f.v) ⟨[], [], false⟩ = c0 := ⟨_, rfl⟩
      rw [hc0] at HCJ HR0 hCj
      have HFC := hid (show Cf.closed f.v l = Cf.runC f.v 2002 0 c0 by rw [← hc0]; rfl)
      rw [show Cf.start f.v l = c0 from hc0] at HFW
      clear hc0
      go_wp2_with fail
      go_step3
      go_upto_block 2 with fail
      go_cut [8] from 15 (fun _ wx => ∃ c' n, Hid (ClAt wx f c' ∧ Steps f w4 wx ∧ Cf.Run f.v c' n ∧ Cf.closed f.v l = c'))
      case first =>
        clear hCj hSj
        go_wp2_with fail
        go_loopw [8] (fun p wr => ∃ (c' : Cf.Cl) (n : Nat), p = .int .i64 (n : Int) ∧ n ≤ 2001 ∧ n ≤ c'.wait.length ∧ Hid (ClAt wr f c' ∧ Steps f w4 wr ∧ Cf.Run f.v c' n ∧ Cf.closed f.v l = Cf.runC f.v (2002 - n) n c')) (fun p _ => 2002 - (intOf p).toNat)
        case atStart => exact ⟨c0, 0, rfl, by omega, by omega, hid ⟨HCJ.out, HSJ.out, HR0.out, HFC.out⟩⟩
        case round =>
          obtain ⟨c', n, rfl, hn, hnw, H⟩ := hrel
          have k4 : wr.cell? ⟨f.C, 4, none⟩ = some (.bool c'.over) := by obtain ⟨_, _, _, _, _, _, k4, _, _, _⟩ := H.out.1.cells; exact k4
          by_cases hlt : n < c'.wait.length
          · have f1 : decide ((n : Int) < (c'.wait.length : Int)) = true := decide_eq_true (by omega)
            obtain ⟨b, off, cw, B, cb, k2, hcap, hro, r0, r1, r2, r3, r4⟩ := H.out.1.waitAt hlt
            cases ho : c'.over with
            | true =>
              rw [ho] at k4
              have HFIN := hid (show Cf.closed f.v l = c' by rw [H.out.2.2.2]; exact Cf.runC_done (.inl ho))
              clear ho hcap hro
              go_wp2_with fail
              go_meet
              exact ⟨c', n, hid ⟨H.out.1, H.out.2.1, H.out.2.2.1, HFIN.out⟩⟩
            | false =>
              rw [ho] at k4
              obtain ⟨m, hb⟩ := H.out.2.2.1.b
              have hm := H.out.2.2.1.m ho
              have hbx := hb.wait _ (List.getElem_mem hlt)
              have hhx := H.out.2.2.1.has _ (List.getElem_mem hlt)
              have hnx := H.out.2.2.1.next W' hlt
              have hst := Cf.runC_step (v := f.v) (f := 2001 - n) ho hlt
              rw [show 2001 - n + 1 = 2002 - n by omega] at hst
              have hwt := Cf.close1_wait f.v c' c'.wait[n]
              have hcs := fun w5 h1 => close_any f c' c'.wait[n] 2000 (n * 701) B cb w5 h1 W' ⟨hb.wait, hb.kept, hm, hb.k⟩ (by omega) (by omega) hbx hhx hcap
              have HHH := hid (And.intro hnx (And.intro hst hwt))
              have HRO := hid hro
              generalize c'.wait[n] = x at r0 r1 r2 r3 r4 hcs HHH HRO
              have HCS := hid hcs
              have hn2 : n + 1 ≤ 2001 := by omega
              have HLT := hid hlt
              clear ho hcap hro hbx hhx hnx hst hwt hcs hb hm
              go_wp2_with fail
              go_at_call 52
              refine (HCS.out wr H.out.1 HRO.out).mono ?_
              rintro _ w6 ⟨rfl, hC6, hS6⟩
              go_wp2
              go_roundw
              case rel =>
                refine ⟨_, n + 1, by go_num, hn2, ?_, hid ⟨hC6, H.out.2.1.trans hS6, HHH.out.1, ?_⟩⟩
                · obtain ⟨r, hr⟩ := HHH.out.2.2
                  rw [hr, List.length_append]
                  have := HLT.out
                  omega
                · rw [H.out.2.2.2, HHH.out.2.1]
                  congr 1
                  omega
              case measure => simp [intOf]; omega
          · have f1 : decide ((n : Int) < (c'.wait.length : Int)) = false := decide_eq_false (by omega)
            obtain ⟨Aw, cw, k2⟩ := H.out.1.waitLen
            have HFIN := hid (show Cf.closed f.v l = c' by rw [H.out.2.2.2]; exact Cf.runC_done (.inr (by omega)))
            go_wp2_with fail
            go_meet
            exact ⟨c', n, hid ⟨H.out.1, H.out.2.1, H.out.2.2.1, HFIN.out⟩⟩
      case rest =>
        obtain ⟨c', n, H⟩ := hcut
        have k4 : wc.cell? ⟨f.C, 4, none⟩ = some (.bool c'.over) := by obtain ⟨_, _, _, _, _, _, k4, _, _, _⟩ := H.out.1.cells; exact k4
        have hsc := H.out.2.1.only.size
        have hq0 := (H.out.2.1.only.block w.heap.size (by omega) (fun hk => by have := HN4.out _ hk; omega)).trans HQ0.out
        have hq1 := (H.out.2.1.only.block (w.heap.size + 1) (by omega) (fun hk => by have := HN4.out _ hk; omega)).trans HQ1.out
        have e0 : wc.cell? ⟨w.heap.size, 0, none⟩ = some (.pointer (some ⟨V, 0, none⟩)) := by rw [Lib.cell_of_heap hq0]; rfl
        have HQ1C := hid hq1
        have hbwc : Below w.heap.size w wc := by
          have := HC4.out.stay H.out.2.1
          rw [hfB] at this
          exact HBW.out.trans this
        have HBC := hid hbwc
        have HRC := hid (HR4.out.only H.out.2.1.only H.out.2.1.same)
        have HQ0C := hid hq0
        clear hq0 hq1 hbwc hCj hSj
        cases ho : c'.over with
        | true =>
          rw [ho] at k4
          have HOV := hid ho
          clear ho
          obtain ⟨vs, hro, hcv⟩ := HRC.out
          have hcl := cloneC_any A l.length c wc.heap.size vs wc (by omega) hro.reads (cfs_one hcv)
          have HCL := hid hcl
          have HCV := hid hcv
          clear hcl hro hcv
          go_wp2_with fail
          go_at_call 55
          refine HCL.out.mono ?_
          rintro _ w2 ⟨A2, c2, rfl, hown2, hb2⟩
          have hbw2 := HBC.out.trans (hb2.mono HBC.out.size)
          have e0 := (hb2.cell (p := ⟨w.heap.size, 0, none⟩) (World.block_lt_of_cell? wc _ e0)).trans e0
          have hv2 := HV.out.below hbw2
          have hdel := deleteNone_any 56 #[.pointer (some ⟨w.heap.size, 0, none⟩)] (fun x => !Cf.has v x) setf_enters A2 c2 w2.heap.size l vs w2 (by omega) (Nat.le_refl _) (Reads.of_own hown2) (hasNot_pred HCV.out hv2 hbw2.size e0) (fun x hx => by rw [HHS.out x hx]; rfl)
          have HDEL := hid hdel
          have HOWN2 := hid hown2
          have HB2 := hid hb2
          have HBW2 := hid hbw2
          clear hdel hv2 hown2 hb2 hbw2
          go_wp2_with fail
          go_at_call 54
          refine HDEL.out.mono ?_
          rintro _ w3 ⟨rfl, hb3⟩
          have hb23 := HB2.out.trans (hb3.mono HB2.out.size)
          have hown3 := ownsRow_below HOWN2.out hb3 (Nat.le_refl _)
          have hcr : CfR w3 (fun _ => False) A2 l := ⟨vs, RO.of_reads (Reads.of_own hown3) (Nat.le_refl _) (fun _ e => e.elim), HCV.out.only (Only.of_below hb23) (fun _ _ e => e.elim)⟩
          have HCR := hid hcr
          have HBW3 := hid (HBW2.out.trans (hb3.mono HBW2.out.size))
          have hq3 := hb23.block (w.heap.size + 1) (by omega)
          clear hb3 hown3 hcr
          go_wp2_with fail
          go_at_call 53
          refine (alts_any l (fun _ => False) A2 c2 w3 HCR.out (by omega)).mono ?_
          rintro _ w5 ⟨AA, rfl, hAA, hb5⟩
          have hq3 := hq3.trans HQ1C.out
          have hq5 := (hb5.block (w.heap.size + 1) (heap_lt hq3)).trans hq3
          have z5 : ∀ i, w5.frozen? ⟨w.heap.size + 1, i, none⟩ = false := fun i => Lib.frozen_of_heap hq5 i
          obtain ⟨r0, r1, r2⟩ := cells3 hq5
          obtain ⟨hq6, ho6⟩ := set3 hq5 (.slice none 0 0) (.slice AA (altsOf l).length (altsOf l).length) (.bool true)
          have HQ6 := hid hq6
          have HO6 := hid ho6
          have HAA := hid hAA
          have HB5 := hid hb5
          have hq5' := hq5
          clear hq5 hq6 ho6 hAA hb5 hq3
          have HQ5 := hid hq5'
          clear hq5'
          go_wp2_with fail
          rw [Exit.noGoto_ret]
          refine bodyPost_ret (results_cell_row rfl _ _ (w.heap.size + 1) 43 _ _ _ rfl HQ6.out Tryz.underlying43 rfl infoSet) rfl ?_
          have hown6 := ownC_only HAA.out HO6.out (fun k hk e => ownC_not HAA.out HQ5.out (by decide) (by rw [hk]; exact congrArg some e))
          have hb6 : Below w.heap.size w5 _ := HO6.out.below' (fun b e => by omega) (Nat.le_trans HBW3.out.size HB5.out.size)
          refine ⟨⟨[], altsOf l, true⟩, none, AA, rfl, ?_, ⟨fun _ h => (by cases h), Nat.zero_le _⟩, ⟨⟨[], OwnC.of (World.ownsRow_nil _ _ _ _), rfl⟩, hown6.base HBW3.out.size⟩, (HBW3.out.trans (HB5.out.mono HBW3.out.size)).trans hb6⟩
          unfold Cf.IsSet
          rw [← HFV.out, H.out.2.2.2, if_pos HOV.out]
          exact ⟨rfl, rfl, by rw [HFV.out, List.filter_eq_self.2 HHS.out]; exact altsOf_alts l⟩
        | false =>
          rw [ho] at k4
          have HOV := hid ho
          clear ho
          have v7 : wc.cell? ⟨V, 7, none⟩ = some (.slice a.XA v.d.ends.length a.xc) := by rw [Lib.cell_of_heap (HV.out.below HBC.out).blk]; rfl
          have k3 : wc.cell? ⟨f.C, 3, none⟩ = some (.map (some f.K)) := by obtain ⟨_, _, _, _, _, k3, _, _, _, _⟩ := H.out.1.cells; exact k3
          obtain ⟨nk, D, hnk, hown, hkep⟩ := H.out.1.kept
          have hKl := hown.lt
          have HKEP := hid hkep
          clear hkep
          go_wp2_with (first
            | (at_range; refine wpList_range_own _ rfl _ 126 rfl 9 89 lawStr Tryz.underlying126 asIs f.K nk D rfl hown ?_; intro w6 hrg6 hg6 hs6)
            | go_in)
          go_frame
          have hb6 : Below wc.heap.size wc w6 := ⟨hg6.os, hg6.tape, hg6.output, hg6.size, fun k hk => hg6.block k hk (by simp)⟩
          have HG6 := hid hg6
          clear hg6
          go_loopw [9, 11] (fun s _ wr => ∃ (left : Lit → Bool) (cnt : Nat) (m : Int), s = .int .i64 m ∧ wr.ranges Tryz.prog 9 asIs f.K wc.heap.size nk D left cnt ∧ Hid (SureI v c'.kept left m ∧ (∀ kl, left kl = true → Maps.has D kl = true) ∧ Below wc.heap.size wc wr)) (fun _ _ wr => wr.rangeLeft f.K wc.heap.size)
          case atStart => exact ⟨_, _, _, rfl, hrg6, hid ⟨SureI.start (fun x hx => (HKEP.out.has x).2 ⟨x, hx, Cf.Like.refl _⟩), fun _ h => h, hb6⟩⟩
          case round =>
            obtain ⟨left, cnt, m, rfl, hrg, HI⟩ := hrel
            go_wp2_with (first
              | (at_next; refine wpList_next_ranges (α := Value) (β := Value) _ rfl _ rfl 9 lawStr asIs (fun x => x) (fun x => x) (fun key _ _ => ⟨key, rfl⟩) (fun u _ _ => ⟨u, rfl⟩) f.K wc.heap.size nk D left cnt rfl hrg ?_ ?_)
              | go_in)
            · intro hc0 hl0
              have HSU := hid (HI.out.1.done hl0)
              have hbr := HI.out.2.2
              have hCw : f.C < wc.heap.size := H.out.1.lt
              have k3 := (hbr.cell (p := ⟨f.C, 3, none⟩) hCw).trans k3
              have hownr := hrg.owns
              have hKr := Nat.lt_of_lt_of_le hKl hbr.size
              have HKR := hid (HKEP.out.only (S' := ClS wr f) (Only.of_below hbr) (fun b _ hk => (cls_of_cell (hbr.cell (p := ⟨f.C, 2, none⟩) hCw) b).1 hk))
              have HBR := hid hbr
              have hq1 := (hbr.block (w.heap.size + 1) (by omega)).trans HQ1C.out
              have HQ1R := hid hq1
              have HFEW := hid (H.out.2.2.1.m HOV.out)
              have hrz : w.heap.size + 2 ≤ wr.heap.size := by have := hbr.size; omega
              have HBWR := hid (HBC.out.trans (hbr.mono HBC.out.size))
              clear hbr HI hrg hrg6 HG6 hb6 hown k4 v7 e0 hq1 HRC HQ0C HQ1C
              go_wp2_with (first
                | (at_range; refine wpList_range_own _ rfl _ 126 rfl 9 89 lawStr Tryz.underlying126 asIs f.K nk D rfl hownr ?_; intro w8 hrg8 hg8 hs8)
                | go_in)
              go_frame
              have hb8 : Below wr.heap.size wr w8 := ⟨hg8.os, hg8.tape, hg8.output, hg8.size, fun k hk => hg8.block k hk (by simp)⟩
              go_loopw [12, 14] (fun out _ wq => ∃ (left : Lit → Bool) (cnt : Nat) (L : List Cf.Cfg) (vs : List Value), wq.ranges Tryz.prog 9 asIs f.K wr.heap.size nk D left cnt ∧ wq.ownsRow (wr.heap.size + 1) 89 5 out L.length vs ∧ Hid (OutI c'.kept m left L ∧ CfsO wq w.heap.size L vs ∧ (∀ kl, left kl = true → Maps.has D kl = true) ∧ Below wr.heap.size wr wq ∧ wr.heap.size + 1 ≤ wq.heap.size)) (fun _ _ wq => wq.rangeLeft f.K wr.heap.size)
              case atStart => exact ⟨_, _, [], [], hrg8, World.ownsRow_nil _ _ _ _, hid ⟨OutI.start (fun x hx => (HKR.out.has x).2 ⟨x, hx, Cf.Like.refl _⟩), rfl, fun _ h => h, hb8, by omega⟩⟩
              case round =>
                rename World => wq
                obtain ⟨left2, cnt2, L, vs, hrg, hout, HI⟩ := hrel
                obtain ⟨OA, oc, rfl⟩ := row_form hout
                go_wp2_with (first
                  | (at_next; refine wpList_next_ranges (α := Value) (β := Value) _ rfl _ rfl 9 lawStr asIs (fun x => x) (fun x => x) (fun key _ _ => ⟨key, rfl⟩) (fun u _ _ => ⟨u, rfl⟩) f.K wr.heap.size nk D left2 cnt2 rfl hrg ?_ ?_)
                  | go_in)
                · intro hc2 hl2
                  have hfew := HI.out.1.few H.out.2.2.1.kw rfl
                  have hL4 := Nat.le_trans hfew (Nat.mul_le_mul_left 2 HFEW.out)
                  have hnint : ∀ k, (Value.slice OA L.length oc).ownBlock = some k → ∀ cs, wq.heap[k]? ≠ some (.cells cs 3 (0, 0)) := fun k hk cs e => by
                    obtain ⟨cs', e'⟩ := ownC_cells (OwnC.of hout) hk
                    rw [e'] at e
                    injection e with e
                    injection e with _ e
                    exact absurd e (by decide)
                  have hcv := HI.out.2.1.cfs2 (S := fun k => (Value.slice OA L.length oc).ownBlock = some k) hnint
                  have hbx : ∀ x ∈ L, x.stack.length ≤ 1000000 := fun x hx => by
                    obtain ⟨_, y, hy, hlk, _⟩ := HI.out.1.of x hx
                    obtain ⟨mb, hbB⟩ := H.out.2.2.1.b
                    have := (hbB.kept y hy).len W'
                    rw [hlk.2.2.1]; omega
                  have hso := sortC_any (wr.heap.size + 1) (.slice OA L.length oc) (fun k => (Value.slice OA L.length oc).ownBlock = some k) L vs wq (by omega) hout hcv (fun _ e => e) hbx
                  have HSO := hid hso
                  have HNI := hid hnint
                  have HOL := hid hout.lt
                  have HCAP := hid (own_cap hout)
                  clear hso hcv hbx hnint hout hfew hrg
                  go_wp2_with fail
                  go_at_call 59
                  refine HSO.out.mono ?_
                  rintro _ w13 ⟨rfl, es, es', hes, hvs, hperm, hsrt, hown13, ho13⟩
                  have hO13 : CfsO w13 w.heap.size (es'.map El.c) (flat encL es') := by
                    have h1 := elsO es (by rw [hes, ← hvs]; exact HI.out.2.1)
                    exact (elsO' es' (fun e he => h1 e (hperm.mem_iff.1 he))).only ho13 (fun k hk cs => HNI.out k hk cs)
                  have hpL : (es'.map El.c).Perm L := (hperm.map El.c).trans (List.Perm.of_eq hes)
                  have hln' : (es'.map El.c).length = L.length := hpL.length_eq
                  have hcan := HI.out.1.done hl2 hpL hsrt
                  obtain ⟨L', hL'⟩ : ∃ L', es'.map El.c = L' := ⟨_, rfl⟩
                  obtain ⟨vs', hvs'⟩ : ∃ vs', flat encL es' = vs' := ⟨_, rfl⟩
                  rw [hL', hvs'] at hO13
                  rw [hL'] at hln' hcan
                  rw [hvs'] at hown13
                  have hb13 : Below wr.heap.size wr w13 := HI.out.2.2.2.1.trans (ho13.below' (fun b e => by have := (HOL.out b e).1; omega) HI.out.2.2.2.1.size)
                  have hcr : CfR w13 (fun _ => False) OA L' := ⟨vs', RO.of_reads (by rw [hln']; exact Reads.of_own hown13) (Nat.le_refl _) (fun _ e => e.elim), hO13.cfs (fun _ _ _ e => e)⟩
                  have hal := fun c1 => alts_any L' (fun _ => False) OA c1 w13 hcr (by omega)
                  rw [hln'] at hal
                  have HAL := hid hal
                  have HO13 := hid hO13
                  have HOW13 := hid hown13
                  have HCAN := hid hcan
                  have HB13 := hid hb13
                  have HLN := hid hln'
                  have hq13 := (hb13.block (w.heap.size + 1) (by omega)).trans HQ1R.out
                  clear hal hO13 hown13 hcan hb13 hln' hcr hpL hsrt hperm hes hvs ho13 hL' hvs' es es'
                  go_wp2_with fail
                  go_at_call 61
                  refine (clipC_any OA L.length oc w13 HCAP.out).mono ?_
                  rintro _ wx ⟨rfl, hwx⟩
                  rw [hwx]
                  clear hwx
                  go_wp2_with fail
                  go_at_call 53
                  refine (HAL.out oc).mono ?_
                  rintro _ w14 ⟨AA, rfl, hAA, hb14⟩
                  have hq14 := (hb14.block (w.heap.size + 1) (heap_lt hq13)).trans hq13
                  have z14 : ∀ i, w14.frozen? ⟨w.heap.size + 1, i, none⟩ = false := fun i => Lib.frozen_of_heap hq14 i
                  obtain ⟨r0, r1, r2⟩ := cells3 hq14
                  obtain ⟨hq15, ho15⟩ := set3 hq14 (.slice OA L.length L.length) (.slice AA (altsOf L').length (altsOf L').length) (.bool false)
                  obtain ⟨w15, hw15⟩ : ∃ w15, Hid (((w14.setCell ⟨w.heap.size + 1, 0, none⟩ (.slice OA L.length L.length)).setCell ⟨w.heap.size + 1, 1, none⟩ (.slice AA (altsOf L').length (altsOf L').length)).setCell ⟨w.heap.size + 1, 2, none⟩ (.bool false) = w15) := ⟨_, hid rfl⟩
                  rw [hw15.out] at hq15 ho15
                  have HQ15 := hid hq15
                  have HO15 := hid ho15
                  have HAA := hid hAA
                  have HB14 := hid hb14
                  have HQ14 := hid hq14
                  have hsz13 := HB13.out.size
                  clear hq14 hq15 ho15 hAA hb14 hq13
                  go_wp2_with fail
                  rw [Exit.noGoto_ret, hw15.out]
                  refine bodyPost_ret (results_cell_row rfl _ _ (w.heap.size + 1) 43 _ _ _ rfl HQ15.out Tryz.underlying43 rfl infoSet) rfl ?_
                  have hnb : ∀ k, k = w.heap.size + 1 → ∀ cs, w14.heap[k]? ≠ some (.cells cs 3 (0, 0)) := fun k hk cs e => by
                    rw [hk, HQ14.out] at e
                    injection e with e
                    injection e with _ e
                    exact absurd e (by decide)
                  have hown15 := ownC_only HAA.out HO15.out (fun k hk e => ownC_not HAA.out HQ14.out (by decide) (by rw [hk]; exact congrArg some e))
                  have hrow14 := ownsRow_below HOW13.out HB14.out (Nat.le_refl _)
                  have hrow15 := ownC_only ((OwnC.of hrow14).clip) HO15.out (fun k hk e => ownC_not ((OwnC.of hrow14).clip) HQ14.out (by decide) (by rw [hk]; exact congrArg some e))
                  have hstk15 := (HO13.out.below HB14.out).only HO15.out hnb
                  have hb15 : Below w.heap.size w14 _ := HO15.out.below' (fun b e => by omega) (Nat.le_trans (by omega) HB14.out.size)
                  have hrun := H.out.2.2.1.set HOV.out HCAN.out
                  rw [← HLN.out] at hrow15
                  rw [← HLN.out]
                  refine ⟨⟨L', altsOf L', false⟩, OA, AA, rfl, ?_, ⟨by rw [← HFV.out]; exact hrun.1, hrun.2⟩, ⟨⟨vs', hrow15.base (by omega), hstk15⟩, hown15.base (by omega)⟩, ((HBWR.out.trans (HB13.out.mono HBWR.out.size)).trans (HB14.out.mono (by omega))).trans hb15⟩
                  unfold Cf.IsSet
                  rw [← HFV.out, H.out.2.2.2, if_neg (by rw [HOV.out]; decide)]
                  have hsu := HSU.out
                  rw [← HFV.out] at hsu
                  rw [← hsu]
                  exact ⟨rfl, HCAN.out, altsOf_alts L'⟩
                · intro xk cv kl yd yp w7 cnt7 hkey hlk hv hat hrg7 hlt7 hg7 hs7 hen
                  obtain ⟨x0, hx0, rfl⟩ := HKR.out.keys kl (HI.out.2.2.1 kl hlk)
                  obtain ⟨y, Ay, cy, hel, hlike, hex, hry⟩ := HKR.out.elem x0 hx0
                  have hcv : cv = .agg (cfC y Ay cy).toArray := by
                    have h1 := hat (.map [])
                    rw [hel] at h1
                    have h2 : some (DataW.held cv, ([] : List MemPlace)) = some (yd, yp) := hv
                    injection h2 with h2
                    injection h2 with h2 _
                    rw [← h2] at h1
                    injection h1 with h1
                    exact h1.symm
                  subst hcv
                  unfold cfC at hen ⊢
                  try dsimp only at hen ⊢
                  have ho7 : Only (fun b => b = wr.heap.size) wq w7 := ⟨hg7.os, hg7.tape, hg7.output, hg7.size, fun k hk hn => hg7.block k hk (fun e => hn (Option.some.inj e))⟩
                  have hit := ranges_iter hrg
                  have hb7 : Below wr.heap.size wr w7 := ho7.below (fun b e => by omega) HI.out.2.2.2.1 HI.out.2.2.2.1.size
                  have hout7 := ownsRow_only hout ho7 (fun k hk e => by have := (hout.lt k hk).1; omega)
                  have hO7 : CfsO w7 w.heap.size L vs := HI.out.2.1.only ho7 (fun k hk cs => by rw [hk]; exact hit cs _)
                  have hfew := HI.out.1.few H.out.2.2.1.kw rfl
                  have HL4 := hid (Nat.le_trans hfew (Nat.mul_le_mul_left 2 HFEW.out))
                  obtain ⟨mb, hbB⟩ := H.out.2.2.1.b
                  have hyl : y.stack.length ≤ 5600 := by
                    have := (hbB.kept x0 hx0).len W'
                    rw [hlike.2.2.1]; exact this
                  have hry7 := (hry.only (S' := fun _ => False) (Only.of_below hb7) (fun _ _ e => e.elim)).reads
                  have HL0 := hid (show ∀ z, struck left2 (keyL x0 false) z = true → Maps.has D z = true from fun z hz => HI.out.2.2.1 z (struck_true hz))
                  have HLK := hid hlk
                  have HLIKE := hid hlike
                  have HEX := hid hex
                  have HX0 := hid hx0
                  have HO7 := hid hO7
                  have HOUT7 := hid hout7
                  have HB7 := hid hb7
                  have HRY7 := hid hry7
                  have HRG := hid hrg
                  have HRG7 := hid hrg7
                  have hsz7 : wr.heap.size + 1 ≤ w7.heap.size := Nat.le_trans HI.out.2.2.2.2 ho7.size
                  clear hlike hex hry hel hat hv hkey hb7 hrg hrg7 hg7 hs7 hO7 hout7 hfew hbB hry7 hit ho7 hout hlk hx0
                  by_cases hle : y.alt ≤ m
                  · have f7 : decide (y.alt ≤ m) = true := decide_eq_true hle
                    have HTK := hid (HI.out.1.take HX0.out HLK.out HLIKE.out HEX.out hle)
                    clear hle
                    go_wp2_with fail
                    go_at_call 58
                    have hb9 := below_new w7 (.cells #[.int .i64 y.alt, .int .i64 y.state, .slice Ay y.stack.length cy, .bool y.exact, .bool y.ended] 89)
                    have hbx := heap_alloc_new w7 (.cells #[.int .i64 y.alt, .int .i64 y.state, .slice Ay y.stack.length cy, .bool y.exact, .bool y.ended] 89)
                    have hz9 : (w7.alloc (.cells #[.int .i64 y.alt, .int .i64 y.state, .slice Ay y.stack.length cy, .bool y.exact, .bool y.ended] 89)).heap.size = w7.heap.size + 1 := by simp
                    generalize w7.alloc (.cells #[.int .i64 y.alt, .int .i64 y.state, .slice Ay y.stack.length cy, .bool y.exact, .bool y.ended] 89) = w9 at hb9 hbx hz9 ⊢
                    refine (cloneZ_any Ay y.stack.length cy w9.heap.size _ w9 (by omega) ((HRY7.out.below hb9).more hb9.size) (cellsZi y.stack)).mono ?_
                    rintro _ w10 ⟨A', cA, rfl, hcl, hb10⟩
                    have hcap := own_cap hcl
                    have hbx := (hb10.block w7.heap.size (by omega)).trans hbx
                    have z10 : ∀ i, w10.frozen? ⟨w7.heap.size, i, none⟩ = false := fun i => Lib.frozen_of_heap hbx i
                    have c10 : w10.cell? ⟨w7.heap.size, 2, none⟩ = some (.slice Ay y.stack.length cy) := by rw [Lib.cell_of_heap hbx]; rfl
                    have hB10 := hb9.trans (hb10.mono hb9.size)
                    have HCL := hid hcl
                    have HBX := hid hbx
                    have HB10 := hid hB10
                    clear hcl hbx hb9 hb10 hB10
                    go_wp2_with fail
                    go_at_call 57
                    refine (clipZ_any A' y.stack.length cA w10 hcap).mono ?_
                    rintro _ wx ⟨rfl, hwx⟩
                    rw [hwx]
                    clear hwx
                    go_upto_region 26 with fail
                    have hset := heap_setCell_same w10 w7.heap.size 2 _ _ (.slice A' y.stack.length y.stack.length) HBX.out
                    have ho11 := Only.of_set w10 w7.heap.size 2 (.slice A' y.stack.length y.stack.length)
                    generalize w10.setCell ⟨w7.heap.size, 2, none⟩ (.slice A' y.stack.length y.stack.length) = w11 at hset ho11 ⊢
                    have hset : w11.heap[w7.heap.size]? = some (.cells #[.int .i64 y.alt, .int .i64 y.state, .slice A' y.stack.length y.stack.length, .bool y.exact, .bool y.ended] 89 (0, 0)) := hset
                    have m0 : w11.cell? ⟨w7.heap.size, 0, none⟩ = some (.int .i64 y.alt) := by rw [Lib.cell_of_heap hset]; rfl
                    have m1 : w11.cell? ⟨w7.heap.size, 1, none⟩ = some (.int .i64 y.state) := by rw [Lib.cell_of_heap hset]; rfl
                    have m2 : w11.cell? ⟨w7.heap.size, 2, none⟩ = some (.slice A' y.stack.length y.stack.length) := by rw [Lib.cell_of_heap hset]; rfl
                    have m3 : w11.cell? ⟨w7.heap.size, 3, none⟩ = some (.bool y.exact) := by rw [Lib.cell_of_heap hset]; rfl
                    have m4 : w11.cell? ⟨w7.heap.size, 4, none⟩ = some (.bool y.ended) := by rw [Lib.cell_of_heap hset]; rfl
                    have hB11 : Below w7.heap.size w7 w11 := HB10.out.trans (ho11.below' (fun b e => by omega) HB10.out.size)
                    have hsk : OwnC w11 w.heap.size 3 1 (.slice A' y.stack.length y.stack.length) y.stack.length (y.stack.map (Value.int .i64)) :=
                      ((OwnC.of (ownsRow_only HCL.out ho11 (fun k hk e => by have := (HCL.out.lt k hk).1; omega))).clip).base (by omega)
                    have hO11 := CfsO.snoc hsk (HO7.out.below hB11)
                    have hout11 := ownsRow_below HOUT7.out hB11 (Nat.le_refl _)
                    have hrg11 := ranges_only (S := fun _ => False) HRG7.out (Only.of_below hB11) (fun e => e) (fun e => e)
                    obtain ⟨iC, hiC, hzC, hsC, hyC⟩ := info_of infoCfg
                    have hmx : L.length + 1 ≤ maxLen := by have := HL4.out; simp only [maxLen]; omega
                    have hmy : (L.length + 1) * 48 ≤ 140737488355328 := by have := HL4.out; omega
                    have hbs : wr.heap.size + 1 ≤ w11.heap.size := Nat.le_trans hsz7 hB11.size
                    have hcs : ∀ u ∈ [Value.int .i64 y.alt, .int .i64 y.state, .slice A' y.stack.length y.stack.length, .bool y.exact, .bool y.ended], u.oneCell' = true := fun u hu => by
                      simp only [List.mem_cons, List.mem_nil_iff, or_false] at hu
                      rcases hu with rfl | rfl | rfl | rfl | rfl <;> rfl
                    have HO11 := hid hO11
                    have HRG11 := hid hrg11
                    have HB11 := hid hB11
                    clear hset ho11 hO11 hrg11 hsk c10 z10
                    go_wp2_with (at_builtin; refine wpList_push4 w11 rfl _ _ 41 rfl (wr.heap.size + 1) 89 iC _ 5 48 Tryz.underlying41 hiC hzC hsC hyC rfl (by omega) (.slice OA L.length oc) L.length vs rfl hout11 [.int .i64 y.alt, .int .i64 y.state, .slice A' y.stack.length y.stack.length, .bool y.exact, .bool y.ended] 1 w11.heap.size rfl rfl rfl hcs Nat.zero_lt_one hmx hmy hbs ?_; intro g cg w12 hown12 hg12 ho12)
                    have hlt12 := hout11.lt
                    go_roundw
                    case rel =>
                      refine ⟨_, cnt7, L ++ [y], vs ++ cfC y A' y.stack.length, ranges_only HRG11.out ho12 (fun e => by have := (hlt12 _ e).1; omega) (fun e => by have := (hlt12 _ e).1; omega), by rw [List.length_append]; exact hown12, hid ⟨HTK.out, HO11.out.only ho12 (fun k hk cs e => ?_), HL0.out, (HB7.out.trans (HB11.out.mono HB7.out.size)).trans (ho12.below' (fun b e => by have := (hlt12 _ e).1; omega) (by omega)), Nat.le_trans hbs ho12.size⟩⟩
                      obtain ⟨cs', e'⟩ := ownC_cells (OwnC.of hout11) hk
                      rw [e'] at e
                      injection e with e
                      injection e with _ e
                      exact absurd e (by decide)
                    case measure =>
                      rw [(ranges_only HRG11.out ho12 (fun e => by have := (hlt12 _ e).1; omega) (fun e => by have := (hlt12 _ e).1; omega)).left_eq, HRG.out.left_eq]
                      exact hlt7
                  · have f7 : decide (y.alt ≤ m) = false := decide_eq_false hle
                    have HSK := hid (HI.out.1.skip HLIKE.out hle)
                    clear hle
                    go_wp2_with fail
                    go_roundw
                    case rel => exact ⟨_, cnt7, L, vs, HRG7.out.alloc _, HOUT7.out.alloc _, hid ⟨HSK.out, HO7.out.below (below_new _ _), HL0.out, HB7.out.alloc HB7.out.size _, by simp; omega⟩⟩
                    case measure => rw [(HRG7.out.alloc _).left_eq, HRG.out.left_eq]; exact hlt7
            · intro xk cv kl yd yp w7 cnt7 hkey hlk hv hat hrg7 hlt7 hg7 hs7 hen
              obtain ⟨x0, hx0, rfl⟩ := HKEP.out.keys kl (HI.out.2.1 kl hlk)
              obtain ⟨y, Ay, cy, hel, hlike, hex, hry⟩ := HKEP.out.elem x0 hx0
              have hcv : cv = .agg (cfC y Ay cy).toArray := by
                have h1 := hat (.map [])
                rw [hel] at h1
                have h2 : some (DataW.held cv, ([] : List MemPlace)) = some (yd, yp) := hv
                injection h2 with h2
                injection h2 with h2 _
                rw [← h2] at h1
                injection h1 with h1
                exact h1.symm
              subst hcv
              unfold cfC at hen ⊢
              try dsimp only at hen ⊢
              have HHI := hid (show SureI v c'.kept (struck left (keyL x0 false)) (if (y.ended && y.exact) = true then min m y.alt else m) by
                split
                · next h => exact HI.out.1.take hlike hex h
                · next h => exact HI.out.1.skip hlike hex (by simpa using h))
              have hb7 : Below wc.heap.size wc w7 := ⟨hg7.os.trans HI.out.2.2.os, hg7.tape.trans HI.out.2.2.tape, hg7.output.trans HI.out.2.2.output, Nat.le_trans HI.out.2.2.size hg7.size, fun k hk => by
                rw [hg7.block k (Nat.lt_of_lt_of_le hk HI.out.2.2.size) (fun e => by have := Option.some.inj e; omega)]; exact HI.out.2.2.block k hk⟩
              have HB7 := hid hb7
              have HHAS := hid (fun z (hz : struck left (keyL x0 false) z = true) => HI.out.2.1 z (struck_true hz))
              have HRG := hid hrg
              have HRG7 := hid hrg7
              clear hlike hex hry hel hat hv hkey hb7 hrg hrg7 hg7 hs7
              generalize y.stack.length = yl at *
              generalize y.alt = ya at *
              generalize y.state = ys at *
              generalize y.exact = ye at *
              generalize y.ended = yn at *
              cases yn <;> cases ye
              all_goals
                go_wp2_with fail
                go_roundw
                case rel => exact ⟨_, cnt7, _, rfl, HRG7.out.alloc _, hid ⟨HHI.out, HHAS.out, HB7.out.alloc HB7.out.size _⟩⟩
                case measure => rw [(HRG7.out.alloc _).left_eq, HRG.out.left_eq]; exact hlt7
end Go.Proofs.YtnpcjbdolmmaeaaGreatDoor
